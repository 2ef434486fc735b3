import Derived.Test.YteidggmgknnibaaDoorW7
import Derived.Laws.BytesArg
import Derived.Laws.Concat
import Derived.Sort.Grow
namespace Go.Proofs.YteidggmgknnibaaDoor
open Go.RowKit Go.Lines Go.Sort

theorem str_app (a b : Bs) : (⟨a.toArray⟩ : ByteArray) ++ ⟨b.toArray⟩ = ⟨(a ++ b).toArray⟩ := by
  apply ByteArray.ext
  simp

theorem str_cons (c : UInt8) (t : Bs) : (⟨#[c]⟩ : ByteArray) ++ ⟨t.toArray⟩ = ⟨(c :: t).toArray⟩ := str_app [c] t

set_option maxRecDepth 100000 in
set_option maxHeartbeats 2000000 in
theorem digits_grow (u : Nat) (hu : u ≤ 2147483647) (w : World) :
    Calls Tryd.prog 14 #[.int .i64 u] w fun e w' => e = .returned (.string ⟨(Lib.decDigits u).toArray⟩) ∧ Hid (∃ os, w' = grow w os) := by
  go_enter Tryd.func14, Tryd.ntmps14
  go_wp2_with fail
  go_loopw [0, 3, 4] (fun nv tv kv wr => ∃ (k n : Nat) (t : Bs), k ≤ 10 ∧ n < 10 ^ (10 - k) ∧ n ≤ 2147483647 ∧ Dig u k n t ∧ t.length ≤ k ∧ nv = .int .i64 n ∧ tv = .string ⟨t.toArray⟩ ∧ kv = .int .i64 k ∧ Hid (∃ os, wr = grow w os))
    (fun nv tv kv _ => 10 - (intOf kv).toNat)
  case atStart => exact ⟨0, u, [], by omega, by omega, hu, .inl ⟨rfl, rfl, rfl⟩, by simp, rfl, rfl, rfl, Lib.hid ⟨#[], by simp⟩⟩
  case round =>
    obtain ⟨k, n, t, hk, hn, hn2, hD, htl, rfl, rfl, rfl, hB⟩ := hrel
    have HD := Lib.hid hD
    have Hn := Lib.hid hn
    clear hD hn
    by_cases hlt : k < 10
    · by_cases hgo : k = 0 ∨ 0 < n
      · have hgo2 : ((k : Int) == 0) = true ∨ (((k : Int) == 0) = false ∧ 0 < n) := by
          rcases hgo with h | h
          · left; rw [beq_iff_eq]; omega
          · by_cases h0 : k = 0
            · left; rw [beq_iff_eq]; omega
            · right; exact ⟨by rw [beq_eq_false_iff_ne]; omega, h⟩
        have hcv := run_convert_bytes_arg (P := Tryd.prog) (wr.alloc (.cells #[.int .u8 (48 + (n : Int) % 10)] 5)) 51 5 Tryd.underlying51 Tryd.underlying5 wr.heap.size 0 1 1 [48 + (n : Int) % 10] rfl (by
          intro i hi
          obtain rfl : i = 0 := by omega
          simp) 9 Tryd.underlying9
        have hes : strOfNums [48 + (n : Int) % 10] = ⟨#[UInt8.ofNat (48 + n % 10)]⟩ := by
          simp only [strOfNums, List.map_cons, List.map_nil]
          rw [show (48 + (n : Int) % 10).toNat = 48 + n % 10 by omega]
        rw [hes] at hcv
        clear hes hgo
        have fin : n / 10 < 10 ^ (10 - (k + 1)) := by
          have h1 := Hn.out
          rw [show 10 - k = (10 - (k + 1)) + 1 by omega, Nat.pow_succ] at h1
          omega
        have Hfin := Lib.hid fin
        clear fin
        rcases hgo2 with hb | ⟨hb, hpos⟩
        all_goals
          have hnext := Lib.hid (HD.out.next (by
            first
            | (left; have := beq_iff_eq.1 hb; omega)
            | (right; exact hpos)))
          go_wp2_with fail
          go_roundw
          case rel =>
            refine ⟨k + 1, n / 10, _, by omega, Hfin.out, by omega, hnext.out, by simp; omega, by go_num, ?_, by go_num, Lib.hid (by obtain ⟨os, h⟩ := hB.out; exact ⟨_, by rw [h, alloc_eq_grow, grow_grow]⟩)⟩
            rw [str_cons]; simp
          case measure => simp [intOf]; omega
      · have h0 : n = 0 := by omega
        have hk1 : 1 ≤ k := by omega
        have ht := HD.out.last hk1 h0
        have hb : ((k : Int) == 0) = false := by rw [beq_eq_false_iff_ne]; omega
        have Ht := Lib.hid ht
        have hn0 : (n : Int) < 1 := by omega
        clear ht h0 hgo
        go_wp2_with fail
        go_ret
        exact ⟨by rw [← Ht.out]; rfl, hB⟩
    · have hk1 : 1 ≤ k := by omega
      have h0 : n = 0 := by
        have := Hn.out
        rw [show 10 - k = 0 by omega] at this
        omega
      have ht := HD.out.last hk1 h0
      have Ht := Lib.hid ht
      clear ht h0
      go_wp2_with fail
      go_ret
      exact ⟨by rw [← Ht.out]; rfl, hB⟩

theorem below_grow (w : World) (os : Array Obj) : Below w.heap.size w (grow w os) :=
  ⟨rfl, rfl, rfl, by simp [grow], fun k hk => by
    show (w.heap ++ os)[k]? = w.heap[k]?
    rw [Array.getElem?_append_left hk]⟩

theorem digits_any (u : Nat) (hu : u ≤ 2147483647) (w : World) :
    Calls Tryd.prog 14 #[.int .i64 u] w fun e w' => e = .returned (.string ⟨(Lib.decDigits u).toArray⟩) ∧ Below w.heap.size w w' :=
  (digits_grow u hu w).mono fun e w' ⟨he, hg⟩ => ⟨he, by obtain ⟨os, rfl⟩ := hg.out; exact below_grow _ _⟩
end Go.Proofs.YteidggmgknnibaaDoor

import Derived.Test.YteidggmgknnibaaDoorW4
import Derived.Maps.AppendAt
namespace Go.Proofs.YteidggmgknnibaaDoor
open Go.RowKit Go.Lines Go.Sort

theorem Tryd.info9 : (Tryd.prog.info? 9).map (fun i => (i.zero, i.size, i.bytes)) = some (some (.string ByteArray.empty), 1, 16) := by kernel_rfl
def strV (x : Bs) : Value := .string ⟨x.toArray⟩
theorem below_grown {w w' : World} (h : Below w.heap.size w w') : w.grownBy w' none := ⟨h.os, h.tape, h.output, h.size, fun k hk _ => h.block k hk⟩

set_option maxRecDepth 100000 in
set_option maxHeartbeats 2000000 in
theorem line_may (k a b c d f : Int) (w : World) (hE : Env w) (hm : mayB ⟨k, a, b, c, d, f⟩ = true) :
    Calls Tryd.prog 4 #[.agg #[.int .i64 k, .int .i64 a, .int .i64 b, .int .i64 c, .int .i64 d, .int .i64 f]] w fun e w' =>
      e = .returned (.tuple #[.string ⟨(lineB ⟨k, a, b, c, d, f⟩).toArray⟩, .int .i64 0]) ∧ Below w.heap.size w w' := by
  have hmay : mayS ⟨k, a, b, c, d, f⟩ := of_decide_eq_true hm
  have hlo : 1 ≤ k := by unfold mayS at hmay; simp only at hmay; omega
  have hhi : k ≤ 7 := by unfold mayS at hmay; simp only at hmay; omega
  have hok : ∀ x ∈ offs k, 0 ≤ fld ⟨k, a, b, c, d, f⟩ x ∧ fld ⟨k, a, b, c, d, f⟩ x ≤ 2147483647 := by
    intro x hx
    unfold offs at hx
    unfold mayS okN at hmay
    simp only at hmay
    split at hx
    · simp at hx; subst hx; simp [fld]; omega
    · split at hx
      · simp at hx; rcases hx with rfl | rfl | rfl <;> simp [fld] <;> omega
      · split at hx
        · simp at hx; rcases hx with rfl | rfl | rfl | rfl <;> simp [fld] <;> omega
        · simp at hx
  have hline : lineB ⟨k, a, b, c, d, f⟩ = Lib.join (wordS k :: ((offs k).map (fld ⟨k, a, b, c, d, f⟩)).map Lib.itoa) [32] := by
    unfold lineB; rw [fields_offs]
  rw [hline]
  clear hmay hline
  obtain ⟨fl, hfl⟩ : ∃ fl, fl = fld ⟨k, a, b, c, d, f⟩ := ⟨_, rfl⟩
  rw [← hfl] at hok ⊢
  have Hfl := Lib.hid hfl
  clear hfl
  go_enter Tryd.func4, Tryd.ntmps4
  go_wp2_with fail
  refine (may_x k a b c d f _).mono ?_
  rintro e w1 ⟨rfl, hb1⟩
  have hE1 : Env w1 := (hE.below hE.size (((Below.refl _ w).alloc (Nat.le_refl _) _).trans (hb1.mono (by simp))))
  have hw := hE1.words k.toNat (by omega)
  rw [Int.toNat_of_nonneg (by omega)] at hw
  have hB1 : Below w.heap.size w w1 := ((Below.refl _ w).alloc (Nat.le_refl _) _).trans (hb1.mono (by simp))
  have b0 : w1.cell? ⟨w.heap.size, 0, none⟩ = some (.int .i64 k) := (hb1.cell (p := ⟨w.heap.size, 0, none⟩) (by simp)).trans (by simp)
  have bx : Hid (∀ x, 1 ≤ x → x ≤ 5 → w1.cell? ⟨w.heap.size, x, none⟩ = some (.int .i64 (fl x))) := by
    intro x hx1 hx5
    rw [Hfl.out]
    refine (hb1.cell (p := ⟨w.heap.size, x, none⟩) (by simp)).trans ?_
    have : x = 1 ∨ x = 2 ∨ x = 3 ∨ x = 4 ∨ x = 5 := by omega
    rcases this with rfl | rfl | rfl | rfl | rfl <;> simp [fld]
  have hz : w.heap.size < w1.heap.size := by have := hb1.size; simp at this; omega
  have hz0 : 0 < w1.heap.size := by omega
  clear hE hb1
  clear Hfl
  go_wp2_with fail
  refine (fields_some k _ _ ?_ hlo hhi).mono ?_
  · exact ((Below.refl _ w1).alloc (Nat.le_refl _) _).cell (p := ⟨w.heap.size, 0, none⟩) (by omega) |>.trans b0
  rintro e w2 ⟨rfl, hb2, hz2, hp2⟩
  have Hp := Lib.hid hp2
  clear hp2
  have hol := offs_len k
  obtain ⟨n, hn⟩ : ∃ n, arity k = n := ⟨_, rfl⟩
  rw [hn] at hol ⊢
  have Hol := Lib.hid hol
  clear hol hn
  have hn4 : n ≤ 4 := by
    have h1 := Hol.out
    rw [offs_len] at h1
    rw [← h1]
    unfold arity
    repeat' split
    all_goals omega
  go_wp2_with fail
  have hz2' : w1.heap.size + 1 < w2.heap.size := by simpa using hz2
  have hbw : Below w1.heap.size w1 w2 := ((Below.refl _ w1).alloc (Nat.le_refl _) _).trans (hb2.mono (by simp))
  have hrow : w2.ownsRow w1.heap.size 9 1 (.slice (some ⟨w1.heap.size, 0, none⟩) 1 1) 1 [strV (wordS k)] :=
    (World.ownsRow_lit w1 #[strV (wordS k)] 1 (Nat.le_refl _) (by unfold maxLen; omega) rfl).kept (below_grown hb2) (.inr (by simp [Value.ownBlock]))
  obtain ⟨i0, hi, hzz, hsi, hby⟩ := info_parts Tryd.info9
  go_loopw [4, 17] (fun v iv wr => ∃ j : Nat, j ≤ n ∧ iv = .int .i64 j ∧ wr.ownsRow w1.heap.size 9 1 v (j + 1) (strV (wordS k) :: (((offs k).take j).map fun x => strV (Lib.itoa (fl x)))) ∧
      v.ownBlock ≠ some (w1.heap.size + 1) ∧ (∀ (i x : Nat), (offs k)[i]? = some x → wr.cell? ⟨w1.heap.size + 1, i, none⟩ = some (.pointer (some ⟨w.heap.size, x, none⟩))) ∧ w1.heap.size + 1 < wr.heap.size ∧ Below w1.heap.size w1 wr)
    (fun v iv _ => n - (intOf iv).toNat)
  case atStart =>
    refine ⟨0, Nat.zero_le _, rfl, by simpa using hrow, by simp [Value.ownBlock], ?_, hz2', hbw⟩
    have := Hp.out
    simpa using this
  case round =>
    obtain ⟨j, hj, rfl, hown, hne, hp, hsz, hB⟩ := hrel
    by_cases hlt : j < n
    · obtain ⟨x, hx⟩ : ∃ x, (offs k)[j]? = some x := ⟨_, List.getElem?_eq_getElem (by rw [Hol.out]; exact hlt)⟩
      have hxm : x ∈ offs k := List.mem_of_getElem? hx
      have hx15 := offs_mem k x hxm
      have hxo := hok x hxm
      have cp := hp j x hx
      have cf : wr.cell? ⟨w.heap.size, x, none⟩ = some (.int .i64 (fl x)) := (hB.cell (p := ⟨w.heap.size, x, none⟩) hz).trans (bx.out x hx15.1 hx15.2)
      have hEr : Env wr := hE1.below hE1.size (hB.mono (by omega)) 
      have Hx := Lib.hid hx
      have Hp2 := Lib.hid hp
      clear hx hp hok
      go_wp2_with fail
      refine (itoa_any (fl x) hxo.1 hxo.2 wr hEr).mono ?_
      rintro e w3 ⟨rfl, hb3⟩
      have hown3 := hown.kept (below_grown hb3) (Classical.em _)
      have hs3 := hb3.size
      have q1 : ∀ u ∈ [strV (Lib.itoa (fl x))], u.oneCell' = true := by intro u hu; simp at hu; subst hu; rfl
      have q2 : j + 1 + 1 ≤ maxLen := by unfold maxLen; omega
      have q3 : (j + 1 + 1) * 16 ≤ 140737488355328 := by omega
      have q4 : w1.heap.size ≤ (w3.alloc (.cells #[strV (Lib.itoa (fl x))] 9)).heap.size := by simp; omega
      go_wp2_with (at_builtin; (refine wpList_append_own_at _ rfl _ _ 36 rfl w1.heap.size 9 i0 (.string ByteArray.empty) 1 16 Tryd.underlying36 hi hzz hsi hby rfl (by decide) _ _ _ rfl (hown3.alloc _) ⟨w3.heap.size, 0, none⟩ 1 1 [strV (Lib.itoa (fl x))] rfl rfl (cell_one_new _ _ _) q1 q2 q3 q4 ?_; intro v' w4 hown4 hg4 _ hat4))
      have hs4 := hg4.size
      simp only [World.size_alloc] at hs4
      go_roundw
      case rel =>
        refine ⟨j + 1, by omega, by go_num, ?_, ?_, ?_, by omega, ?_⟩
        · have : (offs k).take (j + 1) = (offs k).take j ++ [x] := by
            rw [List.take_add_one, Hx.out]; rfl
          rw [this, List.map_append]
          simpa using hown4
        · rcases hat4 with h | h
          · rw [h]; exact hne
          · rw [h]; simp; omega
        · intro i y hy
          have h1 := Hp2.out i y hy
          have h2 : w3.cell? ⟨w1.heap.size + 1, i, none⟩ = some (.pointer (some ⟨w.heap.size, y, none⟩)) := (hb3.cell (p := ⟨w1.heap.size + 1, i, none⟩) (by show w1.heap.size + 1 < wr.heap.size; omega)).trans h1
          have h3 : (w3.alloc (.cells #[strV (Lib.itoa (fl x))] 9)).cell? ⟨w1.heap.size + 1, i, none⟩ = some (.pointer (some ⟨w.heap.size, y, none⟩)) :=
            (((Below.refl _ w3).alloc (Nat.le_refl _) _).cell (p := ⟨w1.heap.size + 1, i, none⟩) (by show w1.heap.size + 1 < w3.heap.size; omega)).trans h2
          exact hg4.cell h3 (fun e => hne e.symm)
        · refine ((hB.trans (hb3.mono (by omega))).alloc (by omega) _).grown hg4 q4 (fun r e => (hown3.lt r e).1)
      case measure => simp [intOf]; omega
    · obtain rfl : j = n := by omega
      have hall : (offs k).take j = offs k := List.take_of_length_le (by rw [Hol.out]; exact Nat.le_refl _)
      rw [hall] at hown
      clear hall
      obtain ⟨xs, hxs⟩ : ∃ xs : List Bs, xs = wordS k :: ((offs k).map fl).map Lib.itoa := ⟨_, rfl⟩
      have hown' : wr.ownsRow w1.heap.size 9 1 u4 (j + 1) (xs.map strV) := by
        rw [hxs]; simpa [Function.comp_def] using hown
      have hxl : xs.length = j + 1 := by rw [hxs]; have := Hol.out; simpa using this
      have hlen : (Lib.join xs [32]).length ≤ 140737488355328 := by
        have h2 := join_bound (wordS k) (((offs k).map fl).map Lib.itoa) (by
          intro y hy
          rcases List.mem_cons.1 hy with rfl | hy
          · exact word_len k
          · simp only [List.mem_map] at hy
            obtain ⟨v, ⟨x, hx, rfl⟩, rfl⟩ := hy
            exact itoa_len _ (hok x hx).1 (hok x hx).2)
        rw [← hxs] at h2
        have := Hol.out
        simp only [List.length_map] at h2
        omega
      have Hxs := Lib.hid hxs
      clear hxs hown
      have hex : ∃ g cap, u4 = .slice (some ⟨g, 0, none⟩) (j + 1) cap ∧ j + 1 ≤ cap := by
        rcases hown'.2 with ⟨_, h⟩ | ⟨g, cap, cur, h, _, _, hc, _⟩
        · omega
        · exact ⟨g, cap, h, hc⟩
      obtain ⟨g, cap, rfl, hcap⟩ := hex
      have hg := (hown'.lt g rfl).2
      have hJ := Tryd.strings_Join g 0 cap (xs.map fun x => (⟨x.toArray⟩ : ByteArray)) ⟨#[32]⟩ wr (by
        intro i y hy
        rw [List.getElem?_map] at hy
        have hi : i < j + 1 := by
          rcases Nat.lt_or_ge i (j + 1) with h | h
          · exact h
          · rw [List.getElem?_eq_none (by omega)] at hy; simp at hy
        have := hown'.cellAt i (by omega)
        rw [Nat.zero_add, this, List.getElem?_map]
        cases h : xs[i]? with
        | none => rw [h] at hy; simp at hy
        | some z => rw [h] at hy; simp at hy; subst hy; rfl) hg (by simp; omega) (by simp; omega) (by simpa [Function.comp_def] using hlen)
      rw [List.length_map, hxl] at hJ
      have e1 : (xs.map fun x => (⟨x.toArray⟩ : ByteArray)).map (·.data.toList) = xs := by simp [Function.comp_def]
      rw [e1] at hJ
      clear e1 hxl hok hp
      go_wp2_with fail
      refine hJ.mono ?_
      rintro e w5 ⟨rfl, hb5⟩
      go_wp2
      go_ret2
      exact ⟨by have h := Hxs.out; subst h; rfl, (hB1.trans (hB.mono (by omega))).trans (hb5.mono (by omega))⟩

def lineT (o : O) : Bs := if mayB o then lineB o else []
def lineE (o : O) : Int := if mayB o then 0 else 292
theorem line_any (o : O) (w : World) (hE : Env w) :
    Calls Tryd.prog 4 #[opV o] w fun e w' => e = .returned (.tuple #[.string ⟨(lineT o).toArray⟩, .int .i64 (lineE o)]) ∧ Below w.heap.size w w' := by
  unfold lineT lineE
  cases hm : mayB o with
  | true => exact line_may o.k o.node o.frm o.too o.plc o.bit w hE hm
  | false => exact line_not o.k o.node o.frm o.too o.plc o.bit w hm
end Go.Proofs.YteidggmgknnibaaDoor

import Derived.Test.YteidggmgknnibaaDoorW8
namespace Go.Proofs.YteidggmgknnibaaDoor
open Go.RowKit Go.Lines Go.Sort

theorem numOf_take (s : ByteArray) (i : Nat) (h : i < s.size) : numOf 0 (s.data.toList.take (i + 1)) = 10 * numOf 0 (s.data.toList.take i) + (s[i].toNat - 48) := by
  have : s.data.toList.take (i + 1) = s.data.toList.take i ++ [s[i]] := by
    rw [List.take_succ_eq_append_getElem (by simpa using h)]; rfl
  rw [this, numOf_snoc]

theorem toldLoop_step (s : ByteArray) (acc i : Nat) (h : i < s.size) : toldLoop acc (s.data.toList.drop i) = if s[i].toNat < 48 ∨ 57 < s[i].toNat then -1 else toldLoop (10 * acc + (s[i].toNat - 48)) (s.data.toList.drop (i + 1)) := by
  have : s.data.toList.drop i = s[i] :: s.data.toList.drop (i + 1) := by
    rw [List.drop_eq_getElem_cons (by simpa using h)]; rfl
  rw [this, toldLoop]

theorem numOf_lt : ∀ (x : Bs) (acc : Nat), (∀ c ∈ x, dOk c) → numOf acc x < (acc + 1) * 10 ^ x.length
  | [], acc, _ => by simp [numOf]
  | c :: r, acc, h => by
    have hc := h c (by simp)
    unfold dOk at hc
    have := numOf_lt r (10 * acc + (c.toNat - 48)) (fun d hd => h d (by simp [hd]))
    have e : numOf acc (c :: r) = numOf (10 * acc + (c.toNat - 48)) r := rfl
    rw [e, List.length_cons, Nat.pow_succ]
    refine Nat.lt_of_lt_of_le this ?_
    have : 10 * acc + (c.toNat - 48) + 1 ≤ (acc + 1) * 10 := by omega
    calc (10 * acc + (c.toNat - 48) + 1) * 10 ^ r.length ≤ ((acc + 1) * 10) * 10 ^ r.length := Nat.mul_le_mul_right _ this
      _ = (acc + 1) * (10 ^ r.length * 10) := by rw [Nat.mul_assoc, Nat.mul_comm 10]

set_option maxRecDepth 100000 in
set_option maxHeartbeats 2000000 in
theorem told_loop (s : ByteArray) (h1 : 1 ≤ s.size) (h10 : s.size ≤ 10) (hz : s.size ≤ 1 ∨ (1 < s.size ∧ ∃ h : 0 < s.size, ((s[0].toNat : Int) == 48) = false)) (w : World) :
    Calls Tryd.prog 17 #[.string s] w fun e w' => e = .returned (.int .i64 (toldLoop 0 s.data.toList)) ∧ w = w' := by
  have e0 : ((s.size : Int) == 0) = false := by rw [beq_eq_false_iff_ne]; omega
  have e1 : decide (10 < (s.size : Int)) = false := by simp; omega
  rcases hz with hz | ⟨hz, hp, hh⟩
  all_goals
    go_enter Tryd.func17, Tryd.ntmps17
    go_wp2_with fail
    go_loop [3, 4] (fun nv iv => ∃ i : Nat, i ≤ s.size ∧ iv = .int .i64 i ∧ nv = .int .i64 (numOf 0 (s.data.toList.take i)) ∧ toldLoop 0 s.data.toList = toldLoop (numOf 0 (s.data.toList.take i)) (s.data.toList.drop i) ∧ (∀ c ∈ s.data.toList.take i, dOk c))
      (fun _ iv => s.size - (intOf iv).toNat)
    case atStart => exact ⟨0, by omega, rfl, rfl, rfl, by simp⟩
    case round =>
      obtain ⟨i, hi, rfl, rfl, htl, hok⟩ := hrel
      have Htl := Lib.hid htl
      have Hok := Lib.hid hok
      have hb := numOf_lt _ 0 hok
      have hb2 : numOf 0 (s.data.toList.take i) < 10000000000 := by
        have : (10 : Nat) ^ (s.data.toList.take i).length ≤ 10 ^ 10 := Nat.pow_le_pow_right (by omega) (by rw [List.length_take]; simp; omega)
        have : (10 : Nat) ^ 10 = 10000000000 := by decide
        omega
      clear htl hok hb
      by_cases hlt : i < s.size
      · have hst := toldLoop_step s (numOf 0 (s.data.toList.take i)) i hlt
        have Hst := Lib.hid hst
        have Hnt := Lib.hid (numOf_take s i hlt)
        clear hst
        have hc256 := s[i].toNat_lt
        by_cases hc : 48 ≤ s[i].toNat ∧ s[i].toNat ≤ 57
        · have hc1 := hc.1
          have hc2 := hc.2
          go_wp2_with fail
          go_round
          case rel =>
            refine ⟨i + 1, by omega, by go_num, ?_, ?_, ?_⟩
            · rw [Hnt.out]
              congr 1
              omega
            · rw [Htl.out, Hst.out, if_neg (by omega), Hnt.out]
            · intro c hcm
              rw [List.take_succ_eq_append_getElem (by simpa using hlt)] at hcm
              rcases List.mem_append.1 hcm with hcm | hcm
              · exact Hok.out c hcm
              · simp only [List.mem_singleton] at hcm
                subst hcm
                exact hc
          case measure => simp [intOf]; omega
        · have hres : toldLoop 0 s.data.toList = -1 := by
            rw [Htl.out, Hst.out, if_pos (by omega)]
          have Hres := Lib.hid hres
          clear hres
          by_cases hc1 : 48 ≤ s[i].toNat
          · have hc2 : 57 < s[i].toNat := by omega
            clear hc
            go_wp2_with fail
            go_ret
            exact ⟨by rw [Hres.out]; rfl, rfl⟩
          · clear hc
            go_wp2_with fail
            go_ret
            exact ⟨by rw [Hres.out]; rfl, rfl⟩
      · obtain rfl : i = s.size := by omega
        have hres : toldLoop 0 s.data.toList = numOf 0 (s.data.toList.take s.size) := by
          rw [Htl.out, List.drop_of_length_le (by simp)]
          rfl
        have Hres := Lib.hid hres
        clear hres
        go_wp2_with fail
        go_ret
        exact ⟨by rw [Hres.out]; rfl, rfl⟩

set_option maxHeartbeats 1000000 in
theorem told_none (s : ByteArray) (h : s.size = 0) (w : World) :
    Calls Tryd.prog 17 #[.string s] w fun e w' => e = .returned (.int .i64 (-1)) ∧ w = w' := by
  have e0 : ((s.size : Int) == 0) = true := by rw [beq_iff_eq]; omega
  clear h
  go_enter Tryd.func17, Tryd.ntmps17
  go_wp2_with fail
  go_ret
  exact ⟨rfl, rfl⟩

set_option maxHeartbeats 1000000 in
theorem told_long (s : ByteArray) (h : 10 < s.size) (w : World) :
    Calls Tryd.prog 17 #[.string s] w fun e w' => e = .returned (.int .i64 (-1)) ∧ w = w' := by
  have e0 : ((s.size : Int) == 0) = false := by rw [beq_eq_false_iff_ne]; omega
  go_enter Tryd.func17, Tryd.ntmps17
  go_wp2_with fail
  go_ret
  exact ⟨rfl, rfl⟩

set_option maxHeartbeats 1000000 in
theorem told_zero (s : ByteArray) (h : 1 < s.size) (h10 : s.size ≤ 10) (hh : ((s[0].toNat : Int) == 48) = true) (w : World) :
    Calls Tryd.prog 17 #[.string s] w fun e w' => e = .returned (.int .i64 (-1)) ∧ w = w' := by
  have e0 : ((s.size : Int) == 0) = false := by rw [beq_eq_false_iff_ne]; omega
  have hp : 0 < s.size := by omega
  go_enter Tryd.func17, Tryd.ntmps17
  go_wp2_with fail
  go_ret
  exact ⟨rfl, rfl⟩

theorem told_any (s : ByteArray) (w : World) :
    Calls Tryd.prog 17 #[.string s] w fun e w' => e = .returned (.int .i64 (told s.data.toList)) ∧ w = w' := by
  have hl : s.data.toList.length = s.size := by simp
  unfold told
  rw [hl]
  by_cases h0 : s.size = 0
  · rw [if_pos (.inl h0)]; exact told_none s h0 w
  by_cases h10 : 10 < s.size
  · rw [if_pos (.inr (.inl h10))]; exact told_long s h10 w
  by_cases h1 : s.size ≤ 1
  · rw [if_neg (by omega)]; exact told_loop s (by omega) (by omega) (.inl h1) w
  have hp : 0 < s.size := by omega
  have hd : s.data.toList.head? = some s[0] := by
    rw [List.head?_eq_getElem?, List.getElem?_eq_getElem (by simpa using hp)]; rfl
  by_cases hz : s[0] = 48
  · rw [if_pos (.inr (.inr ⟨by omega, by rw [hd, hz]⟩))]
    exact told_zero s (by omega) (by omega) (by rw [hz]; rfl) w
  · rw [if_neg (by
      rintro (h | h | ⟨_, h⟩)
      · omega
      · omega
      · rw [hd] at h; exact hz (Option.some.inj h))]
    refine told_loop s (by omega) (by omega) (.inr ⟨by omega, hp, ?_⟩) w
    rw [beq_eq_false_iff_ne]
    intro e
    refine hz (UInt8.toNat_inj.1 ?_)
    have : (48 : UInt8).toNat = 48 := rfl
    omega
end Go.Proofs.YteidggmgknnibaaDoor

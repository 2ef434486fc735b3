import Derived.Test.YteidggmgknnibaaDoorW9
import Derived.Shelf.SlSortCmp.QuietGrown
namespace Go.Proofs.YteidggmgknnibaaDoor
open Go.RowKit Go.Lines Go.Sort

theorem rmay_x (k a b c d f : Int) (w : World) :
    Calls Tryd.prog 12 #[.agg #[.int .i64 k, .int .i64 a, .int .i64 b, .int .i64 c, .int .i64 d, .int .i64 f]] w fun e w' => e = .returned (.bool (mayB ⟨k, a, b, c, d, f⟩)) ∧ Below w.heap.size w w' := rmay_any ⟨k, a, b, c, d, f⟩ w

set_option maxHeartbeats 1000000 in
theorem rline_not (k a b c d f : Int) (w : World) (hm : mayB ⟨k, a, b, c, d, f⟩ = false) :
    Calls Tryd.prog 5 #[.agg #[.int .i64 k, .int .i64 a, .int .i64 b, .int .i64 c, .int .i64 d, .int .i64 f]] w fun e w' => e = .returned (.tuple #[.string ByteArray.empty, .int .i64 292]) ∧ Below w.heap.size w w' := by
  go_enter Tryd.func5, Tryd.ntmps5
  go_wp2_with fail
  refine (rmay_x k a b c d f _).mono ?_
  rintro e w' ⟨rfl, hb⟩
  go_wp2
  go_ret2
  refine ⟨rfl, ?_⟩
  exact ((Below.refl _ w).alloc (Nat.le_refl _) _).trans (hb.mono (by simp))

theorem dec_len (n : Nat) (h : n ≤ 2147483647) : (Lib.decDigits n).length ≤ 20 := by
  rw [Lib.decDigits_length]; have := nDigits_le n h; omega

set_option maxRecDepth 100000 in
set_option maxHeartbeats 1000000 in
theorem rline_one (k : Int) (a : Nat) (w : World) (hk : k = 1 ∨ k = 6 ∨ k = 7) (ha : a ≤ 2147483647) :
    Calls Tryd.prog 5 #[.agg #[.int .i64 k, .int .i64 a, .int .i64 0, .int .i64 0, .int .i64 0, .int .i64 0]] w fun e w' =>
      e = .returned (.tuple #[.string ⟨(wordS k ++ 32 :: Lib.decDigits a).toArray⟩, .int .i64 0]) ∧ Below w.heap.size w w' := by
  have hm : mayB ⟨k, a, 0, 0, 0, 0⟩ = true := by
    have e : okN (a : Int) := ⟨by omega, by omega⟩
    simp [mayB, mayS, hk, e]
  have hl1 := word_len k
  have hl2 := dec_len a ha
  have hlo : 1 ≤ k := by omega
  have hhi : k ≤ 7 := by omega
  go_enter Tryd.func5, Tryd.ntmps5
  go_wp2_with fail
  refine (rmay_x k a 0 0 0 0 _).mono ?_
  rintro e w1 ⟨rfl, hb1⟩
  have hz : w.heap.size < w1.heap.size := by have := hb1.size; simp at this; omega
  have b0 : w1.cell? ⟨w.heap.size, 0, none⟩ = some (.int .i64 k) := (hb1.cell (p := ⟨w.heap.size, 0, none⟩) (by simp)).trans (by simp)
  have b1 : w1.cell? ⟨w.heap.size, 1, none⟩ = some (.int .i64 a) := (hb1.cell (p := ⟨w.heap.size, 1, none⟩) (by simp)).trans (by simp)
  go_wp2_with fail
  refine (word_any k hlo hhi _).mono ?_
  rintro e w2 ⟨rfl, hb2⟩
  have c0 : w2.cell? ⟨w.heap.size, 0, none⟩ = some (.int .i64 k) := (hb2.cell (p := ⟨w.heap.size, 0, none⟩) hz).trans b0
  have c1 : w2.cell? ⟨w.heap.size, 1, none⟩ = some (.int .i64 a) := (hb2.cell (p := ⟨w.heap.size, 1, none⟩) hz).trans b1
  have hs2 := hb2.size
  have hk2 : ((k == 1) = true) ∨ ((k == 1) = false ∧ 6 ≤ k) := by
    by_cases h : k = 1
    · left; rw [beq_iff_eq]; exact h
    · right; exact ⟨by rw [beq_eq_false_iff_ne]; exact h, by omega⟩
  rcases hk2 with hq | ⟨hq, hq6⟩
  all_goals
    go_wp2_with fail
    refine (digits_any a ha _).mono ?_
    rintro e w3 ⟨rfl, hb3⟩
    go_wp2_with fail
    go_ret2
    refine ⟨?_, ?_⟩
    · show Ending.returned (.tuple #[.string (⟨(wordS k).toArray⟩ ++ ⟨[32].toArray⟩ ++ ⟨(Lib.decDigits a).toArray⟩), _]) = _
      rw [str_app, str_app]
      simp
    · exact ((((Below.refl _ w).alloc (Nat.le_refl _) _).trans (hb1.mono (by simp))).trans (hb2.mono (by omega))).trans (hb3.mono (by omega))

theorem digits_q (u : Nat) (hu : u ≤ 2147483647) (W : World) :
    Calls Tryd.prog 14 #[.int .i64 u] W fun e w' => e = .returned (.string ⟨(Lib.decDigits u).toArray⟩) ∧ ∃ q os', w' = grow (W.drewN q) os' :=
  (digits_grow u hu W).mono fun e w' ⟨he, hg⟩ => ⟨he, by obtain ⟨os, rfl⟩ := hg.out; exact ⟨0, os, rfl⟩⟩

set_option maxRecDepth 100000 in
set_option maxHeartbeats 2000000 in
theorem rline_three (k : Int) (b c d : Nat) (w : World) (hk : k = 2 ∨ k = 3 ∨ k = 4) (hb : b ≤ 2147483647) (hc : c ≤ 2147483647) (hd : d ≤ 2147483647) :
    Calls Tryd.prog 5 #[.agg #[.int .i64 k, .int .i64 0, .int .i64 b, .int .i64 c, .int .i64 d, .int .i64 0]] w fun e w' =>
      e = .returned (.tuple #[.string ⟨(wordS k ++ 32 :: (Lib.decDigits b ++ 32 :: (Lib.decDigits c ++ 32 :: Lib.decDigits d))).toArray⟩, .int .i64 0]) ∧ Below w.heap.size w w' := by
  have hm : mayB ⟨k, 0, b, c, d, 0⟩ = true := by
    have e1 : okN (b : Int) := ⟨by omega, by omega⟩
    have e2 : okN (c : Int) := ⟨by omega, by omega⟩
    have e3 : okN (d : Int) := ⟨by omega, by omega⟩
    simp [mayB, mayS, hk, e1, e2, e3]
  have hl1 := word_len k
  have hl2 := dec_len b hb
  have hl3 := dec_len c hc
  have hl4 := dec_len d hd
  have hlo : 2 ≤ k := by omega
  have hhi : k ≤ 4 := by omega
  have hk1 : (k == 1) = false := by rw [beq_eq_false_iff_ne]; omega
  have hk5 : (k == 5) = false := by rw [beq_eq_false_iff_ne]; omega
  go_enter Tryd.func5, Tryd.ntmps5
  go_wp2_with fail
  refine (rmay_x k 0 b c d 0 _).mono ?_
  rintro e w1 ⟨rfl, hb1⟩
  have hz : w.heap.size < w1.heap.size := by have := hb1.size; simp at this; omega
  have b0 : w1.cell? ⟨w.heap.size, 0, none⟩ = some (.int .i64 k) := (hb1.cell (p := ⟨w.heap.size, 0, none⟩) (by simp)).trans (by simp)
  have b2 : w1.cell? ⟨w.heap.size, 2, none⟩ = some (.int .i64 b) := (hb1.cell (p := ⟨w.heap.size, 2, none⟩) (by simp)).trans (by simp)
  have b3 : w1.cell? ⟨w.heap.size, 3, none⟩ = some (.int .i64 c) := (hb1.cell (p := ⟨w.heap.size, 3, none⟩) (by simp)).trans (by simp)
  have b4 : w1.cell? ⟨w.heap.size, 4, none⟩ = some (.int .i64 d) := (hb1.cell (p := ⟨w.heap.size, 4, none⟩) (by simp)).trans (by simp)
  go_wp2_with fail
  refine (word_any k (by omega) (by omega) _).mono ?_
  rintro e w2 ⟨rfl, hb2⟩
  have hs2 := hb2.size
  have c0 : w2.cell? ⟨w.heap.size, 0, none⟩ = some (.int .i64 k) := (hb2.cell (p := ⟨w.heap.size, 0, none⟩) hz).trans b0
  have c2 : w2.cell? ⟨w.heap.size, 2, none⟩ = some (.int .i64 b) := (hb2.cell (p := ⟨w.heap.size, 2, none⟩) hz).trans b2
  have c3 : w2.cell? ⟨w.heap.size, 3, none⟩ = some (.int .i64 c) := (hb2.cell (p := ⟨w.heap.size, 3, none⟩) hz).trans b3
  have c4 : w2.cell? ⟨w.heap.size, 4, none⟩ = some (.int .i64 d) := (hb2.cell (p := ⟨w.heap.size, 4, none⟩) hz).trans b4
  have g0 := cell_grown (w := w2) (a := ⟨w.heap.size, 0, none⟩) (by show w.heap.size < w2.heap.size; omega) c0
  have g2 := cell_grown (w := w2) (a := ⟨w.heap.size, 2, none⟩) (by show w.heap.size < w2.heap.size; omega) c2
  have g3 := cell_grown (w := w2) (a := ⟨w.heap.size, 3, none⟩) (by show w.heap.size < w2.heap.size; omega) c3
  have g4 := cell_grown (w := w2) (a := ⟨w.heap.size, 4, none⟩) (by show w.heap.size < w2.heap.size; omega) c4
  have s1 : ¬ 9223372036854775807 < (wordS k).length + 1 := by omega
  have s2 : ¬ 9223372036854775807 < (wordS k).length + 1 + (Lib.decDigits b).length := by omega
  have s3 : ¬ 9223372036854775807 < (wordS k).length + 1 + (Lib.decDigits b).length + 1 := by omega
  have s4 : ¬ 9223372036854775807 < (wordS k).length + 1 + (Lib.decDigits b).length + 1 + (Lib.decDigits c).length := by omega
  have s5 : ¬ 9223372036854775807 < (wordS k).length + 1 + (Lib.decDigits b).length + 1 + (Lib.decDigits c).length + 1 := by omega
  have s6 : ¬ 9223372036854775807 < (wordS k).length + 1 + (Lib.decDigits b).length + 1 + (Lib.decDigits c).length + 1 + (Lib.decDigits d).length := by omega
  have hmix : Tryd.prog.follows .mixedOrders = true := by kernel_rfl
  go_wp2_with fail
  go_quiet_grown ((go_at_call 14; exact Calls.grown_of (digits_q _ (by omega) _)))
  go_wp2_with fail
  go_ret2
  refine ⟨?_, ?_⟩
  · show Ending.returned (.tuple #[.string (⟨(wordS k).toArray⟩ ++ ⟨[32].toArray⟩ ++ ⟨(Lib.decDigits b).toArray⟩ ++ ⟨[32].toArray⟩ ++ ⟨(Lib.decDigits c).toArray⟩ ++ ⟨[32].toArray⟩ ++ ⟨(Lib.decDigits d).toArray⟩), _]) = _
    simp only [str_app]
    simp
  · exact ((((Below.refl _ w).alloc (Nat.le_refl _) _).trans (hb1.mono (by simp))).trans (hb2.mono (by omega))).trans ((below_grow_drewN w2 _ _).mono (by omega))
set_option maxRecDepth 100000 in
set_option maxHeartbeats 2000000 in
theorem rline_four (b c d f : Nat) (w : World) (hb : b ≤ 2147483647) (hc : c ≤ 2147483647) (hd : d ≤ 2147483647) (hf : f ≤ 2147483647) :
    Calls Tryd.prog 5 #[.agg #[.int .i64 5, .int .i64 0, .int .i64 b, .int .i64 c, .int .i64 d, .int .i64 f]] w fun e w' =>
      e = .returned (.tuple #[.string ⟨(wordS 5 ++ 32 :: (Lib.decDigits b ++ 32 :: (Lib.decDigits c ++ 32 :: (Lib.decDigits d ++ 32 :: Lib.decDigits f)))).toArray⟩, .int .i64 0]) ∧ Below w.heap.size w w' := by
  have hm : mayB ⟨5, 0, b, c, d, f⟩ = true := by
    have e1 : okN (b : Int) := ⟨by omega, by omega⟩
    have e2 : okN (c : Int) := ⟨by omega, by omega⟩
    have e3 : okN (d : Int) := ⟨by omega, by omega⟩
    have e4 : okN (f : Int) := ⟨by omega, by omega⟩
    simp [mayB, mayS, e1, e2, e3, e4]
  have hl1 := word_len 5
  have hl2 := dec_len b hb
  have hl3 := dec_len c hc
  have hl4 := dec_len d hd
  have hl5 := dec_len f hf
  go_enter Tryd.func5, Tryd.ntmps5
  go_wp2_with fail
  refine (rmay_x 5 0 b c d f _).mono ?_
  rintro e w1 ⟨rfl, hb1⟩
  have hz : w.heap.size < w1.heap.size := by have := hb1.size; simp at this; omega
  have b0 : w1.cell? ⟨w.heap.size, 0, none⟩ = some (.int .i64 5) := (hb1.cell (p := ⟨w.heap.size, 0, none⟩) (by simp)).trans (by simp)
  have b2 : w1.cell? ⟨w.heap.size, 2, none⟩ = some (.int .i64 b) := (hb1.cell (p := ⟨w.heap.size, 2, none⟩) (by simp)).trans (by simp)
  have b3 : w1.cell? ⟨w.heap.size, 3, none⟩ = some (.int .i64 c) := (hb1.cell (p := ⟨w.heap.size, 3, none⟩) (by simp)).trans (by simp)
  have b5 : w1.cell? ⟨w.heap.size, 5, none⟩ = some (.int .i64 f) := (hb1.cell (p := ⟨w.heap.size, 5, none⟩) (by simp)).trans (by simp)
  have b4 : w1.cell? ⟨w.heap.size, 4, none⟩ = some (.int .i64 d) := (hb1.cell (p := ⟨w.heap.size, 4, none⟩) (by simp)).trans (by simp)
  go_wp2_with fail
  refine (word_any 5 (by omega) (by omega) _).mono ?_
  rintro e w2 ⟨rfl, hb2⟩
  have hs2 := hb2.size
  have c0 : w2.cell? ⟨w.heap.size, 0, none⟩ = some (.int .i64 5) := (hb2.cell (p := ⟨w.heap.size, 0, none⟩) hz).trans b0
  have c2 : w2.cell? ⟨w.heap.size, 2, none⟩ = some (.int .i64 b) := (hb2.cell (p := ⟨w.heap.size, 2, none⟩) hz).trans b2
  have c3 : w2.cell? ⟨w.heap.size, 3, none⟩ = some (.int .i64 c) := (hb2.cell (p := ⟨w.heap.size, 3, none⟩) hz).trans b3
  have c5 : w2.cell? ⟨w.heap.size, 5, none⟩ = some (.int .i64 f) := (hb2.cell (p := ⟨w.heap.size, 5, none⟩) hz).trans b5
  have c4 : w2.cell? ⟨w.heap.size, 4, none⟩ = some (.int .i64 d) := (hb2.cell (p := ⟨w.heap.size, 4, none⟩) hz).trans b4
  have g0 := cell_grown (w := w2) (a := ⟨w.heap.size, 0, none⟩) (by show w.heap.size < w2.heap.size; omega) c0
  have g2 := cell_grown (w := w2) (a := ⟨w.heap.size, 2, none⟩) (by show w.heap.size < w2.heap.size; omega) c2
  have g3 := cell_grown (w := w2) (a := ⟨w.heap.size, 3, none⟩) (by show w.heap.size < w2.heap.size; omega) c3
  have g5 := cell_grown (w := w2) (a := ⟨w.heap.size, 5, none⟩) (by show w.heap.size < w2.heap.size; omega) c5
  have g4 := cell_grown (w := w2) (a := ⟨w.heap.size, 4, none⟩) (by show w.heap.size < w2.heap.size; omega) c4
  have s1 : ¬ 9223372036854775807 < (wordS 5).length + 1 := by omega
  have s2 : ¬ 9223372036854775807 < (wordS 5).length + 1 + (Lib.decDigits b).length := by omega
  have s3 : ¬ 9223372036854775807 < (wordS 5).length + 1 + (Lib.decDigits b).length + 1 := by omega
  have s4 : ¬ 9223372036854775807 < (wordS 5).length + 1 + (Lib.decDigits b).length + 1 + (Lib.decDigits c).length := by omega
  have s5 : ¬ 9223372036854775807 < (wordS 5).length + 1 + (Lib.decDigits b).length + 1 + (Lib.decDigits c).length + 1 := by omega
  have s6 : ¬ 9223372036854775807 < (wordS 5).length + 1 + (Lib.decDigits b).length + 1 + (Lib.decDigits c).length + 1 + (Lib.decDigits d).length := by omega
  have hmix : Tryd.prog.follows .mixedOrders = true := by kernel_rfl
  go_wp2_with fail
  go_quiet_grown ((go_at_call 14; exact Calls.grown_of (digits_q _ (by omega) _)))
  go_wp2_with fail
  refine (digits_any f hf _).mono ?_
  rintro e w3 ⟨rfl, hb3⟩
  go_wp2_with fail
  go_ret2
  refine ⟨?_, ?_⟩
  · show Ending.returned (.tuple #[.string (⟨(wordS 5).toArray⟩ ++ ⟨[32].toArray⟩ ++ ⟨(Lib.decDigits b).toArray⟩ ++ ⟨[32].toArray⟩ ++ ⟨(Lib.decDigits c).toArray⟩ ++ ⟨[32].toArray⟩ ++ ⟨(Lib.decDigits d).toArray⟩ ++ ⟨[32].toArray⟩ ++ ⟨(Lib.decDigits f).toArray⟩), _]) = _
    simp only [str_app]
    simp
  · exact ((((Below.refl _ w).alloc (Nat.le_refl _) _).trans (hb1.mono (by simp))).trans (hb2.mono (by omega))).trans (((below_grow_drewN w2 _ _).mono (by omega)).trans (hb3.mono (by simp [grow]; omega)))

theorem itoa_nat (n : Nat) : Lib.itoa (n : Int) = Lib.decDigits n := by
  unfold Lib.itoa; rw [if_neg (by omega), Int.toNat_natCast]

theorem rline_any (o : O) (w : World) :
    Calls Tryd.prog 5 #[opV o] w fun e w' => e = .returned (.tuple #[.string ⟨(lineT o).toArray⟩, .int .i64 (lineE o)]) ∧ Below w.heap.size w w' := by
  obtain ⟨k, a, b, c, d, f⟩ := o
  unfold lineT lineE
  cases hm : mayB ⟨k, a, b, c, d, f⟩ with
  | false => exact rline_not k a b c d f w hm
  | true =>
    have hmay : mayS ⟨k, a, b, c, d, f⟩ := of_decide_eq_true hm
    rcases hmay with ⟨hk, ha, rfl, rfl, rfl, rfl⟩ | ⟨hk, rfl, hb, hc, hd, rfl⟩ | ⟨rfl, rfl, hb, hc, hd, hf⟩
    · obtain ⟨a, rfl⟩ := Int.eq_ofNat_of_zero_le ha.1
      have hl : lineB ⟨k, a, 0, 0, 0, 0⟩ = wordS k ++ 32 :: Lib.decDigits a := by
        simp only at hk
        simp [lineB, fieldsS, hk, Lib.join_cons, Lib.joinTail, itoa_nat]
      rw [if_pos rfl, if_pos rfl, hl]
      exact rline_one k a w hk (by have := ha.2; simp only at this; omega)
    · obtain ⟨b, rfl⟩ := Int.eq_ofNat_of_zero_le hb.1
      obtain ⟨c, rfl⟩ := Int.eq_ofNat_of_zero_le hc.1
      obtain ⟨d, rfl⟩ := Int.eq_ofNat_of_zero_le hd.1
      have hl : lineB ⟨k, 0, b, c, d, 0⟩ = wordS k ++ 32 :: (Lib.decDigits b ++ 32 :: (Lib.decDigits c ++ 32 :: Lib.decDigits d)) := by
        simp only at hk
        have hn : ¬ (k = 1 ∨ k = 6 ∨ k = 7) := by omega
        simp [lineB, fieldsS, hk, hn, Lib.join_cons, Lib.joinTail, itoa_nat]
      rw [if_pos rfl, if_pos rfl, hl]
      exact rline_three k b c d w hk (by have := hb.2; simp only at this; omega) (by have := hc.2; simp only at this; omega) (by have := hd.2; simp only at this; omega)
    · obtain ⟨b, rfl⟩ := Int.eq_ofNat_of_zero_le hb.1
      obtain ⟨c, rfl⟩ := Int.eq_ofNat_of_zero_le hc.1
      obtain ⟨d, rfl⟩ := Int.eq_ofNat_of_zero_le hd.1
      obtain ⟨f, rfl⟩ := Int.eq_ofNat_of_zero_le hf.1
      have hl : lineB ⟨5, 0, b, c, d, f⟩ = wordS 5 ++ 32 :: (Lib.decDigits b ++ 32 :: (Lib.decDigits c ++ 32 :: (Lib.decDigits d ++ 32 :: Lib.decDigits f))) := by
        simp [lineB, fieldsS, Lib.join_cons, Lib.joinTail, itoa_nat]
      rw [if_pos rfl, if_pos rfl, hl]
      exact rline_four b c d f w (by have := hb.2; simp only at this; omega) (by have := hc.2; simp only at this; omega) (by have := hd.2; simp only at this; omega) (by have := hf.2; simp only at this; omega)
end Go.Proofs.YteidggmgknnibaaDoor

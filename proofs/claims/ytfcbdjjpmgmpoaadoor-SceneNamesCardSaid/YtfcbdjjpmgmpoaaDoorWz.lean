/- Contracts of matrix' functions. -/
import Derived.Test.YtfcbdjjpmgmpoaaDoorWy
namespace Go.Proofs.YtfcbdjjpmgmpoaaDoor
open Go.RowKit Go.Mat Go.Ka Go.Proofs
attribute [local irreducible] Tr

def Bd8 (a0 a1 a2 a3 b0 b1 b2 b3 : Int) : Prop := (-4611686018427387904 ≤ a0 ∧ a0 ≤ 4611686018427387904) ∧ (-4611686018427387904 ≤ a1 ∧ a1 ≤ 4611686018427387904) ∧ (-4611686018427387904 ≤ a2 ∧ a2 ≤ 4611686018427387904) ∧ (-4611686018427387904 ≤ a3 ∧ a3 ≤ 4611686018427387904) ∧ (-4611686018427387904 ≤ b0 ∧ b0 ≤ 4611686018427387904) ∧ (-4611686018427387904 ≤ b1 ∧ b1 ≤ 4611686018427387904) ∧ (-4611686018427387904 ≤ b2 ∧ b2 ≤ 4611686018427387904) ∧ (-4611686018427387904 ≤ b3 ∧ b3 ≤ 4611686018427387904)
theorem sum_i0 (a0 a1 a2 a3 b0 b1 b2 b3 : Int) (hb : Bd8 a0 a1 a2 a3 b0 b1 b2 b3) (ba bb : Nat) (w : World)
    (ra : Row w ba 0 [.int .i64 a0, .int .i64 a1, .int .i64 a2, .int .i64 a3]) (rb : Row w bb 0 [.int .i64 b0, .int .i64 b1, .int .i64 b2, .int .i64 b3]) :
    Calls Tryd.prog 37 #[.slice (some ⟨ba, 0, none⟩) 4 4, .slice (some ⟨bb, 0, none⟩) 4 4] w (Gives (.tuple #[wv (a0 * b0 + a1 * b1 + a2 * b2 + a3 * b3), .int .i64 0]) w) := by
  obtain ⟨h0, h1, h2, h3, g0, g1, g2, g3⟩ := hb
  have := sum_wide ba 0 bb 0 ⟨(a0, b0), by simp only; omega⟩ ⟨(a1, b1), by simp only; omega⟩ ⟨(a2, b2), by simp only; omega⟩ ⟨(a3, b3), by simp only; omega⟩ w ra rb
  rwa [show dot [⟨(a0, b0), by simp only; omega⟩, ⟨(a1, b1), by simp only; omega⟩, ⟨(a2, b2), by simp only; omega⟩, ⟨(a3, b3), by simp only; omega⟩] = a0 * b0 + a1 * b1 + a2 * b2 + a3 * b3 from by simp only [dot]; omega] at this
theorem d_bd (a0 a1 a2 a3 b0 b1 b2 b3 : Int) (hb : Bd8 a0 a1 a2 a3 b0 b1 b2 b3) : -85070591730234615865843651857942052864 ≤ a0 * b0 + a1 * b1 + a2 * b2 + a3 * b3 ∧ a0 * b0 + a1 * b1 + a2 * b2 + a3 * b3 ≤ 85070591730234615865843651857942052864 := by
  obtain ⟨h0, h1, h2, h3, g0, g1, g2, g3⟩ := hb
  have e0 := mul_bd ⟨(a0, b0), by simp only; omega⟩
  have e1 := mul_bd ⟨(a1, b1), by simp only; omega⟩
  have e2 := mul_bd ⟨(a2, b2), by simp only; omega⟩
  have e3 := mul_bd ⟨(a3, b3), by simp only; omega⟩
  simp only at e0 e1 e2 e3
  omega
/-- A sum's number and error. -/
def sumN (d : Int) : Int := if -4611686018427387904 ≤ d / 65536 ∧ d / 65536 ≤ 4611686018427387904 then d / 65536 else 0
def sumE (d : Int) : Int := if -4611686018427387904 ≤ d / 65536 ∧ d / 65536 ≤ 4611686018427387904 then 0 else 30
/-- A matrix' value. -/
abbrev mv (m : Nat → Int) : Value := .agg #[.int .i64 (m 0), .int .i64 (m 1), .int .i64 (m 2), .int .i64 (m 3), .int .i64 (m 4), .int .i64 (m 5), .int .i64 (m 6), .int .i64 (m 7), .int .i64 (m 8), .int .i64 (m 9), .int .i64 (m 10), .int .i64 (m 11), .int .i64 (m 12), .int .i64 (m 13), .int .i64 (m 14), .int .i64 (m 15)]
def all16 : List (Fin 16) := [0, 1, 2, 3, 4, 5, 6, 7, 8, 9, 10, 11, 12, 13, 14, 15]
/-- What matrix.Check says of the numbers at places. -/
def ckE (bd : Int) (m : Nat → Int) (l : List (Fin 16)) : Int := if l.all (fun x => decide (-bd ≤ m x.1 ∧ m x.1 ≤ bd)) then 0 else 30
theorem ckE_snoc (bd : Int) (m : Nat → Int) (l : List (Fin 16)) (x : Fin 16) (h : -bd ≤ m x.1 ∧ m x.1 ≤ bd) : ckE bd m (l ++ [x]) = ckE bd m l := by
  unfold ckE; simp [List.all_append, h]
theorem ckE_bad (bd : Int) (m : Nat → Int) (pre : List (Fin 16)) (hp : pre <+: all16) (y : Fin 16) (hy : y ∈ pre) (hb : ¬ (-bd ≤ m y.1 ∧ m y.1 ≤ bd)) : ckE bd m all16 = 30 := by
  unfold ckE
  rw [if_neg]
  intro h
  have := List.all_eq_true.1 h y (hp.subset hy)
  exact hb (of_decide_eq_true this)
theorem ck_at {bd : Int} {m : Nat → Int} (h : ckE bd m all16 = 0) (i : Nat) (hi : i < 16) : -bd ≤ m i ∧ m i ≤ bd := by
  unfold ckE at h
  split at h
  · rename_i ha
    have := List.all_eq_true.1 ha ⟨i, hi⟩ (by unfold all16; revert i; decide)
    exact of_decide_eq_true this
  · cases h

theorem F.arr23 : arr Tryd.prog 23 = some (4, 1) := by kernel_rfl
theorem F.en37 : Enters Tryd.prog 37 := enters_of Tryd.func37 (by kernel_rfl) rfl
theorem F.en38 : Enters Tryd.prog 38 := enters_of Tryd.func38 (by kernel_rfl) rfl
theorem F.en39 : Enters Tryd.prog 39 := enters_of Tryd.func39 (by kernel_rfl) rfl
theorem F.en40 : Enters Tryd.prog 40 := enters_of Tryd.func40 (by kernel_rfl) rfl
theorem F.arr25 : arr Tryd.prog 25 = some (4, 4) := by kernel_rfl
theorem F.ty23 : tyv Tryd.prog 23 = some (.agg #[.int .i64 0, .int .i64 0, .int .i64 0, .int .i64 0], 4, true) := by kernel_rfl
theorem F.und23 : Tryd.prog.underlying 23 = some (.array 4 2) := by kernel_rfl
theorem F.und70 : Tryd.prog.underlying 70 = some (.array 2 3) := by kernel_rfl
theorem F.ty70 : tyv Tryd.prog 70 = some (.agg #[.int .i64 0, .int .i64 0], 2, true) := by kernel_rfl
theorem F.ty3 : tyv Tryd.prog 3 = some (.int .i64 0, 1, false) := by kernel_rfl
theorem F.ty25 : tyv Tryd.prog 25 = some (.agg #[.int .i64 0, .int .i64 0, .int .i64 0, .int .i64 0, .int .i64 0, .int .i64 0, .int .i64 0, .int .i64 0, .int .i64 0, .int .i64 0, .int .i64 0, .int .i64 0, .int .i64 0, .int .i64 0, .int .i64 0, .int .i64 0], 16, true) := by kernel_rfl
theorem F.en25 : Enters Tryd.prog 25 := enters_of Tryd.func25 (by kernel_rfl) rfl
theorem F.en30 : Enters Tryd.prog 30 := enters_of Tryd.func30 (by kernel_rfl) rfl
set_option maxRecDepth 100000 in
set_option maxHeartbeats 4000000 in
theorem sum_yes (a0 a1 a2 a3 b0 b1 b2 b3 : Int) (hb : Bd8 a0 a1 a2 a3 b0 b1 b2 b3) (hq : -4611686018427387904 ≤ (a0 * b0 + a1 * b1 + a2 * b2 + a3 * b3) / 65536 ∧ (a0 * b0 + a1 * b1 + a2 * b2 + a3 * b3) / 65536 ≤ 4611686018427387904) (w : World) : Calls Tryd.prog 28 #[.agg #[.int .i64 a0, .int .i64 a1, .int .i64 a2, .int .i64 a3], .agg #[.int .i64 b0, .int .i64 b1, .int .i64 b2, .int .i64 b3]] w (Gives (.tuple #[.int .i64 ((a0 * b0 + a1 * b1 + a2 * b2 + a3 * b3) / 65536), .int .i64 0]) w) := by
  have hS := sum_i0 a0 a1 a2 a3 b0 b1 b2 b3 hb
  have hd := d_bd a0 a1 a2 a3 b0 b1 b2 b3 hb
  refine calls_enter No Tryd.func28 rfl rfl rfl rfl ?_
  refine Tr.seq ?_
  refine Tr.region ?_
  refine Tr.step rfl (Tr.box rfl rfl rfl ?_)
  rintro u1
  refine Tr.step rfl (Tr.box rfl rfl rfl ?_)
  rintro u2
  refine Tr.step rfl (Tr.val rfl rfl ?_)
  refine Tr.step rfl (Tr.val rfl rfl ?_)
  refine Tr.nil ?_
  refine Tr.thenN ?_
  refine Tr.seq ?_
  refine Tr.sub (l' := [(3, .pointer (some ⟨u2, 0, none⟩)), (2, .pointer (some ⟨u1, 0, none⟩))]) (h' := [(u2, .cells #[.int .i64 b0, .int .i64 b1, .int .i64 b2, .int .i64 b3] 23), (u1, .cells #[.int .i64 a0, .int .i64 a1, .int .i64 a2, .int .i64 a3] 23)]) ?_ [0, 1] (by decide) rfl ⟨rfl, rfl, trivial⟩
  refine Tr.drawG (Y := Nat) (fun u3 => [(7, .int .i64 0), (6, .pointer (some ⟨u3, 0, none⟩)), (17, .int .i64 0), (16, .agg #[.int .i64 (hiW ((a0 * b0 + a1 * b1 + a2 * b2 + a3 * b3))), .int .u64 (loW ((a0 * b0 + a1 * b1 + a2 * b2 + a3 * b3)) : Int)]), (12, .tuple #[.agg #[.int .i64 (hiW ((a0 * b0 + a1 * b1 + a2 * b2 + a3 * b3))), .int .u64 (loW ((a0 * b0 + a1 * b1 + a2 * b2 + a3 * b3)) : Int)], .int .i64 0]), (15, .tuple #[.agg #[.int .i64 (hiW ((a0 * b0 + a1 * b1 + a2 * b2 + a3 * b3))), .int .u64 (loW ((a0 * b0 + a1 * b1 + a2 * b2 + a3 * b3)) : Int)], .int .i64 0]), (14, .slice (some ⟨u2, 0, none⟩) 4 4), (13, .slice (some ⟨u1, 0, none⟩) 4 4), (3, .pointer (some ⟨u2, 0, none⟩)), (2, .pointer (some ⟨u1, 0, none⟩))]) (fun u3 => [(u3, .cells #[.int .i64 (hiW ((a0 * b0 + a1 * b1 + a2 * b2 + a3 * b3))), .int .u64 (loW ((a0 * b0 + a1 * b1 + a2 * b2 + a3 * b3)) : Int)] 83), (u2, .cells #[.int .i64 b0, .int .i64 b1, .int .i64 b2, .int .i64 b3] 23), (u1, .cells #[.int .i64 a0, .int .i64 a1, .int .i64 a2, .int .i64 a3] 23)]) F.mixed ?_ ?_
  · intro K N hN tE
    have N17 : ∀ u3 : Nat, N [(7, .int .i64 0), (6, .pointer (some ⟨u3, 0, none⟩)), (17, .int .i64 0), (16, .agg #[.int .i64 (hiW ((a0 * b0 + a1 * b1 + a2 * b2 + a3 * b3))), .int .u64 (loW ((a0 * b0 + a1 * b1 + a2 * b2 + a3 * b3)) : Int)]), (12, .tuple #[.agg #[.int .i64 (hiW ((a0 * b0 + a1 * b1 + a2 * b2 + a3 * b3))), .int .u64 (loW ((a0 * b0 + a1 * b1 + a2 * b2 + a3 * b3)) : Int)], .int .i64 0]), (15, .tuple #[.agg #[.int .i64 (hiW ((a0 * b0 + a1 * b1 + a2 * b2 + a3 * b3))), .int .u64 (loW ((a0 * b0 + a1 * b1 + a2 * b2 + a3 * b3)) : Int)], .int .i64 0]), (14, .slice (some ⟨u2, 0, none⟩) 4 4), (13, .slice (some ⟨u1, 0, none⟩) 4 4), (3, .pointer (some ⟨u2, 0, none⟩)), (2, .pointer (some ⟨u1, 0, none⟩))] [(u3, .cells #[.int .i64 (hiW ((a0 * b0 + a1 * b1 + a2 * b2 + a3 * b3))), .int .u64 (loW ((a0 * b0 + a1 * b1 + a2 * b2 + a3 * b3)) : Int)] 83), (u2, .cells #[.int .i64 b0, .int .i64 b1, .int .i64 b2, .int .i64 b3] 23), (u1, .cells #[.int .i64 a0, .int .i64 a1, .int .i64 a2, .int .i64 a3] 23)] 0 #[true, true, true, true, true, true, true, true, true] := by
      intro u3
      refine (hN _ _ _ _).2 ?_
      exact Tr.anyEnd (by kernel_rfl) (tE u3)
    have N16 : ∀ u3 : Nat, N [(6, .pointer (some ⟨u3, 0, none⟩)), (17, .int .i64 0), (16, .agg #[.int .i64 (hiW ((a0 * b0 + a1 * b1 + a2 * b2 + a3 * b3))), .int .u64 (loW ((a0 * b0 + a1 * b1 + a2 * b2 + a3 * b3)) : Int)]), (12, .tuple #[.agg #[.int .i64 (hiW ((a0 * b0 + a1 * b1 + a2 * b2 + a3 * b3))), .int .u64 (loW ((a0 * b0 + a1 * b1 + a2 * b2 + a3 * b3)) : Int)], .int .i64 0]), (15, .tuple #[.agg #[.int .i64 (hiW ((a0 * b0 + a1 * b1 + a2 * b2 + a3 * b3))), .int .u64 (loW ((a0 * b0 + a1 * b1 + a2 * b2 + a3 * b3)) : Int)], .int .i64 0]), (14, .slice (some ⟨u2, 0, none⟩) 4 4), (13, .slice (some ⟨u1, 0, none⟩) 4 4), (3, .pointer (some ⟨u2, 0, none⟩)), (2, .pointer (some ⟨u1, 0, none⟩))] [(u3, .cells #[.int .i64 (hiW ((a0 * b0 + a1 * b1 + a2 * b2 + a3 * b3))), .int .u64 (loW ((a0 * b0 + a1 * b1 + a2 * b2 + a3 * b3)) : Int)] 83), (u2, .cells #[.int .i64 b0, .int .i64 b1, .int .i64 b2, .int .i64 b3] 23), (u1, .cells #[.int .i64 a0, .int .i64 a1, .int .i64 a2, .int .i64 a3] 23)] 1 #[true, true, true, true, true, true, true, true, false] := by
      intro u3
      refine (hN _ _ _ _).2 ?_
      refine Tr.take 8 (.int .i64 0) rfl (by kernel_rfl) (by kernel_rfl) (by kernel_rfl) rfl rfl rfl rfl ?_
      exact ((hN _ _ _ _).1 (N17 u3)).sub [0, 1, 2] (by decide) rfl ⟨rfl, rfl, rfl, rfl, rfl, rfl, rfl, rfl, rfl, rfl, trivial⟩
    have N15 : ∀ u3 : Nat, N [(6, .pointer (some ⟨u3, 0, none⟩)), (17, .int .i64 0), (16, .agg #[.int .i64 (hiW ((a0 * b0 + a1 * b1 + a2 * b2 + a3 * b3))), .int .u64 (loW ((a0 * b0 + a1 * b1 + a2 * b2 + a3 * b3)) : Int)]), (12, .tuple #[.agg #[.int .i64 (hiW ((a0 * b0 + a1 * b1 + a2 * b2 + a3 * b3))), .int .u64 (loW ((a0 * b0 + a1 * b1 + a2 * b2 + a3 * b3)) : Int)], .int .i64 0]), (15, .tuple #[.agg #[.int .i64 (hiW ((a0 * b0 + a1 * b1 + a2 * b2 + a3 * b3))), .int .u64 (loW ((a0 * b0 + a1 * b1 + a2 * b2 + a3 * b3)) : Int)], .int .i64 0]), (14, .slice (some ⟨u2, 0, none⟩) 4 4), (13, .slice (some ⟨u1, 0, none⟩) 4 4), (3, .pointer (some ⟨u2, 0, none⟩)), (2, .pointer (some ⟨u1, 0, none⟩))] [(u3, .cells #[.int .i64 0, .int .u64 0] 83), (u2, .cells #[.int .i64 b0, .int .i64 b1, .int .i64 b2, .int .i64 b3] 23), (u1, .cells #[.int .i64 a0, .int .i64 a1, .int .i64 a2, .int .i64 a3] 23)] 2 #[true, true, true, true, true, true, true, false, false] := by
      intro u3
      refine (hN _ _ _ _).2 ?_
      refine Tr.any 7 [] (by kernel_rfl) ⟨⟨_, rfl, ?_⟩, trivial⟩
      · skip
        refine Tr.one rfl (Tr.store 0 F.ty83 rfl rfl rfl rfl rfl rfl rfl rfl rfl rfl ?_)
        exact ((hN _ _ _ _).1 (N16 u3)).sub [0, 1, 2] (by decide) rfl ⟨rfl, rfl, rfl, rfl, rfl, rfl, rfl, rfl, rfl, trivial⟩
    have N14 : ∀ u3 : Nat, N [(6, .pointer (some ⟨u3, 0, none⟩)), (16, .agg #[.int .i64 (hiW ((a0 * b0 + a1 * b1 + a2 * b2 + a3 * b3))), .int .u64 (loW ((a0 * b0 + a1 * b1 + a2 * b2 + a3 * b3)) : Int)]), (12, .tuple #[.agg #[.int .i64 (hiW ((a0 * b0 + a1 * b1 + a2 * b2 + a3 * b3))), .int .u64 (loW ((a0 * b0 + a1 * b1 + a2 * b2 + a3 * b3)) : Int)], .int .i64 0]), (15, .tuple #[.agg #[.int .i64 (hiW ((a0 * b0 + a1 * b1 + a2 * b2 + a3 * b3))), .int .u64 (loW ((a0 * b0 + a1 * b1 + a2 * b2 + a3 * b3)) : Int)], .int .i64 0]), (14, .slice (some ⟨u2, 0, none⟩) 4 4), (13, .slice (some ⟨u1, 0, none⟩) 4 4), (3, .pointer (some ⟨u2, 0, none⟩)), (2, .pointer (some ⟨u1, 0, none⟩))] [(u3, .cells #[.int .i64 0, .int .u64 0] 83), (u2, .cells #[.int .i64 b0, .int .i64 b1, .int .i64 b2, .int .i64 b3] 23), (u1, .cells #[.int .i64 a0, .int .i64 a1, .int .i64 a2, .int .i64 a3] 23)] 3 #[true, true, true, true, true, false, true, false, false] := by
      intro u3
      refine (hN _ _ _ _).2 ?_
      refine Tr.take 5 (.int .i64 0) rfl (by kernel_rfl) (by kernel_rfl) (by kernel_rfl) rfl rfl rfl rfl ?_
      exact ((hN _ _ _ _).1 (N15 u3)).sub [0, 1, 2] (by decide) rfl ⟨rfl, rfl, rfl, rfl, rfl, rfl, rfl, rfl, rfl, trivial⟩
    have N13 : N [(17, .int .i64 0), (16, .agg #[.int .i64 (hiW ((a0 * b0 + a1 * b1 + a2 * b2 + a3 * b3))), .int .u64 (loW ((a0 * b0 + a1 * b1 + a2 * b2 + a3 * b3)) : Int)]), (12, .tuple #[.agg #[.int .i64 (hiW ((a0 * b0 + a1 * b1 + a2 * b2 + a3 * b3))), .int .u64 (loW ((a0 * b0 + a1 * b1 + a2 * b2 + a3 * b3)) : Int)], .int .i64 0]), (15, .tuple #[.agg #[.int .i64 (hiW ((a0 * b0 + a1 * b1 + a2 * b2 + a3 * b3))), .int .u64 (loW ((a0 * b0 + a1 * b1 + a2 * b2 + a3 * b3)) : Int)], .int .i64 0]), (14, .slice (some ⟨u2, 0, none⟩) 4 4), (13, .slice (some ⟨u1, 0, none⟩) 4 4), (3, .pointer (some ⟨u2, 0, none⟩)), (2, .pointer (some ⟨u1, 0, none⟩))] [(u2, .cells #[.int .i64 b0, .int .i64 b1, .int .i64 b2, .int .i64 b3] 23), (u1, .cells #[.int .i64 a0, .int .i64 a1, .int .i64 a2, .int .i64 a3] 23)] 3 #[true, true, true, true, true, true, false, false, false] := by
      refine (hN _ _ _ _).2 ?_
      refine Tr.any 6 [] (by kernel_rfl) ⟨⟨_, rfl, ?_⟩, trivial⟩
      · skip
        refine Tr.one rfl (Tr.alloc F.ty83 rfl rfl ?_)
        rintro u3
        exact ((hN _ _ _ _).1 (N15 u3)).sub [0, 1, 2] (by decide) rfl ⟨rfl, rfl, rfl, rfl, rfl, rfl, rfl, rfl, rfl, trivial⟩
    have N12 : ∀ u3 : Nat, N [(6, .pointer (some ⟨u3, 0, none⟩)), (12, .tuple #[.agg #[.int .i64 (hiW ((a0 * b0 + a1 * b1 + a2 * b2 + a3 * b3))), .int .u64 (loW ((a0 * b0 + a1 * b1 + a2 * b2 + a3 * b3)) : Int)], .int .i64 0]), (15, .tuple #[.agg #[.int .i64 (hiW ((a0 * b0 + a1 * b1 + a2 * b2 + a3 * b3))), .int .u64 (loW ((a0 * b0 + a1 * b1 + a2 * b2 + a3 * b3)) : Int)], .int .i64 0]), (14, .slice (some ⟨u2, 0, none⟩) 4 4), (13, .slice (some ⟨u1, 0, none⟩) 4 4), (3, .pointer (some ⟨u2, 0, none⟩)), (2, .pointer (some ⟨u1, 0, none⟩))] [(u3, .cells #[.int .i64 0, .int .u64 0] 83), (u2, .cells #[.int .i64 b0, .int .i64 b1, .int .i64 b2, .int .i64 b3] 23), (u1, .cells #[.int .i64 a0, .int .i64 a1, .int .i64 a2, .int .i64 a3] 23)] 4 #[true, true, true, true, false, false, true, false, false] := by
      intro u3
      refine (hN _ _ _ _).2 ?_
      refine Tr.take 4 (.agg #[.int .i64 (hiW ((a0 * b0 + a1 * b1 + a2 * b2 + a3 * b3))), .int .u64 (loW ((a0 * b0 + a1 * b1 + a2 * b2 + a3 * b3)) : Int)]) rfl (by kernel_rfl) (by kernel_rfl) (by kernel_rfl) rfl rfl rfl rfl ?_
      exact ((hN _ _ _ _).1 (N14 u3)).sub [0, 1, 2] (by decide) rfl ⟨rfl, rfl, rfl, rfl, rfl, rfl, rfl, rfl, trivial⟩
    have N11 : N [(16, .agg #[.int .i64 (hiW ((a0 * b0 + a1 * b1 + a2 * b2 + a3 * b3))), .int .u64 (loW ((a0 * b0 + a1 * b1 + a2 * b2 + a3 * b3)) : Int)]), (12, .tuple #[.agg #[.int .i64 (hiW ((a0 * b0 + a1 * b1 + a2 * b2 + a3 * b3))), .int .u64 (loW ((a0 * b0 + a1 * b1 + a2 * b2 + a3 * b3)) : Int)], .int .i64 0]), (15, .tuple #[.agg #[.int .i64 (hiW ((a0 * b0 + a1 * b1 + a2 * b2 + a3 * b3))), .int .u64 (loW ((a0 * b0 + a1 * b1 + a2 * b2 + a3 * b3)) : Int)], .int .i64 0]), (14, .slice (some ⟨u2, 0, none⟩) 4 4), (13, .slice (some ⟨u1, 0, none⟩) 4 4), (3, .pointer (some ⟨u2, 0, none⟩)), (2, .pointer (some ⟨u1, 0, none⟩))] [(u2, .cells #[.int .i64 b0, .int .i64 b1, .int .i64 b2, .int .i64 b3] 23), (u1, .cells #[.int .i64 a0, .int .i64 a1, .int .i64 a2, .int .i64 a3] 23)] 4 #[true, true, true, true, true, false, false, false, false] := by
      refine (hN _ _ _ _).2 ?_
      refine Tr.take 5 (.int .i64 0) rfl (by kernel_rfl) (by kernel_rfl) (by kernel_rfl) rfl rfl rfl rfl ?_
      exact ((hN _ _ _ _).1 (N13)).sub [0, 1] (by decide) rfl ⟨rfl, rfl, rfl, rfl, rfl, rfl, rfl, rfl, trivial⟩
    have N10 : ∀ u3 : Nat, N [(6, .pointer (some ⟨u3, 0, none⟩)), (15, .tuple #[.agg #[.int .i64 (hiW ((a0 * b0 + a1 * b1 + a2 * b2 + a3 * b3))), .int .u64 (loW ((a0 * b0 + a1 * b1 + a2 * b2 + a3 * b3)) : Int)], .int .i64 0]), (14, .slice (some ⟨u2, 0, none⟩) 4 4), (13, .slice (some ⟨u1, 0, none⟩) 4 4), (3, .pointer (some ⟨u2, 0, none⟩)), (2, .pointer (some ⟨u1, 0, none⟩))] [(u3, .cells #[.int .i64 0, .int .u64 0] 83), (u2, .cells #[.int .i64 b0, .int .i64 b1, .int .i64 b2, .int .i64 b3] 23), (u1, .cells #[.int .i64 a0, .int .i64 a1, .int .i64 a2, .int .i64 a3] 23)] 5 #[true, true, true, false, false, false, true, false, false] := by
      intro u3
      refine (hN _ _ _ _).2 ?_
      refine Tr.take 3 (.tuple #[.agg #[.int .i64 (hiW ((a0 * b0 + a1 * b1 + a2 * b2 + a3 * b3))), .int .u64 (loW ((a0 * b0 + a1 * b1 + a2 * b2 + a3 * b3)) : Int)], .int .i64 0]) rfl (by kernel_rfl) (by kernel_rfl) (by kernel_rfl) rfl rfl rfl rfl ?_
      exact ((hN _ _ _ _).1 (N12 u3)).sub [0, 1, 2] (by decide) rfl ⟨rfl, rfl, rfl, rfl, rfl, rfl, rfl, trivial⟩
    have N9 : N [(12, .tuple #[.agg #[.int .i64 (hiW ((a0 * b0 + a1 * b1 + a2 * b2 + a3 * b3))), .int .u64 (loW ((a0 * b0 + a1 * b1 + a2 * b2 + a3 * b3)) : Int)], .int .i64 0]), (15, .tuple #[.agg #[.int .i64 (hiW ((a0 * b0 + a1 * b1 + a2 * b2 + a3 * b3))), .int .u64 (loW ((a0 * b0 + a1 * b1 + a2 * b2 + a3 * b3)) : Int)], .int .i64 0]), (14, .slice (some ⟨u2, 0, none⟩) 4 4), (13, .slice (some ⟨u1, 0, none⟩) 4 4), (3, .pointer (some ⟨u2, 0, none⟩)), (2, .pointer (some ⟨u1, 0, none⟩))] [(u2, .cells #[.int .i64 b0, .int .i64 b1, .int .i64 b2, .int .i64 b3] 23), (u1, .cells #[.int .i64 a0, .int .i64 a1, .int .i64 a2, .int .i64 a3] 23)] 5 #[true, true, true, true, false, false, false, false, false] := by
      refine (hN _ _ _ _).2 ?_
      refine Tr.take 4 (.agg #[.int .i64 (hiW ((a0 * b0 + a1 * b1 + a2 * b2 + a3 * b3))), .int .u64 (loW ((a0 * b0 + a1 * b1 + a2 * b2 + a3 * b3)) : Int)]) rfl (by kernel_rfl) (by kernel_rfl) (by kernel_rfl) rfl rfl rfl rfl ?_
      exact ((hN _ _ _ _).1 (N11)).sub [0, 1] (by decide) rfl ⟨rfl, rfl, rfl, rfl, rfl, rfl, rfl, trivial⟩
    have N8 : ∀ u3 : Nat, N [(6, .pointer (some ⟨u3, 0, none⟩)), (14, .slice (some ⟨u2, 0, none⟩) 4 4), (13, .slice (some ⟨u1, 0, none⟩) 4 4), (3, .pointer (some ⟨u2, 0, none⟩)), (2, .pointer (some ⟨u1, 0, none⟩))] [(u3, .cells #[.int .i64 0, .int .u64 0] 83), (u2, .cells #[.int .i64 b0, .int .i64 b1, .int .i64 b2, .int .i64 b3] 23), (u1, .cells #[.int .i64 a0, .int .i64 a1, .int .i64 a2, .int .i64 a3] 23)] 6 #[true, true, false, false, false, false, true, false, false] := by
      intro u3
      refine (hN _ _ _ _).2 ?_
      refine Tr.any 2 [] (by kernel_rfl) ⟨⟨_, rfl, ?_⟩, trivial⟩
      · skip
        refine Tr.one rfl (Tr.call (v := .tuple #[.agg #[.int .i64 (hiW ((a0 * b0 + a1 * b1 + a2 * b2 + a3 * b3))), .int .u64 (loW ((a0 * b0 + a1 * b1 + a2 * b2 + a3 * b3)) : Int)], .int .i64 0]) F.en37 rfl (fun w hw => hS _ _ w (hw.row 2 4 rfl rfl) (hw.row 1 4 rfl rfl)) rfl ?_)
        exact ((hN _ _ _ _).1 (N10 u3)).sub [0, 1, 2] (by decide) rfl ⟨rfl, rfl, rfl, rfl, rfl, rfl, trivial⟩
    have N7 : N [(15, .tuple #[.agg #[.int .i64 (hiW ((a0 * b0 + a1 * b1 + a2 * b2 + a3 * b3))), .int .u64 (loW ((a0 * b0 + a1 * b1 + a2 * b2 + a3 * b3)) : Int)], .int .i64 0]), (14, .slice (some ⟨u2, 0, none⟩) 4 4), (13, .slice (some ⟨u1, 0, none⟩) 4 4), (3, .pointer (some ⟨u2, 0, none⟩)), (2, .pointer (some ⟨u1, 0, none⟩))] [(u2, .cells #[.int .i64 b0, .int .i64 b1, .int .i64 b2, .int .i64 b3] 23), (u1, .cells #[.int .i64 a0, .int .i64 a1, .int .i64 a2, .int .i64 a3] 23)] 6 #[true, true, true, false, false, false, false, false, false] := by
      refine (hN _ _ _ _).2 ?_
      refine Tr.take 3 (.tuple #[.agg #[.int .i64 (hiW ((a0 * b0 + a1 * b1 + a2 * b2 + a3 * b3))), .int .u64 (loW ((a0 * b0 + a1 * b1 + a2 * b2 + a3 * b3)) : Int)], .int .i64 0]) rfl (by kernel_rfl) (by kernel_rfl) (by kernel_rfl) rfl rfl rfl rfl ?_
      exact ((hN _ _ _ _).1 (N9)).sub [0, 1] (by decide) rfl ⟨rfl, rfl, rfl, rfl, rfl, rfl, trivial⟩
    have N6 : ∀ u3 : Nat, N [(6, .pointer (some ⟨u3, 0, none⟩)), (14, .slice (some ⟨u2, 0, none⟩) 4 4), (3, .pointer (some ⟨u2, 0, none⟩)), (2, .pointer (some ⟨u1, 0, none⟩))] [(u3, .cells #[.int .i64 0, .int .u64 0] 83), (u2, .cells #[.int .i64 b0, .int .i64 b1, .int .i64 b2, .int .i64 b3] 23), (u1, .cells #[.int .i64 a0, .int .i64 a1, .int .i64 a2, .int .i64 a3] 23)] 7 #[false, true, false, false, false, false, true, false, false] := by
      intro u3
      refine (hN _ _ _ _).2 ?_
      refine Tr.any 0 [] (by kernel_rfl) ⟨⟨_, rfl, ?_⟩, trivial⟩
      · skip
        refine Tr.one rfl (Tr.sliceArr F.arr23 rfl rfl ?_)
        exact ((hN _ _ _ _).1 (N8 u3)).sub [0, 1, 2] (by decide) rfl ⟨rfl, rfl, rfl, rfl, rfl, trivial⟩
    have N5 : ∀ u3 : Nat, N [(6, .pointer (some ⟨u3, 0, none⟩)), (13, .slice (some ⟨u1, 0, none⟩) 4 4), (3, .pointer (some ⟨u2, 0, none⟩)), (2, .pointer (some ⟨u1, 0, none⟩))] [(u3, .cells #[.int .i64 0, .int .u64 0] 83), (u2, .cells #[.int .i64 b0, .int .i64 b1, .int .i64 b2, .int .i64 b3] 23), (u1, .cells #[.int .i64 a0, .int .i64 a1, .int .i64 a2, .int .i64 a3] 23)] 7 #[true, false, false, false, false, false, true, false, false] := by
      intro u3
      refine (hN _ _ _ _).2 ?_
      refine Tr.any 1 [] (by kernel_rfl) ⟨⟨_, rfl, ?_⟩, trivial⟩
      · skip
        refine Tr.one rfl (Tr.sliceArr F.arr23 rfl rfl ?_)
        exact ((hN _ _ _ _).1 (N8 u3)).sub [0, 1, 2] (by decide) rfl ⟨rfl, rfl, rfl, rfl, rfl, trivial⟩
    have N4 : N [(14, .slice (some ⟨u2, 0, none⟩) 4 4), (13, .slice (some ⟨u1, 0, none⟩) 4 4), (3, .pointer (some ⟨u2, 0, none⟩)), (2, .pointer (some ⟨u1, 0, none⟩))] [(u2, .cells #[.int .i64 b0, .int .i64 b1, .int .i64 b2, .int .i64 b3] 23), (u1, .cells #[.int .i64 a0, .int .i64 a1, .int .i64 a2, .int .i64 a3] 23)] 7 #[true, true, false, false, false, false, false, false, false] := by
      refine (hN _ _ _ _).2 ?_
      refine Tr.any 2 [6] (by kernel_rfl) ⟨⟨_, rfl, ?_⟩, ⟨_, rfl, ?_⟩, trivial⟩
      · skip
        refine Tr.one rfl (Tr.call (v := .tuple #[.agg #[.int .i64 (hiW ((a0 * b0 + a1 * b1 + a2 * b2 + a3 * b3))), .int .u64 (loW ((a0 * b0 + a1 * b1 + a2 * b2 + a3 * b3)) : Int)], .int .i64 0]) F.en37 rfl (fun w hw => hS _ _ w (hw.row 1 4 rfl rfl) (hw.row 0 4 rfl rfl)) rfl ?_)
        exact ((hN _ _ _ _).1 (N7)).sub [0, 1] (by decide) rfl ⟨rfl, rfl, rfl, rfl, rfl, trivial⟩
      · skip
        refine Tr.one rfl (Tr.alloc F.ty83 rfl rfl ?_)
        rintro u3
        exact ((hN _ _ _ _).1 (N8 u3)).sub [0, 1, 2] (by decide) rfl ⟨rfl, rfl, rfl, rfl, rfl, trivial⟩
    have N3 : ∀ u3 : Nat, N [(6, .pointer (some ⟨u3, 0, none⟩)), (3, .pointer (some ⟨u2, 0, none⟩)), (2, .pointer (some ⟨u1, 0, none⟩))] [(u3, .cells #[.int .i64 0, .int .u64 0] 83), (u2, .cells #[.int .i64 b0, .int .i64 b1, .int .i64 b2, .int .i64 b3] 23), (u1, .cells #[.int .i64 a0, .int .i64 a1, .int .i64 a2, .int .i64 a3] 23)] 8 #[false, false, false, false, false, false, true, false, false] := by
      intro u3
      refine (hN _ _ _ _).2 ?_
      refine Tr.any 0 [1] (by kernel_rfl) ⟨⟨_, rfl, ?_⟩, ⟨_, rfl, ?_⟩, trivial⟩
      · skip
        refine Tr.one rfl (Tr.sliceArr F.arr23 rfl rfl ?_)
        exact ((hN _ _ _ _).1 (N5 u3)).sub [0, 1, 2] (by decide) rfl ⟨rfl, rfl, rfl, rfl, trivial⟩
      · skip
        refine Tr.one rfl (Tr.sliceArr F.arr23 rfl rfl ?_)
        exact ((hN _ _ _ _).1 (N6 u3)).sub [0, 1, 2] (by decide) rfl ⟨rfl, rfl, rfl, rfl, trivial⟩
    have N2 : N [(14, .slice (some ⟨u2, 0, none⟩) 4 4), (3, .pointer (some ⟨u2, 0, none⟩)), (2, .pointer (some ⟨u1, 0, none⟩))] [(u2, .cells #[.int .i64 b0, .int .i64 b1, .int .i64 b2, .int .i64 b3] 23), (u1, .cells #[.int .i64 a0, .int .i64 a1, .int .i64 a2, .int .i64 a3] 23)] 8 #[false, true, false, false, false, false, false, false, false] := by
      refine (hN _ _ _ _).2 ?_
      refine Tr.any 0 [6] (by kernel_rfl) ⟨⟨_, rfl, ?_⟩, ⟨_, rfl, ?_⟩, trivial⟩
      · skip
        refine Tr.one rfl (Tr.sliceArr F.arr23 rfl rfl ?_)
        exact ((hN _ _ _ _).1 (N4)).sub [0, 1] (by decide) rfl ⟨rfl, rfl, rfl, rfl, trivial⟩
      · skip
        refine Tr.one rfl (Tr.alloc F.ty83 rfl rfl ?_)
        rintro u3
        exact ((hN _ _ _ _).1 (N6 u3)).sub [0, 1, 2] (by decide) rfl ⟨rfl, rfl, rfl, rfl, trivial⟩
    have N1 : N [(13, .slice (some ⟨u1, 0, none⟩) 4 4), (3, .pointer (some ⟨u2, 0, none⟩)), (2, .pointer (some ⟨u1, 0, none⟩))] [(u2, .cells #[.int .i64 b0, .int .i64 b1, .int .i64 b2, .int .i64 b3] 23), (u1, .cells #[.int .i64 a0, .int .i64 a1, .int .i64 a2, .int .i64 a3] 23)] 8 #[true, false, false, false, false, false, false, false, false] := by
      refine (hN _ _ _ _).2 ?_
      refine Tr.any 1 [6] (by kernel_rfl) ⟨⟨_, rfl, ?_⟩, ⟨_, rfl, ?_⟩, trivial⟩
      · skip
        refine Tr.one rfl (Tr.sliceArr F.arr23 rfl rfl ?_)
        exact ((hN _ _ _ _).1 (N4)).sub [0, 1] (by decide) rfl ⟨rfl, rfl, rfl, rfl, trivial⟩
      · skip
        refine Tr.one rfl (Tr.alloc F.ty83 rfl rfl ?_)
        rintro u3
        exact ((hN _ _ _ _).1 (N5 u3)).sub [0, 1, 2] (by decide) rfl ⟨rfl, rfl, rfl, rfl, trivial⟩
    have N0 : N [(3, .pointer (some ⟨u2, 0, none⟩)), (2, .pointer (some ⟨u1, 0, none⟩))] [(u2, .cells #[.int .i64 b0, .int .i64 b1, .int .i64 b2, .int .i64 b3] 23), (u1, .cells #[.int .i64 a0, .int .i64 a1, .int .i64 a2, .int .i64 a3] 23)] 9 #[false, false, false, false, false, false, false, false, false] := by
      refine (hN _ _ _ _).2 ?_
      refine Tr.any 0 [1, 6] (by kernel_rfl) ⟨⟨_, rfl, ?_⟩, ⟨_, rfl, ?_⟩, ⟨_, rfl, ?_⟩, trivial⟩
      · skip
        refine Tr.one rfl (Tr.sliceArr F.arr23 rfl rfl ?_)
        exact ((hN _ _ _ _).1 (N1)).sub [0, 1] (by decide) rfl ⟨rfl, rfl, rfl, trivial⟩
      · skip
        refine Tr.one rfl (Tr.sliceArr F.arr23 rfl rfl ?_)
        exact ((hN _ _ _ _).1 (N2)).sub [0, 1] (by decide) rfl ⟨rfl, rfl, rfl, trivial⟩
      · skip
        refine Tr.one rfl (Tr.alloc F.ty83 rfl rfl ?_)
        rintro u3
        exact ((hN _ _ _ _).1 (N3 u3)).sub [0, 1, 2] (by decide) rfl ⟨rfl, rfl, rfl, trivial⟩
    exact (hN _ _ _ _).2 (((hN _ _ _ _).1 N0).sub [0, 1] (by decide) rfl ⟨rfl, rfl, trivial⟩)
  · rintro u3
    refine Tr.thenN ?_
    refine Tr.seq ?_
    refine Tr.seq ?_
    refine Tr.region ?_
    refine Tr.step rfl (Tr.val rfl rfl ?_)
    refine Tr.step rfl (Tr.valE (.bool false) rfl rfl rfl ?_)
    refine Tr.nil ?_
    refine Tr.thenN ?_
    refine Tr.not rfl ?_
    refine Tr.skip ?_
    refine Tr.thenN ?_
    refine Tr.seq ?_
    refine Tr.region ?_
    refine Tr.step rfl (Tr.loadN (vs := [.int .i64 (hiW ((a0 * b0 + a1 * b1 + a2 * b2 + a3 * b3))), .int .u64 (loW ((a0 * b0 + a1 * b1 + a2 * b2 + a3 * b3)) : Int)]) F.ty83 rfl (Cells.own 0 2 rfl rfl) rfl rfl ?_)
    refine Tr.step rfl (Tr.callX (X := Int) (fun r => .tuple #[.agg #[.int .i64 (hiW ((a0 * b0 + a1 * b1 + a2 * b2 + a3 * b3) / 65536)), .int .u64 (loW ((a0 * b0 + a1 * b1 + a2 * b2 + a3 * b3) / 65536) : Int)], .int .i64 r, .int .i64 0]) (fun r => []) (fun r => True) F.en38 rfl (fun w hw => (div_n _ hd.1 hd.2 w).mono fun e w1 ⟨r, q⟩ => ⟨r, q.1, q.2, New.nil _ _, trivial⟩) rfl ?_)
    rintro r _
    refine Tr.step rfl (Tr.val rfl rfl ?_)
    refine Tr.step rfl (Tr.val rfl rfl ?_)
    refine Tr.step rfl (Tr.val rfl rfl ?_)
    refine Tr.step rfl (Tr.val rfl rfl ?_)
    refine Tr.step rfl (Tr.alloc F.ty83 rfl rfl ?_)
    rintro u4
    refine Tr.step rfl (Tr.store 0 F.ty83 rfl rfl rfl rfl rfl rfl rfl rfl rfl rfl ?_)
    refine Tr.step rfl (Tr.val rfl rfl ?_)
    refine Tr.step rfl (Tr.val rfl rfl ?_)
    refine Tr.nil ?_
    refine Tr.thenN ?_
    refine Tr.seq ?_
    refine Tr.region ?_
    refine Tr.step rfl (Tr.loadN (vs := [.int .i64 (hiW ((a0 * b0 + a1 * b1 + a2 * b2 + a3 * b3) / 65536)), .int .u64 (loW ((a0 * b0 + a1 * b1 + a2 * b2 + a3 * b3) / 65536) : Int)]) F.ty83 rfl (Cells.own 0 2 rfl rfl) rfl rfl ?_)
    refine Tr.step rfl (Tr.call (v := .tuple #[.int .i64 ((a0 * b0 + a1 * b1 + a2 * b2 + a3 * b3) / 65536), .int .i64 0]) F.en39 rfl (fun w hw => int_n _ (by omega) (by omega) w) rfl ?_)
    refine Tr.step rfl (Tr.val rfl rfl ?_)
    refine Tr.step rfl (Tr.val rfl rfl ?_)
    refine Tr.step rfl (Tr.val rfl rfl ?_)
    refine Tr.step rfl (Tr.val rfl rfl ?_)
    refine Tr.step rfl (Tr.val rfl rfl ?_)
    refine Tr.nil ?_
    refine Tr.thenN ?_
    refine Tr.seq ?_
    refine Tr.seq ?_
    refine Tr.region ?_
    refine Tr.step rfl (Tr.val rfl rfl ?_)
    refine Tr.step rfl (Tr.valE (.bool false) rfl rfl rfl ?_)
    refine Tr.step rfl (Tr.val rfl rfl ?_)
    refine Tr.stepYes rfl rfl rfl rfl (Tr.val rfl rfl ?_)
    refine Tr.stepYes rfl rfl rfl rfl (Tr.valE (.bool false) rfl rfl rfl ?_)
    refine Tr.step rfl (Tr.val rfl rfl ?_)
    refine Tr.step rfl (Tr.val rfl rfl ?_)
    refine Tr.stepYes rfl rfl rfl rfl (Tr.val rfl rfl ?_)
    refine Tr.stepYes rfl rfl rfl rfl (Tr.call (v := .int .i64 ((a0 * b0 + a1 * b1 + a2 * b2 + a3 * b3) / 65536)) F.en40 rfl (fun w hw => clamp_in _ hq.1 hq.2 w) rfl ?_)
    refine Tr.stepYes rfl rfl rfl rfl (Tr.val rfl rfl ?_)
    refine Tr.stepYes rfl rfl rfl rfl (Tr.valE (.bool false) rfl (vbool (by simp)) rfl ?_)
    refine Tr.step rfl (Tr.val rfl rfl ?_)
    refine Tr.nil ?_
    refine Tr.thenN ?_
    refine Tr.not rfl ?_
    refine Tr.skip ?_
    refine Tr.thenN ?_
    refine Tr.seq ?_
    refine Tr.region ?_
    refine Tr.step rfl (Tr.val rfl rfl ?_)
    refine Tr.step rfl (Tr.val rfl rfl ?_)
    refine Tr.step rfl (Tr.val rfl rfl ?_)
    refine Tr.nil ?_
    refine Tr.thenN ?_
    refine Tr.ret ?_
    refine Tr.leave rfl rfl ?_
    refine Tr.res2 rfl (RsV.tmp rfl) (RsV.tmp rfl) (fun w hw => ?_)
    exact ⟨rfl, hw.fm⟩

set_option maxRecDepth 100000 in
set_option maxHeartbeats 4000000 in
theorem sum_far (a0 a1 a2 a3 b0 b1 b2 b3 : Int) (hb : Bd8 a0 a1 a2 a3 b0 b1 b2 b3) (hq : ¬ (-9223372036854775808 ≤ (a0 * b0 + a1 * b1 + a2 * b2 + a3 * b3) / 65536 ∧ (a0 * b0 + a1 * b1 + a2 * b2 + a3 * b3) / 65536 ≤ 9223372036854775807)) (w : World) : Calls Tryd.prog 28 #[.agg #[.int .i64 a0, .int .i64 a1, .int .i64 a2, .int .i64 a3], .agg #[.int .i64 b0, .int .i64 b1, .int .i64 b2, .int .i64 b3]] w (Gives (.tuple #[.int .i64 0, .int .i64 30]) w) := by
  have hS := sum_i0 a0 a1 a2 a3 b0 b1 b2 b3 hb
  have hd := d_bd a0 a1 a2 a3 b0 b1 b2 b3 hb
  refine calls_enter No Tryd.func28 rfl rfl rfl rfl ?_
  refine Tr.seq ?_
  refine Tr.region ?_
  refine Tr.step rfl (Tr.box rfl rfl rfl ?_)
  rintro u1
  refine Tr.step rfl (Tr.box rfl rfl rfl ?_)
  rintro u2
  refine Tr.step rfl (Tr.val rfl rfl ?_)
  refine Tr.step rfl (Tr.val rfl rfl ?_)
  refine Tr.nil ?_
  refine Tr.thenN ?_
  refine Tr.seq ?_
  refine Tr.sub (l' := [(3, .pointer (some ⟨u2, 0, none⟩)), (2, .pointer (some ⟨u1, 0, none⟩))]) (h' := [(u2, .cells #[.int .i64 b0, .int .i64 b1, .int .i64 b2, .int .i64 b3] 23), (u1, .cells #[.int .i64 a0, .int .i64 a1, .int .i64 a2, .int .i64 a3] 23)]) ?_ [0, 1] (by decide) rfl ⟨rfl, rfl, trivial⟩
  refine Tr.drawG (Y := Nat) (fun u3 => [(7, .int .i64 0), (6, .pointer (some ⟨u3, 0, none⟩)), (17, .int .i64 0), (16, .agg #[.int .i64 (hiW ((a0 * b0 + a1 * b1 + a2 * b2 + a3 * b3))), .int .u64 (loW ((a0 * b0 + a1 * b1 + a2 * b2 + a3 * b3)) : Int)]), (12, .tuple #[.agg #[.int .i64 (hiW ((a0 * b0 + a1 * b1 + a2 * b2 + a3 * b3))), .int .u64 (loW ((a0 * b0 + a1 * b1 + a2 * b2 + a3 * b3)) : Int)], .int .i64 0]), (15, .tuple #[.agg #[.int .i64 (hiW ((a0 * b0 + a1 * b1 + a2 * b2 + a3 * b3))), .int .u64 (loW ((a0 * b0 + a1 * b1 + a2 * b2 + a3 * b3)) : Int)], .int .i64 0]), (14, .slice (some ⟨u2, 0, none⟩) 4 4), (13, .slice (some ⟨u1, 0, none⟩) 4 4), (3, .pointer (some ⟨u2, 0, none⟩)), (2, .pointer (some ⟨u1, 0, none⟩))]) (fun u3 => [(u3, .cells #[.int .i64 (hiW ((a0 * b0 + a1 * b1 + a2 * b2 + a3 * b3))), .int .u64 (loW ((a0 * b0 + a1 * b1 + a2 * b2 + a3 * b3)) : Int)] 83), (u2, .cells #[.int .i64 b0, .int .i64 b1, .int .i64 b2, .int .i64 b3] 23), (u1, .cells #[.int .i64 a0, .int .i64 a1, .int .i64 a2, .int .i64 a3] 23)]) F.mixed ?_ ?_
  · intro K N hN tE
    have N17 : ∀ u3 : Nat, N [(7, .int .i64 0), (6, .pointer (some ⟨u3, 0, none⟩)), (17, .int .i64 0), (16, .agg #[.int .i64 (hiW ((a0 * b0 + a1 * b1 + a2 * b2 + a3 * b3))), .int .u64 (loW ((a0 * b0 + a1 * b1 + a2 * b2 + a3 * b3)) : Int)]), (12, .tuple #[.agg #[.int .i64 (hiW ((a0 * b0 + a1 * b1 + a2 * b2 + a3 * b3))), .int .u64 (loW ((a0 * b0 + a1 * b1 + a2 * b2 + a3 * b3)) : Int)], .int .i64 0]), (15, .tuple #[.agg #[.int .i64 (hiW ((a0 * b0 + a1 * b1 + a2 * b2 + a3 * b3))), .int .u64 (loW ((a0 * b0 + a1 * b1 + a2 * b2 + a3 * b3)) : Int)], .int .i64 0]), (14, .slice (some ⟨u2, 0, none⟩) 4 4), (13, .slice (some ⟨u1, 0, none⟩) 4 4), (3, .pointer (some ⟨u2, 0, none⟩)), (2, .pointer (some ⟨u1, 0, none⟩))] [(u3, .cells #[.int .i64 (hiW ((a0 * b0 + a1 * b1 + a2 * b2 + a3 * b3))), .int .u64 (loW ((a0 * b0 + a1 * b1 + a2 * b2 + a3 * b3)) : Int)] 83), (u2, .cells #[.int .i64 b0, .int .i64 b1, .int .i64 b2, .int .i64 b3] 23), (u1, .cells #[.int .i64 a0, .int .i64 a1, .int .i64 a2, .int .i64 a3] 23)] 0 #[true, true, true, true, true, true, true, true, true] := by
      intro u3
      refine (hN _ _ _ _).2 ?_
      exact Tr.anyEnd (by kernel_rfl) (tE u3)
    have N16 : ∀ u3 : Nat, N [(6, .pointer (some ⟨u3, 0, none⟩)), (17, .int .i64 0), (16, .agg #[.int .i64 (hiW ((a0 * b0 + a1 * b1 + a2 * b2 + a3 * b3))), .int .u64 (loW ((a0 * b0 + a1 * b1 + a2 * b2 + a3 * b3)) : Int)]), (12, .tuple #[.agg #[.int .i64 (hiW ((a0 * b0 + a1 * b1 + a2 * b2 + a3 * b3))), .int .u64 (loW ((a0 * b0 + a1 * b1 + a2 * b2 + a3 * b3)) : Int)], .int .i64 0]), (15, .tuple #[.agg #[.int .i64 (hiW ((a0 * b0 + a1 * b1 + a2 * b2 + a3 * b3))), .int .u64 (loW ((a0 * b0 + a1 * b1 + a2 * b2 + a3 * b3)) : Int)], .int .i64 0]), (14, .slice (some ⟨u2, 0, none⟩) 4 4), (13, .slice (some ⟨u1, 0, none⟩) 4 4), (3, .pointer (some ⟨u2, 0, none⟩)), (2, .pointer (some ⟨u1, 0, none⟩))] [(u3, .cells #[.int .i64 (hiW ((a0 * b0 + a1 * b1 + a2 * b2 + a3 * b3))), .int .u64 (loW ((a0 * b0 + a1 * b1 + a2 * b2 + a3 * b3)) : Int)] 83), (u2, .cells #[.int .i64 b0, .int .i64 b1, .int .i64 b2, .int .i64 b3] 23), (u1, .cells #[.int .i64 a0, .int .i64 a1, .int .i64 a2, .int .i64 a3] 23)] 1 #[true, true, true, true, true, true, true, true, false] := by
      intro u3
      refine (hN _ _ _ _).2 ?_
      refine Tr.take 8 (.int .i64 0) rfl (by kernel_rfl) (by kernel_rfl) (by kernel_rfl) rfl rfl rfl rfl ?_
      exact ((hN _ _ _ _).1 (N17 u3)).sub [0, 1, 2] (by decide) rfl ⟨rfl, rfl, rfl, rfl, rfl, rfl, rfl, rfl, rfl, rfl, trivial⟩
    have N15 : ∀ u3 : Nat, N [(6, .pointer (some ⟨u3, 0, none⟩)), (17, .int .i64 0), (16, .agg #[.int .i64 (hiW ((a0 * b0 + a1 * b1 + a2 * b2 + a3 * b3))), .int .u64 (loW ((a0 * b0 + a1 * b1 + a2 * b2 + a3 * b3)) : Int)]), (12, .tuple #[.agg #[.int .i64 (hiW ((a0 * b0 + a1 * b1 + a2 * b2 + a3 * b3))), .int .u64 (loW ((a0 * b0 + a1 * b1 + a2 * b2 + a3 * b3)) : Int)], .int .i64 0]), (15, .tuple #[.agg #[.int .i64 (hiW ((a0 * b0 + a1 * b1 + a2 * b2 + a3 * b3))), .int .u64 (loW ((a0 * b0 + a1 * b1 + a2 * b2 + a3 * b3)) : Int)], .int .i64 0]), (14, .slice (some ⟨u2, 0, none⟩) 4 4), (13, .slice (some ⟨u1, 0, none⟩) 4 4), (3, .pointer (some ⟨u2, 0, none⟩)), (2, .pointer (some ⟨u1, 0, none⟩))] [(u3, .cells #[.int .i64 0, .int .u64 0] 83), (u2, .cells #[.int .i64 b0, .int .i64 b1, .int .i64 b2, .int .i64 b3] 23), (u1, .cells #[.int .i64 a0, .int .i64 a1, .int .i64 a2, .int .i64 a3] 23)] 2 #[true, true, true, true, true, true, true, false, false] := by
      intro u3
      refine (hN _ _ _ _).2 ?_
      refine Tr.any 7 [] (by kernel_rfl) ⟨⟨_, rfl, ?_⟩, trivial⟩
      · skip
        refine Tr.one rfl (Tr.store 0 F.ty83 rfl rfl rfl rfl rfl rfl rfl rfl rfl rfl ?_)
        exact ((hN _ _ _ _).1 (N16 u3)).sub [0, 1, 2] (by decide) rfl ⟨rfl, rfl, rfl, rfl, rfl, rfl, rfl, rfl, rfl, trivial⟩
    have N14 : ∀ u3 : Nat, N [(6, .pointer (some ⟨u3, 0, none⟩)), (16, .agg #[.int .i64 (hiW ((a0 * b0 + a1 * b1 + a2 * b2 + a3 * b3))), .int .u64 (loW ((a0 * b0 + a1 * b1 + a2 * b2 + a3 * b3)) : Int)]), (12, .tuple #[.agg #[.int .i64 (hiW ((a0 * b0 + a1 * b1 + a2 * b2 + a3 * b3))), .int .u64 (loW ((a0 * b0 + a1 * b1 + a2 * b2 + a3 * b3)) : Int)], .int .i64 0]), (15, .tuple #[.agg #[.int .i64 (hiW ((a0 * b0 + a1 * b1 + a2 * b2 + a3 * b3))), .int .u64 (loW ((a0 * b0 + a1 * b1 + a2 * b2 + a3 * b3)) : Int)], .int .i64 0]), (14, .slice (some ⟨u2, 0, none⟩) 4 4), (13, .slice (some ⟨u1, 0, none⟩) 4 4), (3, .pointer (some ⟨u2, 0, none⟩)), (2, .pointer (some ⟨u1, 0, none⟩))] [(u3, .cells #[.int .i64 0, .int .u64 0] 83), (u2, .cells #[.int .i64 b0, .int .i64 b1, .int .i64 b2, .int .i64 b3] 23), (u1, .cells #[.int .i64 a0, .int .i64 a1, .int .i64 a2, .int .i64 a3] 23)] 3 #[true, true, true, true, true, false, true, false, false] := by
      intro u3
      refine (hN _ _ _ _).2 ?_
      refine Tr.take 5 (.int .i64 0) rfl (by kernel_rfl) (by kernel_rfl) (by kernel_rfl) rfl rfl rfl rfl ?_
      exact ((hN _ _ _ _).1 (N15 u3)).sub [0, 1, 2] (by decide) rfl ⟨rfl, rfl, rfl, rfl, rfl, rfl, rfl, rfl, rfl, trivial⟩
    have N13 : N [(17, .int .i64 0), (16, .agg #[.int .i64 (hiW ((a0 * b0 + a1 * b1 + a2 * b2 + a3 * b3))), .int .u64 (loW ((a0 * b0 + a1 * b1 + a2 * b2 + a3 * b3)) : Int)]), (12, .tuple #[.agg #[.int .i64 (hiW ((a0 * b0 + a1 * b1 + a2 * b2 + a3 * b3))), .int .u64 (loW ((a0 * b0 + a1 * b1 + a2 * b2 + a3 * b3)) : Int)], .int .i64 0]), (15, .tuple #[.agg #[.int .i64 (hiW ((a0 * b0 + a1 * b1 + a2 * b2 + a3 * b3))), .int .u64 (loW ((a0 * b0 + a1 * b1 + a2 * b2 + a3 * b3)) : Int)], .int .i64 0]), (14, .slice (some ⟨u2, 0, none⟩) 4 4), (13, .slice (some ⟨u1, 0, none⟩) 4 4), (3, .pointer (some ⟨u2, 0, none⟩)), (2, .pointer (some ⟨u1, 0, none⟩))] [(u2, .cells #[.int .i64 b0, .int .i64 b1, .int .i64 b2, .int .i64 b3] 23), (u1, .cells #[.int .i64 a0, .int .i64 a1, .int .i64 a2, .int .i64 a3] 23)] 3 #[true, true, true, true, true, true, false, false, false] := by
      refine (hN _ _ _ _).2 ?_
      refine Tr.any 6 [] (by kernel_rfl) ⟨⟨_, rfl, ?_⟩, trivial⟩
      · skip
        refine Tr.one rfl (Tr.alloc F.ty83 rfl rfl ?_)
        rintro u3
        exact ((hN _ _ _ _).1 (N15 u3)).sub [0, 1, 2] (by decide) rfl ⟨rfl, rfl, rfl, rfl, rfl, rfl, rfl, rfl, rfl, trivial⟩
    have N12 : ∀ u3 : Nat, N [(6, .pointer (some ⟨u3, 0, none⟩)), (12, .tuple #[.agg #[.int .i64 (hiW ((a0 * b0 + a1 * b1 + a2 * b2 + a3 * b3))), .int .u64 (loW ((a0 * b0 + a1 * b1 + a2 * b2 + a3 * b3)) : Int)], .int .i64 0]), (15, .tuple #[.agg #[.int .i64 (hiW ((a0 * b0 + a1 * b1 + a2 * b2 + a3 * b3))), .int .u64 (loW ((a0 * b0 + a1 * b1 + a2 * b2 + a3 * b3)) : Int)], .int .i64 0]), (14, .slice (some ⟨u2, 0, none⟩) 4 4), (13, .slice (some ⟨u1, 0, none⟩) 4 4), (3, .pointer (some ⟨u2, 0, none⟩)), (2, .pointer (some ⟨u1, 0, none⟩))] [(u3, .cells #[.int .i64 0, .int .u64 0] 83), (u2, .cells #[.int .i64 b0, .int .i64 b1, .int .i64 b2, .int .i64 b3] 23), (u1, .cells #[.int .i64 a0, .int .i64 a1, .int .i64 a2, .int .i64 a3] 23)] 4 #[true, true, true, true, false, false, true, false, false] := by
      intro u3
      refine (hN _ _ _ _).2 ?_
      refine Tr.take 4 (.agg #[.int .i64 (hiW ((a0 * b0 + a1 * b1 + a2 * b2 + a3 * b3))), .int .u64 (loW ((a0 * b0 + a1 * b1 + a2 * b2 + a3 * b3)) : Int)]) rfl (by kernel_rfl) (by kernel_rfl) (by kernel_rfl) rfl rfl rfl rfl ?_
      exact ((hN _ _ _ _).1 (N14 u3)).sub [0, 1, 2] (by decide) rfl ⟨rfl, rfl, rfl, rfl, rfl, rfl, rfl, rfl, trivial⟩
    have N11 : N [(16, .agg #[.int .i64 (hiW ((a0 * b0 + a1 * b1 + a2 * b2 + a3 * b3))), .int .u64 (loW ((a0 * b0 + a1 * b1 + a2 * b2 + a3 * b3)) : Int)]), (12, .tuple #[.agg #[.int .i64 (hiW ((a0 * b0 + a1 * b1 + a2 * b2 + a3 * b3))), .int .u64 (loW ((a0 * b0 + a1 * b1 + a2 * b2 + a3 * b3)) : Int)], .int .i64 0]), (15, .tuple #[.agg #[.int .i64 (hiW ((a0 * b0 + a1 * b1 + a2 * b2 + a3 * b3))), .int .u64 (loW ((a0 * b0 + a1 * b1 + a2 * b2 + a3 * b3)) : Int)], .int .i64 0]), (14, .slice (some ⟨u2, 0, none⟩) 4 4), (13, .slice (some ⟨u1, 0, none⟩) 4 4), (3, .pointer (some ⟨u2, 0, none⟩)), (2, .pointer (some ⟨u1, 0, none⟩))] [(u2, .cells #[.int .i64 b0, .int .i64 b1, .int .i64 b2, .int .i64 b3] 23), (u1, .cells #[.int .i64 a0, .int .i64 a1, .int .i64 a2, .int .i64 a3] 23)] 4 #[true, true, true, true, true, false, false, false, false] := by
      refine (hN _ _ _ _).2 ?_
      refine Tr.take 5 (.int .i64 0) rfl (by kernel_rfl) (by kernel_rfl) (by kernel_rfl) rfl rfl rfl rfl ?_
      exact ((hN _ _ _ _).1 (N13)).sub [0, 1] (by decide) rfl ⟨rfl, rfl, rfl, rfl, rfl, rfl, rfl, rfl, trivial⟩
    have N10 : ∀ u3 : Nat, N [(6, .pointer (some ⟨u3, 0, none⟩)), (15, .tuple #[.agg #[.int .i64 (hiW ((a0 * b0 + a1 * b1 + a2 * b2 + a3 * b3))), .int .u64 (loW ((a0 * b0 + a1 * b1 + a2 * b2 + a3 * b3)) : Int)], .int .i64 0]), (14, .slice (some ⟨u2, 0, none⟩) 4 4), (13, .slice (some ⟨u1, 0, none⟩) 4 4), (3, .pointer (some ⟨u2, 0, none⟩)), (2, .pointer (some ⟨u1, 0, none⟩))] [(u3, .cells #[.int .i64 0, .int .u64 0] 83), (u2, .cells #[.int .i64 b0, .int .i64 b1, .int .i64 b2, .int .i64 b3] 23), (u1, .cells #[.int .i64 a0, .int .i64 a1, .int .i64 a2, .int .i64 a3] 23)] 5 #[true, true, true, false, false, false, true, false, false] := by
      intro u3
      refine (hN _ _ _ _).2 ?_
      refine Tr.take 3 (.tuple #[.agg #[.int .i64 (hiW ((a0 * b0 + a1 * b1 + a2 * b2 + a3 * b3))), .int .u64 (loW ((a0 * b0 + a1 * b1 + a2 * b2 + a3 * b3)) : Int)], .int .i64 0]) rfl (by kernel_rfl) (by kernel_rfl) (by kernel_rfl) rfl rfl rfl rfl ?_
      exact ((hN _ _ _ _).1 (N12 u3)).sub [0, 1, 2] (by decide) rfl ⟨rfl, rfl, rfl, rfl, rfl, rfl, rfl, trivial⟩
    have N9 : N [(12, .tuple #[.agg #[.int .i64 (hiW ((a0 * b0 + a1 * b1 + a2 * b2 + a3 * b3))), .int .u64 (loW ((a0 * b0 + a1 * b1 + a2 * b2 + a3 * b3)) : Int)], .int .i64 0]), (15, .tuple #[.agg #[.int .i64 (hiW ((a0 * b0 + a1 * b1 + a2 * b2 + a3 * b3))), .int .u64 (loW ((a0 * b0 + a1 * b1 + a2 * b2 + a3 * b3)) : Int)], .int .i64 0]), (14, .slice (some ⟨u2, 0, none⟩) 4 4), (13, .slice (some ⟨u1, 0, none⟩) 4 4), (3, .pointer (some ⟨u2, 0, none⟩)), (2, .pointer (some ⟨u1, 0, none⟩))] [(u2, .cells #[.int .i64 b0, .int .i64 b1, .int .i64 b2, .int .i64 b3] 23), (u1, .cells #[.int .i64 a0, .int .i64 a1, .int .i64 a2, .int .i64 a3] 23)] 5 #[true, true, true, true, false, false, false, false, false] := by
      refine (hN _ _ _ _).2 ?_
      refine Tr.take 4 (.agg #[.int .i64 (hiW ((a0 * b0 + a1 * b1 + a2 * b2 + a3 * b3))), .int .u64 (loW ((a0 * b0 + a1 * b1 + a2 * b2 + a3 * b3)) : Int)]) rfl (by kernel_rfl) (by kernel_rfl) (by kernel_rfl) rfl rfl rfl rfl ?_
      exact ((hN _ _ _ _).1 (N11)).sub [0, 1] (by decide) rfl ⟨rfl, rfl, rfl, rfl, rfl, rfl, rfl, trivial⟩
    have N8 : ∀ u3 : Nat, N [(6, .pointer (some ⟨u3, 0, none⟩)), (14, .slice (some ⟨u2, 0, none⟩) 4 4), (13, .slice (some ⟨u1, 0, none⟩) 4 4), (3, .pointer (some ⟨u2, 0, none⟩)), (2, .pointer (some ⟨u1, 0, none⟩))] [(u3, .cells #[.int .i64 0, .int .u64 0] 83), (u2, .cells #[.int .i64 b0, .int .i64 b1, .int .i64 b2, .int .i64 b3] 23), (u1, .cells #[.int .i64 a0, .int .i64 a1, .int .i64 a2, .int .i64 a3] 23)] 6 #[true, true, false, false, false, false, true, false, false] := by
      intro u3
      refine (hN _ _ _ _).2 ?_
      refine Tr.any 2 [] (by kernel_rfl) ⟨⟨_, rfl, ?_⟩, trivial⟩
      · skip
        refine Tr.one rfl (Tr.call (v := .tuple #[.agg #[.int .i64 (hiW ((a0 * b0 + a1 * b1 + a2 * b2 + a3 * b3))), .int .u64 (loW ((a0 * b0 + a1 * b1 + a2 * b2 + a3 * b3)) : Int)], .int .i64 0]) F.en37 rfl (fun w hw => hS _ _ w (hw.row 2 4 rfl rfl) (hw.row 1 4 rfl rfl)) rfl ?_)
        exact ((hN _ _ _ _).1 (N10 u3)).sub [0, 1, 2] (by decide) rfl ⟨rfl, rfl, rfl, rfl, rfl, rfl, trivial⟩
    have N7 : N [(15, .tuple #[.agg #[.int .i64 (hiW ((a0 * b0 + a1 * b1 + a2 * b2 + a3 * b3))), .int .u64 (loW ((a0 * b0 + a1 * b1 + a2 * b2 + a3 * b3)) : Int)], .int .i64 0]), (14, .slice (some ⟨u2, 0, none⟩) 4 4), (13, .slice (some ⟨u1, 0, none⟩) 4 4), (3, .pointer (some ⟨u2, 0, none⟩)), (2, .pointer (some ⟨u1, 0, none⟩))] [(u2, .cells #[.int .i64 b0, .int .i64 b1, .int .i64 b2, .int .i64 b3] 23), (u1, .cells #[.int .i64 a0, .int .i64 a1, .int .i64 a2, .int .i64 a3] 23)] 6 #[true, true, true, false, false, false, false, false, false] := by
      refine (hN _ _ _ _).2 ?_
      refine Tr.take 3 (.tuple #[.agg #[.int .i64 (hiW ((a0 * b0 + a1 * b1 + a2 * b2 + a3 * b3))), .int .u64 (loW ((a0 * b0 + a1 * b1 + a2 * b2 + a3 * b3)) : Int)], .int .i64 0]) rfl (by kernel_rfl) (by kernel_rfl) (by kernel_rfl) rfl rfl rfl rfl ?_
      exact ((hN _ _ _ _).1 (N9)).sub [0, 1] (by decide) rfl ⟨rfl, rfl, rfl, rfl, rfl, rfl, trivial⟩
    have N6 : ∀ u3 : Nat, N [(6, .pointer (some ⟨u3, 0, none⟩)), (14, .slice (some ⟨u2, 0, none⟩) 4 4), (3, .pointer (some ⟨u2, 0, none⟩)), (2, .pointer (some ⟨u1, 0, none⟩))] [(u3, .cells #[.int .i64 0, .int .u64 0] 83), (u2, .cells #[.int .i64 b0, .int .i64 b1, .int .i64 b2, .int .i64 b3] 23), (u1, .cells #[.int .i64 a0, .int .i64 a1, .int .i64 a2, .int .i64 a3] 23)] 7 #[false, true, false, false, false, false, true, false, false] := by
      intro u3
      refine (hN _ _ _ _).2 ?_
      refine Tr.any 0 [] (by kernel_rfl) ⟨⟨_, rfl, ?_⟩, trivial⟩
      · skip
        refine Tr.one rfl (Tr.sliceArr F.arr23 rfl rfl ?_)
        exact ((hN _ _ _ _).1 (N8 u3)).sub [0, 1, 2] (by decide) rfl ⟨rfl, rfl, rfl, rfl, rfl, trivial⟩
    have N5 : ∀ u3 : Nat, N [(6, .pointer (some ⟨u3, 0, none⟩)), (13, .slice (some ⟨u1, 0, none⟩) 4 4), (3, .pointer (some ⟨u2, 0, none⟩)), (2, .pointer (some ⟨u1, 0, none⟩))] [(u3, .cells #[.int .i64 0, .int .u64 0] 83), (u2, .cells #[.int .i64 b0, .int .i64 b1, .int .i64 b2, .int .i64 b3] 23), (u1, .cells #[.int .i64 a0, .int .i64 a1, .int .i64 a2, .int .i64 a3] 23)] 7 #[true, false, false, false, false, false, true, false, false] := by
      intro u3
      refine (hN _ _ _ _).2 ?_
      refine Tr.any 1 [] (by kernel_rfl) ⟨⟨_, rfl, ?_⟩, trivial⟩
      · skip
        refine Tr.one rfl (Tr.sliceArr F.arr23 rfl rfl ?_)
        exact ((hN _ _ _ _).1 (N8 u3)).sub [0, 1, 2] (by decide) rfl ⟨rfl, rfl, rfl, rfl, rfl, trivial⟩
    have N4 : N [(14, .slice (some ⟨u2, 0, none⟩) 4 4), (13, .slice (some ⟨u1, 0, none⟩) 4 4), (3, .pointer (some ⟨u2, 0, none⟩)), (2, .pointer (some ⟨u1, 0, none⟩))] [(u2, .cells #[.int .i64 b0, .int .i64 b1, .int .i64 b2, .int .i64 b3] 23), (u1, .cells #[.int .i64 a0, .int .i64 a1, .int .i64 a2, .int .i64 a3] 23)] 7 #[true, true, false, false, false, false, false, false, false] := by
      refine (hN _ _ _ _).2 ?_
      refine Tr.any 2 [6] (by kernel_rfl) ⟨⟨_, rfl, ?_⟩, ⟨_, rfl, ?_⟩, trivial⟩
      · skip
        refine Tr.one rfl (Tr.call (v := .tuple #[.agg #[.int .i64 (hiW ((a0 * b0 + a1 * b1 + a2 * b2 + a3 * b3))), .int .u64 (loW ((a0 * b0 + a1 * b1 + a2 * b2 + a3 * b3)) : Int)], .int .i64 0]) F.en37 rfl (fun w hw => hS _ _ w (hw.row 1 4 rfl rfl) (hw.row 0 4 rfl rfl)) rfl ?_)
        exact ((hN _ _ _ _).1 (N7)).sub [0, 1] (by decide) rfl ⟨rfl, rfl, rfl, rfl, rfl, trivial⟩
      · skip
        refine Tr.one rfl (Tr.alloc F.ty83 rfl rfl ?_)
        rintro u3
        exact ((hN _ _ _ _).1 (N8 u3)).sub [0, 1, 2] (by decide) rfl ⟨rfl, rfl, rfl, rfl, rfl, trivial⟩
    have N3 : ∀ u3 : Nat, N [(6, .pointer (some ⟨u3, 0, none⟩)), (3, .pointer (some ⟨u2, 0, none⟩)), (2, .pointer (some ⟨u1, 0, none⟩))] [(u3, .cells #[.int .i64 0, .int .u64 0] 83), (u2, .cells #[.int .i64 b0, .int .i64 b1, .int .i64 b2, .int .i64 b3] 23), (u1, .cells #[.int .i64 a0, .int .i64 a1, .int .i64 a2, .int .i64 a3] 23)] 8 #[false, false, false, false, false, false, true, false, false] := by
      intro u3
      refine (hN _ _ _ _).2 ?_
      refine Tr.any 0 [1] (by kernel_rfl) ⟨⟨_, rfl, ?_⟩, ⟨_, rfl, ?_⟩, trivial⟩
      · skip
        refine Tr.one rfl (Tr.sliceArr F.arr23 rfl rfl ?_)
        exact ((hN _ _ _ _).1 (N5 u3)).sub [0, 1, 2] (by decide) rfl ⟨rfl, rfl, rfl, rfl, trivial⟩
      · skip
        refine Tr.one rfl (Tr.sliceArr F.arr23 rfl rfl ?_)
        exact ((hN _ _ _ _).1 (N6 u3)).sub [0, 1, 2] (by decide) rfl ⟨rfl, rfl, rfl, rfl, trivial⟩
    have N2 : N [(14, .slice (some ⟨u2, 0, none⟩) 4 4), (3, .pointer (some ⟨u2, 0, none⟩)), (2, .pointer (some ⟨u1, 0, none⟩))] [(u2, .cells #[.int .i64 b0, .int .i64 b1, .int .i64 b2, .int .i64 b3] 23), (u1, .cells #[.int .i64 a0, .int .i64 a1, .int .i64 a2, .int .i64 a3] 23)] 8 #[false, true, false, false, false, false, false, false, false] := by
      refine (hN _ _ _ _).2 ?_
      refine Tr.any 0 [6] (by kernel_rfl) ⟨⟨_, rfl, ?_⟩, ⟨_, rfl, ?_⟩, trivial⟩
      · skip
        refine Tr.one rfl (Tr.sliceArr F.arr23 rfl rfl ?_)
        exact ((hN _ _ _ _).1 (N4)).sub [0, 1] (by decide) rfl ⟨rfl, rfl, rfl, rfl, trivial⟩
      · skip
        refine Tr.one rfl (Tr.alloc F.ty83 rfl rfl ?_)
        rintro u3
        exact ((hN _ _ _ _).1 (N6 u3)).sub [0, 1, 2] (by decide) rfl ⟨rfl, rfl, rfl, rfl, trivial⟩
    have N1 : N [(13, .slice (some ⟨u1, 0, none⟩) 4 4), (3, .pointer (some ⟨u2, 0, none⟩)), (2, .pointer (some ⟨u1, 0, none⟩))] [(u2, .cells #[.int .i64 b0, .int .i64 b1, .int .i64 b2, .int .i64 b3] 23), (u1, .cells #[.int .i64 a0, .int .i64 a1, .int .i64 a2, .int .i64 a3] 23)] 8 #[true, false, false, false, false, false, false, false, false] := by
      refine (hN _ _ _ _).2 ?_
      refine Tr.any 1 [6] (by kernel_rfl) ⟨⟨_, rfl, ?_⟩, ⟨_, rfl, ?_⟩, trivial⟩
      · skip
        refine Tr.one rfl (Tr.sliceArr F.arr23 rfl rfl ?_)
        exact ((hN _ _ _ _).1 (N4)).sub [0, 1] (by decide) rfl ⟨rfl, rfl, rfl, rfl, trivial⟩
      · skip
        refine Tr.one rfl (Tr.alloc F.ty83 rfl rfl ?_)
        rintro u3
        exact ((hN _ _ _ _).1 (N5 u3)).sub [0, 1, 2] (by decide) rfl ⟨rfl, rfl, rfl, rfl, trivial⟩
    have N0 : N [(3, .pointer (some ⟨u2, 0, none⟩)), (2, .pointer (some ⟨u1, 0, none⟩))] [(u2, .cells #[.int .i64 b0, .int .i64 b1, .int .i64 b2, .int .i64 b3] 23), (u1, .cells #[.int .i64 a0, .int .i64 a1, .int .i64 a2, .int .i64 a3] 23)] 9 #[false, false, false, false, false, false, false, false, false] := by
      refine (hN _ _ _ _).2 ?_
      refine Tr.any 0 [1, 6] (by kernel_rfl) ⟨⟨_, rfl, ?_⟩, ⟨_, rfl, ?_⟩, ⟨_, rfl, ?_⟩, trivial⟩
      · skip
        refine Tr.one rfl (Tr.sliceArr F.arr23 rfl rfl ?_)
        exact ((hN _ _ _ _).1 (N1)).sub [0, 1] (by decide) rfl ⟨rfl, rfl, rfl, trivial⟩
      · skip
        refine Tr.one rfl (Tr.sliceArr F.arr23 rfl rfl ?_)
        exact ((hN _ _ _ _).1 (N2)).sub [0, 1] (by decide) rfl ⟨rfl, rfl, rfl, trivial⟩
      · skip
        refine Tr.one rfl (Tr.alloc F.ty83 rfl rfl ?_)
        rintro u3
        exact ((hN _ _ _ _).1 (N3 u3)).sub [0, 1, 2] (by decide) rfl ⟨rfl, rfl, rfl, trivial⟩
    exact (hN _ _ _ _).2 (((hN _ _ _ _).1 N0).sub [0, 1] (by decide) rfl ⟨rfl, rfl, trivial⟩)
  · rintro u3
    refine Tr.thenN ?_
    refine Tr.seq ?_
    refine Tr.seq ?_
    refine Tr.region ?_
    refine Tr.step rfl (Tr.val rfl rfl ?_)
    refine Tr.step rfl (Tr.valE (.bool false) rfl rfl rfl ?_)
    refine Tr.nil ?_
    refine Tr.thenN ?_
    refine Tr.not rfl ?_
    refine Tr.skip ?_
    refine Tr.thenN ?_
    refine Tr.seq ?_
    refine Tr.region ?_
    refine Tr.step rfl (Tr.loadN (vs := [.int .i64 (hiW ((a0 * b0 + a1 * b1 + a2 * b2 + a3 * b3))), .int .u64 (loW ((a0 * b0 + a1 * b1 + a2 * b2 + a3 * b3)) : Int)]) F.ty83 rfl (Cells.own 0 2 rfl rfl) rfl rfl ?_)
    refine Tr.step rfl (Tr.callX (X := Int) (fun r => .tuple #[.agg #[.int .i64 (hiW ((a0 * b0 + a1 * b1 + a2 * b2 + a3 * b3) / 65536)), .int .u64 (loW ((a0 * b0 + a1 * b1 + a2 * b2 + a3 * b3) / 65536) : Int)], .int .i64 r, .int .i64 0]) (fun r => []) (fun r => True) F.en38 rfl (fun w hw => (div_n _ hd.1 hd.2 w).mono fun e w1 ⟨r, q⟩ => ⟨r, q.1, q.2, New.nil _ _, trivial⟩) rfl ?_)
    rintro r _
    refine Tr.step rfl (Tr.val rfl rfl ?_)
    refine Tr.step rfl (Tr.val rfl rfl ?_)
    refine Tr.step rfl (Tr.val rfl rfl ?_)
    refine Tr.step rfl (Tr.val rfl rfl ?_)
    refine Tr.step rfl (Tr.alloc F.ty83 rfl rfl ?_)
    rintro u4
    refine Tr.step rfl (Tr.store 0 F.ty83 rfl rfl rfl rfl rfl rfl rfl rfl rfl rfl ?_)
    refine Tr.step rfl (Tr.val rfl rfl ?_)
    refine Tr.step rfl (Tr.val rfl rfl ?_)
    refine Tr.nil ?_
    refine Tr.thenN ?_
    refine Tr.seq ?_
    refine Tr.region ?_
    refine Tr.step rfl (Tr.loadN (vs := [.int .i64 (hiW ((a0 * b0 + a1 * b1 + a2 * b2 + a3 * b3) / 65536)), .int .u64 (loW ((a0 * b0 + a1 * b1 + a2 * b2 + a3 * b3) / 65536) : Int)]) F.ty83 rfl (Cells.own 0 2 rfl rfl) rfl rfl ?_)
    refine Tr.step rfl (Tr.call (v := .tuple #[.int .i64 0, .int .i64 20]) F.en39 rfl (fun w hw => int_big _ hq w) rfl ?_)
    refine Tr.step rfl (Tr.val rfl rfl ?_)
    refine Tr.step rfl (Tr.val rfl rfl ?_)
    refine Tr.step rfl (Tr.val rfl rfl ?_)
    refine Tr.step rfl (Tr.val rfl rfl ?_)
    refine Tr.step rfl (Tr.val rfl rfl ?_)
    refine Tr.nil ?_
    refine Tr.thenN ?_
    refine Tr.seq ?_
    refine Tr.seq ?_
    refine Tr.region ?_
    refine Tr.step rfl (Tr.val rfl rfl ?_)
    refine Tr.step rfl (Tr.valE (.bool false) rfl rfl rfl ?_)
    refine Tr.step rfl (Tr.val rfl rfl ?_)
    refine Tr.stepYes rfl rfl rfl rfl (Tr.val rfl rfl ?_)
    refine Tr.stepYes rfl rfl rfl rfl (Tr.valE (.bool true) rfl rfl rfl ?_)
    refine Tr.step rfl (Tr.val rfl rfl ?_)
    refine Tr.step rfl (Tr.val rfl rfl ?_)
    refine Tr.stepNo rfl rfl rfl rfl rfl rfl ?_
    refine Tr.stepNo rfl rfl rfl rfl rfl rfl ?_
    refine Tr.stepNo rfl rfl rfl rfl rfl rfl ?_
    refine Tr.stepNo rfl rfl rfl rfl rfl rfl ?_
    refine Tr.step rfl (Tr.val rfl rfl ?_)
    refine Tr.nil ?_
    refine Tr.thenN ?_
    refine Tr.yes rfl ?_
    refine Tr.seq ?_
    refine Tr.region ?_
    refine Tr.step rfl (Tr.val rfl rfl ?_)
    refine Tr.step rfl (Tr.val rfl rfl ?_)
    refine Tr.nil ?_
    refine Tr.thenN ?_
    refine Tr.ret ?_
    refine Tr.thenR ?_
    refine Tr.leave rfl rfl ?_
    refine Tr.res2 rfl (RsV.tmp rfl) (RsV.tmp rfl) (fun w hw => ?_)
    exact ⟨rfl, hw.fm⟩

set_option maxRecDepth 100000 in
set_option maxHeartbeats 4000000 in
theorem sum_over (a0 a1 a2 a3 b0 b1 b2 b3 : Int) (hb : Bd8 a0 a1 a2 a3 b0 b1 b2 b3) (hq : (-9223372036854775808 ≤ (a0 * b0 + a1 * b1 + a2 * b2 + a3 * b3) / 65536 ∧ (a0 * b0 + a1 * b1 + a2 * b2 + a3 * b3) / 65536 ≤ 9223372036854775807) ∧ ¬ (-4611686018427387904 ≤ (a0 * b0 + a1 * b1 + a2 * b2 + a3 * b3) / 65536 ∧ (a0 * b0 + a1 * b1 + a2 * b2 + a3 * b3) / 65536 ≤ 4611686018427387904)) (w : World) : Calls Tryd.prog 28 #[.agg #[.int .i64 a0, .int .i64 a1, .int .i64 a2, .int .i64 a3], .agg #[.int .i64 b0, .int .i64 b1, .int .i64 b2, .int .i64 b3]] w (Gives (.tuple #[.int .i64 0, .int .i64 30]) w) := by
  have hS := sum_i0 a0 a1 a2 a3 b0 b1 b2 b3 hb
  have hd := d_bd a0 a1 a2 a3 b0 b1 b2 b3 hb
  refine calls_enter No Tryd.func28 rfl rfl rfl rfl ?_
  refine Tr.seq ?_
  refine Tr.region ?_
  refine Tr.step rfl (Tr.box rfl rfl rfl ?_)
  rintro u1
  refine Tr.step rfl (Tr.box rfl rfl rfl ?_)
  rintro u2
  refine Tr.step rfl (Tr.val rfl rfl ?_)
  refine Tr.step rfl (Tr.val rfl rfl ?_)
  refine Tr.nil ?_
  refine Tr.thenN ?_
  refine Tr.seq ?_
  refine Tr.sub (l' := [(3, .pointer (some ⟨u2, 0, none⟩)), (2, .pointer (some ⟨u1, 0, none⟩))]) (h' := [(u2, .cells #[.int .i64 b0, .int .i64 b1, .int .i64 b2, .int .i64 b3] 23), (u1, .cells #[.int .i64 a0, .int .i64 a1, .int .i64 a2, .int .i64 a3] 23)]) ?_ [0, 1] (by decide) rfl ⟨rfl, rfl, trivial⟩
  refine Tr.drawG (Y := Nat) (fun u3 => [(7, .int .i64 0), (6, .pointer (some ⟨u3, 0, none⟩)), (17, .int .i64 0), (16, .agg #[.int .i64 (hiW ((a0 * b0 + a1 * b1 + a2 * b2 + a3 * b3))), .int .u64 (loW ((a0 * b0 + a1 * b1 + a2 * b2 + a3 * b3)) : Int)]), (12, .tuple #[.agg #[.int .i64 (hiW ((a0 * b0 + a1 * b1 + a2 * b2 + a3 * b3))), .int .u64 (loW ((a0 * b0 + a1 * b1 + a2 * b2 + a3 * b3)) : Int)], .int .i64 0]), (15, .tuple #[.agg #[.int .i64 (hiW ((a0 * b0 + a1 * b1 + a2 * b2 + a3 * b3))), .int .u64 (loW ((a0 * b0 + a1 * b1 + a2 * b2 + a3 * b3)) : Int)], .int .i64 0]), (14, .slice (some ⟨u2, 0, none⟩) 4 4), (13, .slice (some ⟨u1, 0, none⟩) 4 4), (3, .pointer (some ⟨u2, 0, none⟩)), (2, .pointer (some ⟨u1, 0, none⟩))]) (fun u3 => [(u3, .cells #[.int .i64 (hiW ((a0 * b0 + a1 * b1 + a2 * b2 + a3 * b3))), .int .u64 (loW ((a0 * b0 + a1 * b1 + a2 * b2 + a3 * b3)) : Int)] 83), (u2, .cells #[.int .i64 b0, .int .i64 b1, .int .i64 b2, .int .i64 b3] 23), (u1, .cells #[.int .i64 a0, .int .i64 a1, .int .i64 a2, .int .i64 a3] 23)]) F.mixed ?_ ?_
  · intro K N hN tE
    have N17 : ∀ u3 : Nat, N [(7, .int .i64 0), (6, .pointer (some ⟨u3, 0, none⟩)), (17, .int .i64 0), (16, .agg #[.int .i64 (hiW ((a0 * b0 + a1 * b1 + a2 * b2 + a3 * b3))), .int .u64 (loW ((a0 * b0 + a1 * b1 + a2 * b2 + a3 * b3)) : Int)]), (12, .tuple #[.agg #[.int .i64 (hiW ((a0 * b0 + a1 * b1 + a2 * b2 + a3 * b3))), .int .u64 (loW ((a0 * b0 + a1 * b1 + a2 * b2 + a3 * b3)) : Int)], .int .i64 0]), (15, .tuple #[.agg #[.int .i64 (hiW ((a0 * b0 + a1 * b1 + a2 * b2 + a3 * b3))), .int .u64 (loW ((a0 * b0 + a1 * b1 + a2 * b2 + a3 * b3)) : Int)], .int .i64 0]), (14, .slice (some ⟨u2, 0, none⟩) 4 4), (13, .slice (some ⟨u1, 0, none⟩) 4 4), (3, .pointer (some ⟨u2, 0, none⟩)), (2, .pointer (some ⟨u1, 0, none⟩))] [(u3, .cells #[.int .i64 (hiW ((a0 * b0 + a1 * b1 + a2 * b2 + a3 * b3))), .int .u64 (loW ((a0 * b0 + a1 * b1 + a2 * b2 + a3 * b3)) : Int)] 83), (u2, .cells #[.int .i64 b0, .int .i64 b1, .int .i64 b2, .int .i64 b3] 23), (u1, .cells #[.int .i64 a0, .int .i64 a1, .int .i64 a2, .int .i64 a3] 23)] 0 #[true, true, true, true, true, true, true, true, true] := by
      intro u3
      refine (hN _ _ _ _).2 ?_
      exact Tr.anyEnd (by kernel_rfl) (tE u3)
    have N16 : ∀ u3 : Nat, N [(6, .pointer (some ⟨u3, 0, none⟩)), (17, .int .i64 0), (16, .agg #[.int .i64 (hiW ((a0 * b0 + a1 * b1 + a2 * b2 + a3 * b3))), .int .u64 (loW ((a0 * b0 + a1 * b1 + a2 * b2 + a3 * b3)) : Int)]), (12, .tuple #[.agg #[.int .i64 (hiW ((a0 * b0 + a1 * b1 + a2 * b2 + a3 * b3))), .int .u64 (loW ((a0 * b0 + a1 * b1 + a2 * b2 + a3 * b3)) : Int)], .int .i64 0]), (15, .tuple #[.agg #[.int .i64 (hiW ((a0 * b0 + a1 * b1 + a2 * b2 + a3 * b3))), .int .u64 (loW ((a0 * b0 + a1 * b1 + a2 * b2 + a3 * b3)) : Int)], .int .i64 0]), (14, .slice (some ⟨u2, 0, none⟩) 4 4), (13, .slice (some ⟨u1, 0, none⟩) 4 4), (3, .pointer (some ⟨u2, 0, none⟩)), (2, .pointer (some ⟨u1, 0, none⟩))] [(u3, .cells #[.int .i64 (hiW ((a0 * b0 + a1 * b1 + a2 * b2 + a3 * b3))), .int .u64 (loW ((a0 * b0 + a1 * b1 + a2 * b2 + a3 * b3)) : Int)] 83), (u2, .cells #[.int .i64 b0, .int .i64 b1, .int .i64 b2, .int .i64 b3] 23), (u1, .cells #[.int .i64 a0, .int .i64 a1, .int .i64 a2, .int .i64 a3] 23)] 1 #[true, true, true, true, true, true, true, true, false] := by
      intro u3
      refine (hN _ _ _ _).2 ?_
      refine Tr.take 8 (.int .i64 0) rfl (by kernel_rfl) (by kernel_rfl) (by kernel_rfl) rfl rfl rfl rfl ?_
      exact ((hN _ _ _ _).1 (N17 u3)).sub [0, 1, 2] (by decide) rfl ⟨rfl, rfl, rfl, rfl, rfl, rfl, rfl, rfl, rfl, rfl, trivial⟩
    have N15 : ∀ u3 : Nat, N [(6, .pointer (some ⟨u3, 0, none⟩)), (17, .int .i64 0), (16, .agg #[.int .i64 (hiW ((a0 * b0 + a1 * b1 + a2 * b2 + a3 * b3))), .int .u64 (loW ((a0 * b0 + a1 * b1 + a2 * b2 + a3 * b3)) : Int)]), (12, .tuple #[.agg #[.int .i64 (hiW ((a0 * b0 + a1 * b1 + a2 * b2 + a3 * b3))), .int .u64 (loW ((a0 * b0 + a1 * b1 + a2 * b2 + a3 * b3)) : Int)], .int .i64 0]), (15, .tuple #[.agg #[.int .i64 (hiW ((a0 * b0 + a1 * b1 + a2 * b2 + a3 * b3))), .int .u64 (loW ((a0 * b0 + a1 * b1 + a2 * b2 + a3 * b3)) : Int)], .int .i64 0]), (14, .slice (some ⟨u2, 0, none⟩) 4 4), (13, .slice (some ⟨u1, 0, none⟩) 4 4), (3, .pointer (some ⟨u2, 0, none⟩)), (2, .pointer (some ⟨u1, 0, none⟩))] [(u3, .cells #[.int .i64 0, .int .u64 0] 83), (u2, .cells #[.int .i64 b0, .int .i64 b1, .int .i64 b2, .int .i64 b3] 23), (u1, .cells #[.int .i64 a0, .int .i64 a1, .int .i64 a2, .int .i64 a3] 23)] 2 #[true, true, true, true, true, true, true, false, false] := by
      intro u3
      refine (hN _ _ _ _).2 ?_
      refine Tr.any 7 [] (by kernel_rfl) ⟨⟨_, rfl, ?_⟩, trivial⟩
      · skip
        refine Tr.one rfl (Tr.store 0 F.ty83 rfl rfl rfl rfl rfl rfl rfl rfl rfl rfl ?_)
        exact ((hN _ _ _ _).1 (N16 u3)).sub [0, 1, 2] (by decide) rfl ⟨rfl, rfl, rfl, rfl, rfl, rfl, rfl, rfl, rfl, trivial⟩
    have N14 : ∀ u3 : Nat, N [(6, .pointer (some ⟨u3, 0, none⟩)), (16, .agg #[.int .i64 (hiW ((a0 * b0 + a1 * b1 + a2 * b2 + a3 * b3))), .int .u64 (loW ((a0 * b0 + a1 * b1 + a2 * b2 + a3 * b3)) : Int)]), (12, .tuple #[.agg #[.int .i64 (hiW ((a0 * b0 + a1 * b1 + a2 * b2 + a3 * b3))), .int .u64 (loW ((a0 * b0 + a1 * b1 + a2 * b2 + a3 * b3)) : Int)], .int .i64 0]), (15, .tuple #[.agg #[.int .i64 (hiW ((a0 * b0 + a1 * b1 + a2 * b2 + a3 * b3))), .int .u64 (loW ((a0 * b0 + a1 * b1 + a2 * b2 + a3 * b3)) : Int)], .int .i64 0]), (14, .slice (some ⟨u2, 0, none⟩) 4 4), (13, .slice (some ⟨u1, 0, none⟩) 4 4), (3, .pointer (some ⟨u2, 0, none⟩)), (2, .pointer (some ⟨u1, 0, none⟩))] [(u3, .cells #[.int .i64 0, .int .u64 0] 83), (u2, .cells #[.int .i64 b0, .int .i64 b1, .int .i64 b2, .int .i64 b3] 23), (u1, .cells #[.int .i64 a0, .int .i64 a1, .int .i64 a2, .int .i64 a3] 23)] 3 #[true, true, true, true, true, false, true, false, false] := by
      intro u3
      refine (hN _ _ _ _).2 ?_
      refine Tr.take 5 (.int .i64 0) rfl (by kernel_rfl) (by kernel_rfl) (by kernel_rfl) rfl rfl rfl rfl ?_
      exact ((hN _ _ _ _).1 (N15 u3)).sub [0, 1, 2] (by decide) rfl ⟨rfl, rfl, rfl, rfl, rfl, rfl, rfl, rfl, rfl, trivial⟩
    have N13 : N [(17, .int .i64 0), (16, .agg #[.int .i64 (hiW ((a0 * b0 + a1 * b1 + a2 * b2 + a3 * b3))), .int .u64 (loW ((a0 * b0 + a1 * b1 + a2 * b2 + a3 * b3)) : Int)]), (12, .tuple #[.agg #[.int .i64 (hiW ((a0 * b0 + a1 * b1 + a2 * b2 + a3 * b3))), .int .u64 (loW ((a0 * b0 + a1 * b1 + a2 * b2 + a3 * b3)) : Int)], .int .i64 0]), (15, .tuple #[.agg #[.int .i64 (hiW ((a0 * b0 + a1 * b1 + a2 * b2 + a3 * b3))), .int .u64 (loW ((a0 * b0 + a1 * b1 + a2 * b2 + a3 * b3)) : Int)], .int .i64 0]), (14, .slice (some ⟨u2, 0, none⟩) 4 4), (13, .slice (some ⟨u1, 0, none⟩) 4 4), (3, .pointer (some ⟨u2, 0, none⟩)), (2, .pointer (some ⟨u1, 0, none⟩))] [(u2, .cells #[.int .i64 b0, .int .i64 b1, .int .i64 b2, .int .i64 b3] 23), (u1, .cells #[.int .i64 a0, .int .i64 a1, .int .i64 a2, .int .i64 a3] 23)] 3 #[true, true, true, true, true, true, false, false, false] := by
      refine (hN _ _ _ _).2 ?_
      refine Tr.any 6 [] (by kernel_rfl) ⟨⟨_, rfl, ?_⟩, trivial⟩
      · skip
        refine Tr.one rfl (Tr.alloc F.ty83 rfl rfl ?_)
        rintro u3
        exact ((hN _ _ _ _).1 (N15 u3)).sub [0, 1, 2] (by decide) rfl ⟨rfl, rfl, rfl, rfl, rfl, rfl, rfl, rfl, rfl, trivial⟩
    have N12 : ∀ u3 : Nat, N [(6, .pointer (some ⟨u3, 0, none⟩)), (12, .tuple #[.agg #[.int .i64 (hiW ((a0 * b0 + a1 * b1 + a2 * b2 + a3 * b3))), .int .u64 (loW ((a0 * b0 + a1 * b1 + a2 * b2 + a3 * b3)) : Int)], .int .i64 0]), (15, .tuple #[.agg #[.int .i64 (hiW ((a0 * b0 + a1 * b1 + a2 * b2 + a3 * b3))), .int .u64 (loW ((a0 * b0 + a1 * b1 + a2 * b2 + a3 * b3)) : Int)], .int .i64 0]), (14, .slice (some ⟨u2, 0, none⟩) 4 4), (13, .slice (some ⟨u1, 0, none⟩) 4 4), (3, .pointer (some ⟨u2, 0, none⟩)), (2, .pointer (some ⟨u1, 0, none⟩))] [(u3, .cells #[.int .i64 0, .int .u64 0] 83), (u2, .cells #[.int .i64 b0, .int .i64 b1, .int .i64 b2, .int .i64 b3] 23), (u1, .cells #[.int .i64 a0, .int .i64 a1, .int .i64 a2, .int .i64 a3] 23)] 4 #[true, true, true, true, false, false, true, false, false] := by
      intro u3
      refine (hN _ _ _ _).2 ?_
      refine Tr.take 4 (.agg #[.int .i64 (hiW ((a0 * b0 + a1 * b1 + a2 * b2 + a3 * b3))), .int .u64 (loW ((a0 * b0 + a1 * b1 + a2 * b2 + a3 * b3)) : Int)]) rfl (by kernel_rfl) (by kernel_rfl) (by kernel_rfl) rfl rfl rfl rfl ?_
      exact ((hN _ _ _ _).1 (N14 u3)).sub [0, 1, 2] (by decide) rfl ⟨rfl, rfl, rfl, rfl, rfl, rfl, rfl, rfl, trivial⟩
    have N11 : N [(16, .agg #[.int .i64 (hiW ((a0 * b0 + a1 * b1 + a2 * b2 + a3 * b3))), .int .u64 (loW ((a0 * b0 + a1 * b1 + a2 * b2 + a3 * b3)) : Int)]), (12, .tuple #[.agg #[.int .i64 (hiW ((a0 * b0 + a1 * b1 + a2 * b2 + a3 * b3))), .int .u64 (loW ((a0 * b0 + a1 * b1 + a2 * b2 + a3 * b3)) : Int)], .int .i64 0]), (15, .tuple #[.agg #[.int .i64 (hiW ((a0 * b0 + a1 * b1 + a2 * b2 + a3 * b3))), .int .u64 (loW ((a0 * b0 + a1 * b1 + a2 * b2 + a3 * b3)) : Int)], .int .i64 0]), (14, .slice (some ⟨u2, 0, none⟩) 4 4), (13, .slice (some ⟨u1, 0, none⟩) 4 4), (3, .pointer (some ⟨u2, 0, none⟩)), (2, .pointer (some ⟨u1, 0, none⟩))] [(u2, .cells #[.int .i64 b0, .int .i64 b1, .int .i64 b2, .int .i64 b3] 23), (u1, .cells #[.int .i64 a0, .int .i64 a1, .int .i64 a2, .int .i64 a3] 23)] 4 #[true, true, true, true, true, false, false, false, false] := by
      refine (hN _ _ _ _).2 ?_
      refine Tr.take 5 (.int .i64 0) rfl (by kernel_rfl) (by kernel_rfl) (by kernel_rfl) rfl rfl rfl rfl ?_
      exact ((hN _ _ _ _).1 (N13)).sub [0, 1] (by decide) rfl ⟨rfl, rfl, rfl, rfl, rfl, rfl, rfl, rfl, trivial⟩
    have N10 : ∀ u3 : Nat, N [(6, .pointer (some ⟨u3, 0, none⟩)), (15, .tuple #[.agg #[.int .i64 (hiW ((a0 * b0 + a1 * b1 + a2 * b2 + a3 * b3))), .int .u64 (loW ((a0 * b0 + a1 * b1 + a2 * b2 + a3 * b3)) : Int)], .int .i64 0]), (14, .slice (some ⟨u2, 0, none⟩) 4 4), (13, .slice (some ⟨u1, 0, none⟩) 4 4), (3, .pointer (some ⟨u2, 0, none⟩)), (2, .pointer (some ⟨u1, 0, none⟩))] [(u3, .cells #[.int .i64 0, .int .u64 0] 83), (u2, .cells #[.int .i64 b0, .int .i64 b1, .int .i64 b2, .int .i64 b3] 23), (u1, .cells #[.int .i64 a0, .int .i64 a1, .int .i64 a2, .int .i64 a3] 23)] 5 #[true, true, true, false, false, false, true, false, false] := by
      intro u3
      refine (hN _ _ _ _).2 ?_
      refine Tr.take 3 (.tuple #[.agg #[.int .i64 (hiW ((a0 * b0 + a1 * b1 + a2 * b2 + a3 * b3))), .int .u64 (loW ((a0 * b0 + a1 * b1 + a2 * b2 + a3 * b3)) : Int)], .int .i64 0]) rfl (by kernel_rfl) (by kernel_rfl) (by kernel_rfl) rfl rfl rfl rfl ?_
      exact ((hN _ _ _ _).1 (N12 u3)).sub [0, 1, 2] (by decide) rfl ⟨rfl, rfl, rfl, rfl, rfl, rfl, rfl, trivial⟩
    have N9 : N [(12, .tuple #[.agg #[.int .i64 (hiW ((a0 * b0 + a1 * b1 + a2 * b2 + a3 * b3))), .int .u64 (loW ((a0 * b0 + a1 * b1 + a2 * b2 + a3 * b3)) : Int)], .int .i64 0]), (15, .tuple #[.agg #[.int .i64 (hiW ((a0 * b0 + a1 * b1 + a2 * b2 + a3 * b3))), .int .u64 (loW ((a0 * b0 + a1 * b1 + a2 * b2 + a3 * b3)) : Int)], .int .i64 0]), (14, .slice (some ⟨u2, 0, none⟩) 4 4), (13, .slice (some ⟨u1, 0, none⟩) 4 4), (3, .pointer (some ⟨u2, 0, none⟩)), (2, .pointer (some ⟨u1, 0, none⟩))] [(u2, .cells #[.int .i64 b0, .int .i64 b1, .int .i64 b2, .int .i64 b3] 23), (u1, .cells #[.int .i64 a0, .int .i64 a1, .int .i64 a2, .int .i64 a3] 23)] 5 #[true, true, true, true, false, false, false, false, false] := by
      refine (hN _ _ _ _).2 ?_
      refine Tr.take 4 (.agg #[.int .i64 (hiW ((a0 * b0 + a1 * b1 + a2 * b2 + a3 * b3))), .int .u64 (loW ((a0 * b0 + a1 * b1 + a2 * b2 + a3 * b3)) : Int)]) rfl (by kernel_rfl) (by kernel_rfl) (by kernel_rfl) rfl rfl rfl rfl ?_
      exact ((hN _ _ _ _).1 (N11)).sub [0, 1] (by decide) rfl ⟨rfl, rfl, rfl, rfl, rfl, rfl, rfl, trivial⟩
    have N8 : ∀ u3 : Nat, N [(6, .pointer (some ⟨u3, 0, none⟩)), (14, .slice (some ⟨u2, 0, none⟩) 4 4), (13, .slice (some ⟨u1, 0, none⟩) 4 4), (3, .pointer (some ⟨u2, 0, none⟩)), (2, .pointer (some ⟨u1, 0, none⟩))] [(u3, .cells #[.int .i64 0, .int .u64 0] 83), (u2, .cells #[.int .i64 b0, .int .i64 b1, .int .i64 b2, .int .i64 b3] 23), (u1, .cells #[.int .i64 a0, .int .i64 a1, .int .i64 a2, .int .i64 a3] 23)] 6 #[true, true, false, false, false, false, true, false, false] := by
      intro u3
      refine (hN _ _ _ _).2 ?_
      refine Tr.any 2 [] (by kernel_rfl) ⟨⟨_, rfl, ?_⟩, trivial⟩
      · skip
        refine Tr.one rfl (Tr.call (v := .tuple #[.agg #[.int .i64 (hiW ((a0 * b0 + a1 * b1 + a2 * b2 + a3 * b3))), .int .u64 (loW ((a0 * b0 + a1 * b1 + a2 * b2 + a3 * b3)) : Int)], .int .i64 0]) F.en37 rfl (fun w hw => hS _ _ w (hw.row 2 4 rfl rfl) (hw.row 1 4 rfl rfl)) rfl ?_)
        exact ((hN _ _ _ _).1 (N10 u3)).sub [0, 1, 2] (by decide) rfl ⟨rfl, rfl, rfl, rfl, rfl, rfl, trivial⟩
    have N7 : N [(15, .tuple #[.agg #[.int .i64 (hiW ((a0 * b0 + a1 * b1 + a2 * b2 + a3 * b3))), .int .u64 (loW ((a0 * b0 + a1 * b1 + a2 * b2 + a3 * b3)) : Int)], .int .i64 0]), (14, .slice (some ⟨u2, 0, none⟩) 4 4), (13, .slice (some ⟨u1, 0, none⟩) 4 4), (3, .pointer (some ⟨u2, 0, none⟩)), (2, .pointer (some ⟨u1, 0, none⟩))] [(u2, .cells #[.int .i64 b0, .int .i64 b1, .int .i64 b2, .int .i64 b3] 23), (u1, .cells #[.int .i64 a0, .int .i64 a1, .int .i64 a2, .int .i64 a3] 23)] 6 #[true, true, true, false, false, false, false, false, false] := by
      refine (hN _ _ _ _).2 ?_
      refine Tr.take 3 (.tuple #[.agg #[.int .i64 (hiW ((a0 * b0 + a1 * b1 + a2 * b2 + a3 * b3))), .int .u64 (loW ((a0 * b0 + a1 * b1 + a2 * b2 + a3 * b3)) : Int)], .int .i64 0]) rfl (by kernel_rfl) (by kernel_rfl) (by kernel_rfl) rfl rfl rfl rfl ?_
      exact ((hN _ _ _ _).1 (N9)).sub [0, 1] (by decide) rfl ⟨rfl, rfl, rfl, rfl, rfl, rfl, trivial⟩
    have N6 : ∀ u3 : Nat, N [(6, .pointer (some ⟨u3, 0, none⟩)), (14, .slice (some ⟨u2, 0, none⟩) 4 4), (3, .pointer (some ⟨u2, 0, none⟩)), (2, .pointer (some ⟨u1, 0, none⟩))] [(u3, .cells #[.int .i64 0, .int .u64 0] 83), (u2, .cells #[.int .i64 b0, .int .i64 b1, .int .i64 b2, .int .i64 b3] 23), (u1, .cells #[.int .i64 a0, .int .i64 a1, .int .i64 a2, .int .i64 a3] 23)] 7 #[false, true, false, false, false, false, true, false, false] := by
      intro u3
      refine (hN _ _ _ _).2 ?_
      refine Tr.any 0 [] (by kernel_rfl) ⟨⟨_, rfl, ?_⟩, trivial⟩
      · skip
        refine Tr.one rfl (Tr.sliceArr F.arr23 rfl rfl ?_)
        exact ((hN _ _ _ _).1 (N8 u3)).sub [0, 1, 2] (by decide) rfl ⟨rfl, rfl, rfl, rfl, rfl, trivial⟩
    have N5 : ∀ u3 : Nat, N [(6, .pointer (some ⟨u3, 0, none⟩)), (13, .slice (some ⟨u1, 0, none⟩) 4 4), (3, .pointer (some ⟨u2, 0, none⟩)), (2, .pointer (some ⟨u1, 0, none⟩))] [(u3, .cells #[.int .i64 0, .int .u64 0] 83), (u2, .cells #[.int .i64 b0, .int .i64 b1, .int .i64 b2, .int .i64 b3] 23), (u1, .cells #[.int .i64 a0, .int .i64 a1, .int .i64 a2, .int .i64 a3] 23)] 7 #[true, false, false, false, false, false, true, false, false] := by
      intro u3
      refine (hN _ _ _ _).2 ?_
      refine Tr.any 1 [] (by kernel_rfl) ⟨⟨_, rfl, ?_⟩, trivial⟩
      · skip
        refine Tr.one rfl (Tr.sliceArr F.arr23 rfl rfl ?_)
        exact ((hN _ _ _ _).1 (N8 u3)).sub [0, 1, 2] (by decide) rfl ⟨rfl, rfl, rfl, rfl, rfl, trivial⟩
    have N4 : N [(14, .slice (some ⟨u2, 0, none⟩) 4 4), (13, .slice (some ⟨u1, 0, none⟩) 4 4), (3, .pointer (some ⟨u2, 0, none⟩)), (2, .pointer (some ⟨u1, 0, none⟩))] [(u2, .cells #[.int .i64 b0, .int .i64 b1, .int .i64 b2, .int .i64 b3] 23), (u1, .cells #[.int .i64 a0, .int .i64 a1, .int .i64 a2, .int .i64 a3] 23)] 7 #[true, true, false, false, false, false, false, false, false] := by
      refine (hN _ _ _ _).2 ?_
      refine Tr.any 2 [6] (by kernel_rfl) ⟨⟨_, rfl, ?_⟩, ⟨_, rfl, ?_⟩, trivial⟩
      · skip
        refine Tr.one rfl (Tr.call (v := .tuple #[.agg #[.int .i64 (hiW ((a0 * b0 + a1 * b1 + a2 * b2 + a3 * b3))), .int .u64 (loW ((a0 * b0 + a1 * b1 + a2 * b2 + a3 * b3)) : Int)], .int .i64 0]) F.en37 rfl (fun w hw => hS _ _ w (hw.row 1 4 rfl rfl) (hw.row 0 4 rfl rfl)) rfl ?_)
        exact ((hN _ _ _ _).1 (N7)).sub [0, 1] (by decide) rfl ⟨rfl, rfl, rfl, rfl, rfl, trivial⟩
      · skip
        refine Tr.one rfl (Tr.alloc F.ty83 rfl rfl ?_)
        rintro u3
        exact ((hN _ _ _ _).1 (N8 u3)).sub [0, 1, 2] (by decide) rfl ⟨rfl, rfl, rfl, rfl, rfl, trivial⟩
    have N3 : ∀ u3 : Nat, N [(6, .pointer (some ⟨u3, 0, none⟩)), (3, .pointer (some ⟨u2, 0, none⟩)), (2, .pointer (some ⟨u1, 0, none⟩))] [(u3, .cells #[.int .i64 0, .int .u64 0] 83), (u2, .cells #[.int .i64 b0, .int .i64 b1, .int .i64 b2, .int .i64 b3] 23), (u1, .cells #[.int .i64 a0, .int .i64 a1, .int .i64 a2, .int .i64 a3] 23)] 8 #[false, false, false, false, false, false, true, false, false] := by
      intro u3
      refine (hN _ _ _ _).2 ?_
      refine Tr.any 0 [1] (by kernel_rfl) ⟨⟨_, rfl, ?_⟩, ⟨_, rfl, ?_⟩, trivial⟩
      · skip
        refine Tr.one rfl (Tr.sliceArr F.arr23 rfl rfl ?_)
        exact ((hN _ _ _ _).1 (N5 u3)).sub [0, 1, 2] (by decide) rfl ⟨rfl, rfl, rfl, rfl, trivial⟩
      · skip
        refine Tr.one rfl (Tr.sliceArr F.arr23 rfl rfl ?_)
        exact ((hN _ _ _ _).1 (N6 u3)).sub [0, 1, 2] (by decide) rfl ⟨rfl, rfl, rfl, rfl, trivial⟩
    have N2 : N [(14, .slice (some ⟨u2, 0, none⟩) 4 4), (3, .pointer (some ⟨u2, 0, none⟩)), (2, .pointer (some ⟨u1, 0, none⟩))] [(u2, .cells #[.int .i64 b0, .int .i64 b1, .int .i64 b2, .int .i64 b3] 23), (u1, .cells #[.int .i64 a0, .int .i64 a1, .int .i64 a2, .int .i64 a3] 23)] 8 #[false, true, false, false, false, false, false, false, false] := by
      refine (hN _ _ _ _).2 ?_
      refine Tr.any 0 [6] (by kernel_rfl) ⟨⟨_, rfl, ?_⟩, ⟨_, rfl, ?_⟩, trivial⟩
      · skip
        refine Tr.one rfl (Tr.sliceArr F.arr23 rfl rfl ?_)
        exact ((hN _ _ _ _).1 (N4)).sub [0, 1] (by decide) rfl ⟨rfl, rfl, rfl, rfl, trivial⟩
      · skip
        refine Tr.one rfl (Tr.alloc F.ty83 rfl rfl ?_)
        rintro u3
        exact ((hN _ _ _ _).1 (N6 u3)).sub [0, 1, 2] (by decide) rfl ⟨rfl, rfl, rfl, rfl, trivial⟩
    have N1 : N [(13, .slice (some ⟨u1, 0, none⟩) 4 4), (3, .pointer (some ⟨u2, 0, none⟩)), (2, .pointer (some ⟨u1, 0, none⟩))] [(u2, .cells #[.int .i64 b0, .int .i64 b1, .int .i64 b2, .int .i64 b3] 23), (u1, .cells #[.int .i64 a0, .int .i64 a1, .int .i64 a2, .int .i64 a3] 23)] 8 #[true, false, false, false, false, false, false, false, false] := by
      refine (hN _ _ _ _).2 ?_
      refine Tr.any 1 [6] (by kernel_rfl) ⟨⟨_, rfl, ?_⟩, ⟨_, rfl, ?_⟩, trivial⟩
      · skip
        refine Tr.one rfl (Tr.sliceArr F.arr23 rfl rfl ?_)
        exact ((hN _ _ _ _).1 (N4)).sub [0, 1] (by decide) rfl ⟨rfl, rfl, rfl, rfl, trivial⟩
      · skip
        refine Tr.one rfl (Tr.alloc F.ty83 rfl rfl ?_)
        rintro u3
        exact ((hN _ _ _ _).1 (N5 u3)).sub [0, 1, 2] (by decide) rfl ⟨rfl, rfl, rfl, rfl, trivial⟩
    have N0 : N [(3, .pointer (some ⟨u2, 0, none⟩)), (2, .pointer (some ⟨u1, 0, none⟩))] [(u2, .cells #[.int .i64 b0, .int .i64 b1, .int .i64 b2, .int .i64 b3] 23), (u1, .cells #[.int .i64 a0, .int .i64 a1, .int .i64 a2, .int .i64 a3] 23)] 9 #[false, false, false, false, false, false, false, false, false] := by
      refine (hN _ _ _ _).2 ?_
      refine Tr.any 0 [1, 6] (by kernel_rfl) ⟨⟨_, rfl, ?_⟩, ⟨_, rfl, ?_⟩, ⟨_, rfl, ?_⟩, trivial⟩
      · skip
        refine Tr.one rfl (Tr.sliceArr F.arr23 rfl rfl ?_)
        exact ((hN _ _ _ _).1 (N1)).sub [0, 1] (by decide) rfl ⟨rfl, rfl, rfl, trivial⟩
      · skip
        refine Tr.one rfl (Tr.sliceArr F.arr23 rfl rfl ?_)
        exact ((hN _ _ _ _).1 (N2)).sub [0, 1] (by decide) rfl ⟨rfl, rfl, rfl, trivial⟩
      · skip
        refine Tr.one rfl (Tr.alloc F.ty83 rfl rfl ?_)
        rintro u3
        exact ((hN _ _ _ _).1 (N3 u3)).sub [0, 1, 2] (by decide) rfl ⟨rfl, rfl, rfl, trivial⟩
    exact (hN _ _ _ _).2 (((hN _ _ _ _).1 N0).sub [0, 1] (by decide) rfl ⟨rfl, rfl, trivial⟩)
  · rintro u3
    refine Tr.thenN ?_
    refine Tr.seq ?_
    refine Tr.seq ?_
    refine Tr.region ?_
    refine Tr.step rfl (Tr.val rfl rfl ?_)
    refine Tr.step rfl (Tr.valE (.bool false) rfl rfl rfl ?_)
    refine Tr.nil ?_
    refine Tr.thenN ?_
    refine Tr.not rfl ?_
    refine Tr.skip ?_
    refine Tr.thenN ?_
    refine Tr.seq ?_
    refine Tr.region ?_
    refine Tr.step rfl (Tr.loadN (vs := [.int .i64 (hiW ((a0 * b0 + a1 * b1 + a2 * b2 + a3 * b3))), .int .u64 (loW ((a0 * b0 + a1 * b1 + a2 * b2 + a3 * b3)) : Int)]) F.ty83 rfl (Cells.own 0 2 rfl rfl) rfl rfl ?_)
    refine Tr.step rfl (Tr.callX (X := Int) (fun r => .tuple #[.agg #[.int .i64 (hiW ((a0 * b0 + a1 * b1 + a2 * b2 + a3 * b3) / 65536)), .int .u64 (loW ((a0 * b0 + a1 * b1 + a2 * b2 + a3 * b3) / 65536) : Int)], .int .i64 r, .int .i64 0]) (fun r => []) (fun r => True) F.en38 rfl (fun w hw => (div_n _ hd.1 hd.2 w).mono fun e w1 ⟨r, q⟩ => ⟨r, q.1, q.2, New.nil _ _, trivial⟩) rfl ?_)
    rintro r _
    refine Tr.step rfl (Tr.val rfl rfl ?_)
    refine Tr.step rfl (Tr.val rfl rfl ?_)
    refine Tr.step rfl (Tr.val rfl rfl ?_)
    refine Tr.step rfl (Tr.val rfl rfl ?_)
    refine Tr.step rfl (Tr.alloc F.ty83 rfl rfl ?_)
    rintro u4
    refine Tr.step rfl (Tr.store 0 F.ty83 rfl rfl rfl rfl rfl rfl rfl rfl rfl rfl ?_)
    refine Tr.step rfl (Tr.val rfl rfl ?_)
    refine Tr.step rfl (Tr.val rfl rfl ?_)
    refine Tr.nil ?_
    refine Tr.thenN ?_
    refine Tr.seq ?_
    refine Tr.region ?_
    refine Tr.step rfl (Tr.loadN (vs := [.int .i64 (hiW ((a0 * b0 + a1 * b1 + a2 * b2 + a3 * b3) / 65536)), .int .u64 (loW ((a0 * b0 + a1 * b1 + a2 * b2 + a3 * b3) / 65536) : Int)]) F.ty83 rfl (Cells.own 0 2 rfl rfl) rfl rfl ?_)
    refine Tr.step rfl (Tr.call (v := .tuple #[.int .i64 ((a0 * b0 + a1 * b1 + a2 * b2 + a3 * b3) / 65536), .int .i64 0]) F.en39 rfl (fun w hw => int_n _ hq.1.1 hq.1.2 w) rfl ?_)
    refine Tr.step rfl (Tr.val rfl rfl ?_)
    refine Tr.step rfl (Tr.val rfl rfl ?_)
    refine Tr.step rfl (Tr.val rfl rfl ?_)
    refine Tr.step rfl (Tr.val rfl rfl ?_)
    refine Tr.step rfl (Tr.val rfl rfl ?_)
    refine Tr.nil ?_
    refine Tr.thenN ?_
    refine Tr.seq ?_
    refine Tr.seq ?_
    refine Tr.region ?_
    refine Tr.step rfl (Tr.val rfl rfl ?_)
    refine Tr.step rfl (Tr.valE (.bool false) rfl rfl rfl ?_)
    refine Tr.step rfl (Tr.val rfl rfl ?_)
    refine Tr.stepYes rfl rfl rfl rfl (Tr.val rfl rfl ?_)
    refine Tr.stepYes rfl rfl rfl rfl (Tr.valE (.bool false) rfl rfl rfl ?_)
    refine Tr.step rfl (Tr.val rfl rfl ?_)
    refine Tr.step rfl (Tr.val rfl rfl ?_)
    refine Tr.stepYes rfl rfl rfl rfl (Tr.val rfl rfl ?_)
    refine Tr.stepYes rfl rfl rfl rfl (Tr.callX (X := Int) (fun m => .int .i64 m) (fun m => []) (fun m => m ≠ (a0 * b0 + a1 * b1 + a2 * b2 + a3 * b3) / 65536) F.en40 rfl (fun w hw => (clamp_out _ hq.2 w).mono fun e w1 ⟨m, hm, q1, q2⟩ => ⟨m, q1, q2, New.nil _ _, hm⟩) rfl ?_)
    rintro m hm
    refine Tr.stepYes rfl rfl rfl rfl (Tr.val rfl rfl ?_)
    refine Tr.stepYes rfl rfl rfl rfl (Tr.val rfl rfl ?_)
    refine Tr.step rfl (Tr.val rfl rfl ?_)
    refine Tr.nil ?_
    refine Tr.thenN ?_
    refine Tr.decide 42 rfl (fun h1 => ?_) (fun h1 => ?_)
    · replace h1 := nT h1
      refine Tr.known 41 true rfl (by simpa using h1) ?_
      refine Tr.yes rfl ?_
      refine Tr.seq ?_
      refine Tr.region ?_
      refine Tr.step rfl (Tr.val rfl rfl ?_)
      refine Tr.step rfl (Tr.val rfl rfl ?_)
      refine Tr.nil ?_
      refine Tr.thenN ?_
      refine Tr.ret ?_
      refine Tr.thenR ?_
      refine Tr.leave rfl rfl ?_
      refine Tr.res2 rfl (RsV.tmp rfl) (RsV.tmp rfl) (fun w hw => ?_)
      exact ⟨rfl, hw.fm⟩
    · replace h1 := nF h1
      refine Tr.known 41 false rfl (by simpa using h1) ?_
      refine Tr.not rfl ?_
      refine Tr.skip ?_
      refine Tr.thenN ?_
      refine Tr.seq ?_
      refine Tr.region ?_
      refine Tr.step rfl (Tr.val rfl rfl ?_)
      refine Tr.step rfl (Tr.val rfl rfl ?_)
      refine Tr.step rfl (Tr.val rfl rfl ?_)
      refine Tr.nil ?_
      refine Tr.thenN ?_
      refine Tr.ret ?_
      refine Tr.leave rfl rfl ?_
      refine Tr.res2 rfl (RsV.tmp rfl) (RsV.tmp rfl) (fun w hw => ?_)
      exact absurd (by assumption) hm

theorem sum_n (a0 a1 a2 a3 b0 b1 b2 b3 : Int) (hb : Bd8 a0 a1 a2 a3 b0 b1 b2 b3) (w : World) : Calls Tryd.prog 28 #[.agg #[.int .i64 a0, .int .i64 a1, .int .i64 a2, .int .i64 a3], .agg #[.int .i64 b0, .int .i64 b1, .int .i64 b2, .int .i64 b3]] w (Gives (.tuple #[.int .i64 (sumN (a0 * b0 + a1 * b1 + a2 * b2 + a3 * b3)), .int .i64 (sumE (a0 * b0 + a1 * b1 + a2 * b2 + a3 * b3))]) w) := by
  by_cases h1 : -4611686018427387904 ≤ (a0 * b0 + a1 * b1 + a2 * b2 + a3 * b3) / 65536 ∧ (a0 * b0 + a1 * b1 + a2 * b2 + a3 * b3) / 65536 ≤ 4611686018427387904
  · unfold sumN sumE; rw [if_pos h1, if_pos h1]; exact sum_yes _ _ _ _ _ _ _ _ hb h1 w
  · unfold sumN sumE; rw [if_neg h1, if_neg h1]
    by_cases h2 : -9223372036854775808 ≤ (a0 * b0 + a1 * b1 + a2 * b2 + a3 * b3) / 65536 ∧ (a0 * b0 + a1 * b1 + a2 * b2 + a3 * b3) / 65536 ≤ 9223372036854775807
    · exact sum_over _ _ _ _ _ _ _ _ hb ⟨h2, h1⟩ w
    · exact sum_far _ _ _ _ _ _ _ _ hb h2 w

set_option maxRecDepth 100000 in
set_option maxHeartbeats 4000000 in
theorem numbers_any (m : Nat → Int) (w : World) : Calls Tryd.prog 25 #[mv m] w fun e w' => ∃ x : Nat, e = .returned (.func (.func 30) #[] #[.pointer (some ⟨x, 0, none⟩)]) ∧ Fm No w w' ∧ New w w' [(x, .cells #[.int .i64 (m 0), .int .i64 (m 1), .int .i64 (m 2), .int .i64 (m 3), .int .i64 (m 4), .int .i64 (m 5), .int .i64 (m 6), .int .i64 (m 7), .int .i64 (m 8), .int .i64 (m 9), .int .i64 (m 10), .int .i64 (m 11), .int .i64 (m 12), .int .i64 (m 13), .int .i64 (m 14), .int .i64 (m 15)] 25)] := by
  refine calls_enter No Tryd.func25 rfl rfl rfl rfl ?_
  refine Tr.seq ?_
  refine Tr.region ?_
  refine Tr.step rfl (Tr.box rfl rfl rfl ?_)
  rintro u1
  refine Tr.step rfl (Tr.val rfl rfl ?_)
  refine Tr.nil ?_
  refine Tr.thenN ?_
  refine Tr.seq ?_
  refine Tr.region ?_
  refine Tr.step rfl (Tr.val rfl rfl ?_)
  refine Tr.step rfl (Tr.val rfl rfl ?_)
  refine Tr.nil ?_
  refine Tr.thenN ?_
  refine Tr.ret ?_
  refine Tr.leave rfl rfl ?_
  refine Tr.res1 rfl (RsV.tmp rfl) (fun w hw => ?_)
  exact ⟨u1, rfl, hw.fm, hw.new rfl [0] (by decide) rfl⟩

set_option maxRecDepth 100000 in
set_option maxHeartbeats 4000000 in
theorem numbers_iter (b1 : Nat) (m : Nat → Int) (w : World) (Keep : Nat → Prop) (hlt : ∀ b, Keep b → b < w.heap.size) (k1 : Keep b1)
    (h1 : w.heap[b1]? = some (.cells #[.int .i64 (m 0), .int .i64 (m 1), .int .i64 (m 2), .int .i64 (m 3), .int .i64 (m 4), .int .i64 (m 5), .int .i64 (m 6), .int .i64 (m 7), .int .i64 (m 8), .int .i64 (m 9), .int .i64 (m 10), .int .i64 (m 11), .int .i64 (m 12), .int .i64 (m 13), .int .i64 (m 14), .int .i64 (m 15)] 25)) :
    Iter Tryd.prog 30 #[.pointer (some ⟨b1, 0, none⟩)] (fun x : Fin 16 => #[.agg #[.int .i64 ((x.1 / 4 : Nat) : Int), .int .i64 ((x.1 % 4 : Nat) : Int)], .int .i64 (m x.1)]) Keep all16 w := by
  refine iter_enter Tryd.func30 rfl rfl rfl rfl hlt ?_
  rintro lp J Jx hJ hJx W hW hY
  have q1 : Row W b1 0 [.int .i64 (m 0), .int .i64 (m 1), .int .i64 (m 2), .int .i64 (m 3), .int .i64 (m 4), .int .i64 (m 5), .int .i64 (m 6), .int .i64 (m 7), .int .i64 (m 8), .int .i64 (m 9), .int .i64 (m 10), .int .i64 (m 11), .int .i64 (m 12), .int .i64 (m 13), .int .i64 (m 14), .int .i64 (m 15)] := Row.block (n := 16) ((hW b1 k1).trans h1) rfl
  refine Tr.seq ?_
  refine Tr.region ?_
  refine Tr.step rfl (Tr.val rfl rfl ?_)
  refine Tr.nil ?_
  refine Tr.thenN ?_
  refine Tr.block ?_
  refine Tr.loopU ?_
  refine Tr.roundU ?_
  refine Tr.seq ?_
  refine Tr.region ?_
  refine Tr.step rfl (Tr.valE (.bool true) rfl rfl rfl ?_)
  refine Tr.nil ?_
  refine Tr.thenN ?_
  refine Tr.seq ?_
  refine Tr.yes rfl ?_
  refine Tr.skip ?_
  refine Tr.thenN ?_
  refine Tr.seq ?_
  refine Tr.block ?_
  refine Tr.seq ?_
  refine Tr.region ?_
  refine Tr.step rfl (Tr.val rfl rfl ?_)
  refine Tr.step rfl (Tr.val rfl rfl ?_)
  refine Tr.nil ?_
  refine Tr.thenN ?_
  refine Tr.seq ?_
  refine Tr.region ?_
  refine Tr.step rfl (Tr.val rfl rfl ?_)
  refine Tr.step rfl (Tr.indexArr (o' := 0) F.arr25 rfl rfl (by decide) (by decide) (rfl) rfl ?_)
  refine Tr.step rfl (Tr.loadN (vs := [.int .i64 (m 0), .int .i64 (m 1), .int .i64 (m 2), .int .i64 (m 3)]) F.ty23 rfl (q1.part (i := 0) (n := 4) (vs := [.int .i64 (m 0), .int .i64 (m 1), .int .i64 (m 2), .int .i64 (m 3), .int .i64 (m 4), .int .i64 (m 5), .int .i64 (m 6), .int .i64 (m 7), .int .i64 (m 8), .int .i64 (m 9), .int .i64 (m 10), .int .i64 (m 11), .int .i64 (m 12), .int .i64 (m 13), .int .i64 (m 14), .int .i64 (m 15)]) (fun h => h k1) rfl rfl) rfl rfl ?_)
  refine Tr.step rfl (Tr.val rfl rfl ?_)
  refine Tr.nil ?_
  refine Tr.thenN ?_
  refine Tr.block ?_
  refine Tr.loopU ?_
  refine Tr.sub (l' := [(12, .int .i64 0), (11, .agg #[.int .i64 (m 0), .int .i64 (m 1), .int .i64 (m 2), .int .i64 (m 3)]), (3, .int .i64 0), (6, .int .i64 0), (0, .func (.yield lp) #[] #[]), (1, .pointer (some ⟨b1, 0, none⟩))]) (h' := []) ?_ [] (by decide) rfl ⟨rfl, rfl, rfl, rfl, rfl, rfl, trivial⟩
  refine Tr.roundU ?_
  refine Tr.seq ?_
  refine Tr.region ?_
  refine Tr.step rfl (Tr.valE (.bool true) rfl rfl rfl ?_)
  refine Tr.nil ?_
  refine Tr.thenN ?_
  refine Tr.seq ?_
  refine Tr.yes rfl ?_
  refine Tr.skip ?_
  refine Tr.thenN ?_
  refine Tr.seq ?_
  refine Tr.block ?_
  refine Tr.seq ?_
  refine Tr.region ?_
  refine Tr.step rfl (Tr.val rfl rfl ?_)
  refine Tr.step rfl (Tr.indexVal F.und23 F.ty2 rfl rfl (by decide) (by decide) (rfl) rfl ?_)
  refine Tr.step rfl (Tr.val rfl rfl ?_)
  refine Tr.step rfl (Tr.val rfl rfl ?_)
  refine Tr.nil ?_
  refine Tr.thenN ?_
  refine Tr.seq ?_
  refine Tr.region ?_
  refine Tr.step rfl (Tr.val rfl rfl ?_)
  refine Tr.step rfl (Tr.val rfl rfl ?_)
  refine Tr.step rfl (Tr.val rfl rfl ?_)
  refine Tr.step rfl (Tr.buildA #[.int .i64 0, .int .i64 0] F.und70 F.ty70 F.ty3 rfl (by kernel_rfl) rfl ?_)
  refine Tr.step rfl (Tr.val rfl rfl ?_)
  refine Tr.step rfl (Tr.yield (J' := J ([] ++ [(0 : Fin 16)])) (Jx' := Jx ([] ++ [(0 : Fin 16)])) (hJ _) (hJx _) rfl rfl rfl (fun w hw => hY [] (0 : Fin 16) w hw (by simp [all16])) ?_ (fun w' => ?_))
  · skip
    refine Tr.step rfl (Tr.valE (.bool false) rfl rfl rfl ?_)
    refine Tr.nil ?_
    refine Tr.thenN ?_
    refine Tr.not rfl ?_
    refine Tr.skip ?_
    refine Tr.blockN ?_
    refine Tr.thenN ?_
    refine Tr.region ?_
    refine Tr.step rfl (Tr.valE (.int .i64 1) rfl (rfl) rfl ?_)
    refine Tr.step rfl (Tr.val rfl rfl ?_)
    refine Tr.nil ?_
    refine Tr.thenN ?_
    refine Tr.sub (l' := [(12, .int .i64 1), (11, .agg #[.int .i64 (m 0), .int .i64 (m 1), .int .i64 (m 2), .int .i64 (m 3)]), (3, .int .i64 0), (6, .int .i64 0), (0, .func (.yield lp) #[] #[]), (1, .pointer (some ⟨b1, 0, none⟩))]) (h' := []) ?_ [] (by decide) rfl ⟨rfl, rfl, rfl, rfl, rfl, rfl, trivial⟩
    refine Tr.roundU ?_
    refine Tr.seq ?_
    refine Tr.region ?_
    refine Tr.step rfl (Tr.valE (.bool true) rfl rfl rfl ?_)
    refine Tr.nil ?_
    refine Tr.thenN ?_
    refine Tr.seq ?_
    refine Tr.yes rfl ?_
    refine Tr.skip ?_
    refine Tr.thenN ?_
    refine Tr.seq ?_
    refine Tr.block ?_
    refine Tr.seq ?_
    refine Tr.region ?_
    refine Tr.step rfl (Tr.val rfl rfl ?_)
    refine Tr.step rfl (Tr.indexVal F.und23 F.ty2 rfl rfl (by decide) (by decide) (rfl) rfl ?_)
    refine Tr.step rfl (Tr.val rfl rfl ?_)
    refine Tr.step rfl (Tr.val rfl rfl ?_)
    refine Tr.nil ?_
    refine Tr.thenN ?_
    refine Tr.seq ?_
    refine Tr.region ?_
    refine Tr.step rfl (Tr.val rfl rfl ?_)
    refine Tr.step rfl (Tr.val rfl rfl ?_)
    refine Tr.step rfl (Tr.val rfl rfl ?_)
    refine Tr.step rfl (Tr.buildA #[.int .i64 0, .int .i64 1] F.und70 F.ty70 F.ty3 rfl (by kernel_rfl) rfl ?_)
    refine Tr.step rfl (Tr.val rfl rfl ?_)
    refine Tr.step rfl (Tr.yield (J' := J (([] ++ [(0 : Fin 16)]) ++ [(1 : Fin 16)])) (Jx' := Jx (([] ++ [(0 : Fin 16)]) ++ [(1 : Fin 16)])) (hJ _) (hJx _) rfl rfl rfl (fun w hw => hY ([] ++ [(0 : Fin 16)]) (1 : Fin 16) w hw (by simp [all16])) ?_ (fun w' => ?_))
    · skip
      refine Tr.step rfl (Tr.valE (.bool false) rfl rfl rfl ?_)
      refine Tr.nil ?_
      refine Tr.thenN ?_
      refine Tr.not rfl ?_
      refine Tr.skip ?_
      refine Tr.blockN ?_
      refine Tr.thenN ?_
      refine Tr.region ?_
      refine Tr.step rfl (Tr.valE (.int .i64 2) rfl (rfl) rfl ?_)
      refine Tr.step rfl (Tr.val rfl rfl ?_)
      refine Tr.nil ?_
      refine Tr.thenN ?_
      refine Tr.sub (l' := [(12, .int .i64 2), (11, .agg #[.int .i64 (m 0), .int .i64 (m 1), .int .i64 (m 2), .int .i64 (m 3)]), (3, .int .i64 0), (6, .int .i64 0), (0, .func (.yield lp) #[] #[]), (1, .pointer (some ⟨b1, 0, none⟩))]) (h' := []) ?_ [] (by decide) rfl ⟨rfl, rfl, rfl, rfl, rfl, rfl, trivial⟩
      refine Tr.roundU ?_
      refine Tr.seq ?_
      refine Tr.region ?_
      refine Tr.step rfl (Tr.valE (.bool true) rfl rfl rfl ?_)
      refine Tr.nil ?_
      refine Tr.thenN ?_
      refine Tr.seq ?_
      refine Tr.yes rfl ?_
      refine Tr.skip ?_
      refine Tr.thenN ?_
      refine Tr.seq ?_
      refine Tr.block ?_
      refine Tr.seq ?_
      refine Tr.region ?_
      refine Tr.step rfl (Tr.val rfl rfl ?_)
      refine Tr.step rfl (Tr.indexVal F.und23 F.ty2 rfl rfl (by decide) (by decide) (rfl) rfl ?_)
      refine Tr.step rfl (Tr.val rfl rfl ?_)
      refine Tr.step rfl (Tr.val rfl rfl ?_)
      refine Tr.nil ?_
      refine Tr.thenN ?_
      refine Tr.seq ?_
      refine Tr.region ?_
      refine Tr.step rfl (Tr.val rfl rfl ?_)
      refine Tr.step rfl (Tr.val rfl rfl ?_)
      refine Tr.step rfl (Tr.val rfl rfl ?_)
      refine Tr.step rfl (Tr.buildA #[.int .i64 0, .int .i64 2] F.und70 F.ty70 F.ty3 rfl (by kernel_rfl) rfl ?_)
      refine Tr.step rfl (Tr.val rfl rfl ?_)
      refine Tr.step rfl (Tr.yield (J' := J ((([] ++ [(0 : Fin 16)]) ++ [(1 : Fin 16)]) ++ [(2 : Fin 16)])) (Jx' := Jx ((([] ++ [(0 : Fin 16)]) ++ [(1 : Fin 16)]) ++ [(2 : Fin 16)])) (hJ _) (hJx _) rfl rfl rfl (fun w hw => hY (([] ++ [(0 : Fin 16)]) ++ [(1 : Fin 16)]) (2 : Fin 16) w hw (by simp [all16])) ?_ (fun w' => ?_))
      · skip
        refine Tr.step rfl (Tr.valE (.bool false) rfl rfl rfl ?_)
        refine Tr.nil ?_
        refine Tr.thenN ?_
        refine Tr.not rfl ?_
        refine Tr.skip ?_
        refine Tr.blockN ?_
        refine Tr.thenN ?_
        refine Tr.region ?_
        refine Tr.step rfl (Tr.valE (.int .i64 3) rfl (rfl) rfl ?_)
        refine Tr.step rfl (Tr.val rfl rfl ?_)
        refine Tr.nil ?_
        refine Tr.thenN ?_
        refine Tr.sub (l' := [(12, .int .i64 3), (11, .agg #[.int .i64 (m 0), .int .i64 (m 1), .int .i64 (m 2), .int .i64 (m 3)]), (3, .int .i64 0), (6, .int .i64 0), (0, .func (.yield lp) #[] #[]), (1, .pointer (some ⟨b1, 0, none⟩))]) (h' := []) ?_ [] (by decide) rfl ⟨rfl, rfl, rfl, rfl, rfl, rfl, trivial⟩
        refine Tr.roundU ?_
        refine Tr.seq ?_
        refine Tr.region ?_
        refine Tr.step rfl (Tr.valE (.bool true) rfl rfl rfl ?_)
        refine Tr.nil ?_
        refine Tr.thenN ?_
        refine Tr.seq ?_
        refine Tr.yes rfl ?_
        refine Tr.skip ?_
        refine Tr.thenN ?_
        refine Tr.seq ?_
        refine Tr.block ?_
        refine Tr.seq ?_
        refine Tr.region ?_
        refine Tr.step rfl (Tr.val rfl rfl ?_)
        refine Tr.step rfl (Tr.indexVal F.und23 F.ty2 rfl rfl (by decide) (by decide) (rfl) rfl ?_)
        refine Tr.step rfl (Tr.val rfl rfl ?_)
        refine Tr.step rfl (Tr.val rfl rfl ?_)
        refine Tr.nil ?_
        refine Tr.thenN ?_
        refine Tr.seq ?_
        refine Tr.region ?_
        refine Tr.step rfl (Tr.val rfl rfl ?_)
        refine Tr.step rfl (Tr.val rfl rfl ?_)
        refine Tr.step rfl (Tr.val rfl rfl ?_)
        refine Tr.step rfl (Tr.buildA #[.int .i64 0, .int .i64 3] F.und70 F.ty70 F.ty3 rfl (by kernel_rfl) rfl ?_)
        refine Tr.step rfl (Tr.val rfl rfl ?_)
        refine Tr.step rfl (Tr.yield (J' := J (((([] ++ [(0 : Fin 16)]) ++ [(1 : Fin 16)]) ++ [(2 : Fin 16)]) ++ [(3 : Fin 16)])) (Jx' := Jx (((([] ++ [(0 : Fin 16)]) ++ [(1 : Fin 16)]) ++ [(2 : Fin 16)]) ++ [(3 : Fin 16)])) (hJ _) (hJx _) rfl rfl rfl (fun w hw => hY ((([] ++ [(0 : Fin 16)]) ++ [(1 : Fin 16)]) ++ [(2 : Fin 16)]) (3 : Fin 16) w hw (by simp [all16])) ?_ (fun w' => ?_))
        · skip
          refine Tr.step rfl (Tr.valE (.bool false) rfl rfl rfl ?_)
          refine Tr.nil ?_
          refine Tr.thenN ?_
          refine Tr.not rfl ?_
          refine Tr.skip ?_
          refine Tr.blockN ?_
          refine Tr.thenN ?_
          refine Tr.region ?_
          refine Tr.step rfl (Tr.valE (.int .i64 4) rfl (rfl) rfl ?_)
          refine Tr.step rfl (Tr.val rfl rfl ?_)
          refine Tr.nil ?_
          refine Tr.thenN ?_
          refine Tr.sub (l' := [(12, .int .i64 4), (11, .agg #[.int .i64 (m 0), .int .i64 (m 1), .int .i64 (m 2), .int .i64 (m 3)]), (3, .int .i64 0), (6, .int .i64 0), (0, .func (.yield lp) #[] #[]), (1, .pointer (some ⟨b1, 0, none⟩))]) (h' := []) ?_ [] (by decide) rfl ⟨rfl, rfl, rfl, rfl, rfl, rfl, trivial⟩
          refine Tr.roundU ?_
          refine Tr.seq ?_
          refine Tr.region ?_
          refine Tr.step rfl (Tr.valE (.bool false) rfl rfl rfl ?_)
          refine Tr.nil ?_
          refine Tr.thenN ?_
          refine Tr.seq ?_
          refine Tr.not rfl ?_
          refine Tr.exit ?_
          refine Tr.thenE ?_
          refine Tr.thenE ?_
          refine Tr.blockHit ?_
          refine Tr.blockN ?_
          refine Tr.thenN ?_
          refine Tr.region ?_
          refine Tr.step rfl (Tr.valE (.int .i64 1) rfl (rfl) rfl ?_)
          refine Tr.step rfl (Tr.val rfl rfl ?_)
          refine Tr.nil ?_
          refine Tr.thenN ?_
          refine Tr.sub (l' := [(6, .int .i64 1), (0, .func (.yield lp) #[] #[]), (1, .pointer (some ⟨b1, 0, none⟩))]) (h' := []) ?_ [] (by decide) rfl ⟨rfl, rfl, rfl, trivial⟩
          refine Tr.roundU ?_
          refine Tr.seq ?_
          refine Tr.region ?_
          refine Tr.step rfl (Tr.valE (.bool true) rfl rfl rfl ?_)
          refine Tr.nil ?_
          refine Tr.thenN ?_
          refine Tr.seq ?_
          refine Tr.yes rfl ?_
          refine Tr.skip ?_
          refine Tr.thenN ?_
          refine Tr.seq ?_
          refine Tr.block ?_
          refine Tr.seq ?_
          refine Tr.region ?_
          refine Tr.step rfl (Tr.val rfl rfl ?_)
          refine Tr.step rfl (Tr.val rfl rfl ?_)
          refine Tr.nil ?_
          refine Tr.thenN ?_
          refine Tr.seq ?_
          refine Tr.region ?_
          refine Tr.step rfl (Tr.val rfl rfl ?_)
          refine Tr.step rfl (Tr.indexArr (o' := 4) F.arr25 rfl rfl (by decide) (by decide) (rfl) rfl ?_)
          refine Tr.step rfl (Tr.loadN (vs := [.int .i64 (m 4), .int .i64 (m 5), .int .i64 (m 6), .int .i64 (m 7)]) F.ty23 rfl (q1.part (i := 4) (n := 4) (vs := [.int .i64 (m 0), .int .i64 (m 1), .int .i64 (m 2), .int .i64 (m 3), .int .i64 (m 4), .int .i64 (m 5), .int .i64 (m 6), .int .i64 (m 7), .int .i64 (m 8), .int .i64 (m 9), .int .i64 (m 10), .int .i64 (m 11), .int .i64 (m 12), .int .i64 (m 13), .int .i64 (m 14), .int .i64 (m 15)]) (fun h => h k1) rfl rfl) rfl rfl ?_)
          refine Tr.step rfl (Tr.val rfl rfl ?_)
          refine Tr.nil ?_
          refine Tr.thenN ?_
          refine Tr.block ?_
          refine Tr.loopU ?_
          refine Tr.sub (l' := [(12, .int .i64 0), (11, .agg #[.int .i64 (m 4), .int .i64 (m 5), .int .i64 (m 6), .int .i64 (m 7)]), (3, .int .i64 1), (6, .int .i64 1), (0, .func (.yield lp) #[] #[]), (1, .pointer (some ⟨b1, 0, none⟩))]) (h' := []) ?_ [] (by decide) rfl ⟨rfl, rfl, rfl, rfl, rfl, rfl, trivial⟩
          refine Tr.roundU ?_
          refine Tr.seq ?_
          refine Tr.region ?_
          refine Tr.step rfl (Tr.valE (.bool true) rfl rfl rfl ?_)
          refine Tr.nil ?_
          refine Tr.thenN ?_
          refine Tr.seq ?_
          refine Tr.yes rfl ?_
          refine Tr.skip ?_
          refine Tr.thenN ?_
          refine Tr.seq ?_
          refine Tr.block ?_
          refine Tr.seq ?_
          refine Tr.region ?_
          refine Tr.step rfl (Tr.val rfl rfl ?_)
          refine Tr.step rfl (Tr.indexVal F.und23 F.ty2 rfl rfl (by decide) (by decide) (rfl) rfl ?_)
          refine Tr.step rfl (Tr.val rfl rfl ?_)
          refine Tr.step rfl (Tr.val rfl rfl ?_)
          refine Tr.nil ?_
          refine Tr.thenN ?_
          refine Tr.seq ?_
          refine Tr.region ?_
          refine Tr.step rfl (Tr.val rfl rfl ?_)
          refine Tr.step rfl (Tr.val rfl rfl ?_)
          refine Tr.step rfl (Tr.val rfl rfl ?_)
          refine Tr.step rfl (Tr.buildA #[.int .i64 1, .int .i64 0] F.und70 F.ty70 F.ty3 rfl (by kernel_rfl) rfl ?_)
          refine Tr.step rfl (Tr.val rfl rfl ?_)
          refine Tr.step rfl (Tr.yield (J' := J ((((([] ++ [(0 : Fin 16)]) ++ [(1 : Fin 16)]) ++ [(2 : Fin 16)]) ++ [(3 : Fin 16)]) ++ [(4 : Fin 16)])) (Jx' := Jx ((((([] ++ [(0 : Fin 16)]) ++ [(1 : Fin 16)]) ++ [(2 : Fin 16)]) ++ [(3 : Fin 16)]) ++ [(4 : Fin 16)])) (hJ _) (hJx _) rfl rfl rfl (fun w hw => hY (((([] ++ [(0 : Fin 16)]) ++ [(1 : Fin 16)]) ++ [(2 : Fin 16)]) ++ [(3 : Fin 16)]) (4 : Fin 16) w hw (by simp [all16])) ?_ (fun w' => ?_))
          · skip
            refine Tr.step rfl (Tr.valE (.bool false) rfl rfl rfl ?_)
            refine Tr.nil ?_
            refine Tr.thenN ?_
            refine Tr.not rfl ?_
            refine Tr.skip ?_
            refine Tr.blockN ?_
            refine Tr.thenN ?_
            refine Tr.region ?_
            refine Tr.step rfl (Tr.valE (.int .i64 1) rfl (rfl) rfl ?_)
            refine Tr.step rfl (Tr.val rfl rfl ?_)
            refine Tr.nil ?_
            refine Tr.thenN ?_
            refine Tr.sub (l' := [(12, .int .i64 1), (11, .agg #[.int .i64 (m 4), .int .i64 (m 5), .int .i64 (m 6), .int .i64 (m 7)]), (3, .int .i64 1), (6, .int .i64 1), (0, .func (.yield lp) #[] #[]), (1, .pointer (some ⟨b1, 0, none⟩))]) (h' := []) ?_ [] (by decide) rfl ⟨rfl, rfl, rfl, rfl, rfl, rfl, trivial⟩
            refine Tr.roundU ?_
            refine Tr.seq ?_
            refine Tr.region ?_
            refine Tr.step rfl (Tr.valE (.bool true) rfl rfl rfl ?_)
            refine Tr.nil ?_
            refine Tr.thenN ?_
            refine Tr.seq ?_
            refine Tr.yes rfl ?_
            refine Tr.skip ?_
            refine Tr.thenN ?_
            refine Tr.seq ?_
            refine Tr.block ?_
            refine Tr.seq ?_
            refine Tr.region ?_
            refine Tr.step rfl (Tr.val rfl rfl ?_)
            refine Tr.step rfl (Tr.indexVal F.und23 F.ty2 rfl rfl (by decide) (by decide) (rfl) rfl ?_)
            refine Tr.step rfl (Tr.val rfl rfl ?_)
            refine Tr.step rfl (Tr.val rfl rfl ?_)
            refine Tr.nil ?_
            refine Tr.thenN ?_
            refine Tr.seq ?_
            refine Tr.region ?_
            refine Tr.step rfl (Tr.val rfl rfl ?_)
            refine Tr.step rfl (Tr.val rfl rfl ?_)
            refine Tr.step rfl (Tr.val rfl rfl ?_)
            refine Tr.step rfl (Tr.buildA #[.int .i64 1, .int .i64 1] F.und70 F.ty70 F.ty3 rfl (by kernel_rfl) rfl ?_)
            refine Tr.step rfl (Tr.val rfl rfl ?_)
            refine Tr.step rfl (Tr.yield (J' := J (((((([] ++ [(0 : Fin 16)]) ++ [(1 : Fin 16)]) ++ [(2 : Fin 16)]) ++ [(3 : Fin 16)]) ++ [(4 : Fin 16)]) ++ [(5 : Fin 16)])) (Jx' := Jx (((((([] ++ [(0 : Fin 16)]) ++ [(1 : Fin 16)]) ++ [(2 : Fin 16)]) ++ [(3 : Fin 16)]) ++ [(4 : Fin 16)]) ++ [(5 : Fin 16)])) (hJ _) (hJx _) rfl rfl rfl (fun w hw => hY ((((([] ++ [(0 : Fin 16)]) ++ [(1 : Fin 16)]) ++ [(2 : Fin 16)]) ++ [(3 : Fin 16)]) ++ [(4 : Fin 16)]) (5 : Fin 16) w hw (by simp [all16])) ?_ (fun w' => ?_))
            · skip
              refine Tr.step rfl (Tr.valE (.bool false) rfl rfl rfl ?_)
              refine Tr.nil ?_
              refine Tr.thenN ?_
              refine Tr.not rfl ?_
              refine Tr.skip ?_
              refine Tr.blockN ?_
              refine Tr.thenN ?_
              refine Tr.region ?_
              refine Tr.step rfl (Tr.valE (.int .i64 2) rfl (rfl) rfl ?_)
              refine Tr.step rfl (Tr.val rfl rfl ?_)
              refine Tr.nil ?_
              refine Tr.thenN ?_
              refine Tr.sub (l' := [(12, .int .i64 2), (11, .agg #[.int .i64 (m 4), .int .i64 (m 5), .int .i64 (m 6), .int .i64 (m 7)]), (3, .int .i64 1), (6, .int .i64 1), (0, .func (.yield lp) #[] #[]), (1, .pointer (some ⟨b1, 0, none⟩))]) (h' := []) ?_ [] (by decide) rfl ⟨rfl, rfl, rfl, rfl, rfl, rfl, trivial⟩
              refine Tr.roundU ?_
              refine Tr.seq ?_
              refine Tr.region ?_
              refine Tr.step rfl (Tr.valE (.bool true) rfl rfl rfl ?_)
              refine Tr.nil ?_
              refine Tr.thenN ?_
              refine Tr.seq ?_
              refine Tr.yes rfl ?_
              refine Tr.skip ?_
              refine Tr.thenN ?_
              refine Tr.seq ?_
              refine Tr.block ?_
              refine Tr.seq ?_
              refine Tr.region ?_
              refine Tr.step rfl (Tr.val rfl rfl ?_)
              refine Tr.step rfl (Tr.indexVal F.und23 F.ty2 rfl rfl (by decide) (by decide) (rfl) rfl ?_)
              refine Tr.step rfl (Tr.val rfl rfl ?_)
              refine Tr.step rfl (Tr.val rfl rfl ?_)
              refine Tr.nil ?_
              refine Tr.thenN ?_
              refine Tr.seq ?_
              refine Tr.region ?_
              refine Tr.step rfl (Tr.val rfl rfl ?_)
              refine Tr.step rfl (Tr.val rfl rfl ?_)
              refine Tr.step rfl (Tr.val rfl rfl ?_)
              refine Tr.step rfl (Tr.buildA #[.int .i64 1, .int .i64 2] F.und70 F.ty70 F.ty3 rfl (by kernel_rfl) rfl ?_)
              refine Tr.step rfl (Tr.val rfl rfl ?_)
              refine Tr.step rfl (Tr.yield (J' := J ((((((([] ++ [(0 : Fin 16)]) ++ [(1 : Fin 16)]) ++ [(2 : Fin 16)]) ++ [(3 : Fin 16)]) ++ [(4 : Fin 16)]) ++ [(5 : Fin 16)]) ++ [(6 : Fin 16)])) (Jx' := Jx ((((((([] ++ [(0 : Fin 16)]) ++ [(1 : Fin 16)]) ++ [(2 : Fin 16)]) ++ [(3 : Fin 16)]) ++ [(4 : Fin 16)]) ++ [(5 : Fin 16)]) ++ [(6 : Fin 16)])) (hJ _) (hJx _) rfl rfl rfl (fun w hw => hY (((((([] ++ [(0 : Fin 16)]) ++ [(1 : Fin 16)]) ++ [(2 : Fin 16)]) ++ [(3 : Fin 16)]) ++ [(4 : Fin 16)]) ++ [(5 : Fin 16)]) (6 : Fin 16) w hw (by simp [all16])) ?_ (fun w' => ?_))
              · skip
                refine Tr.step rfl (Tr.valE (.bool false) rfl rfl rfl ?_)
                refine Tr.nil ?_
                refine Tr.thenN ?_
                refine Tr.not rfl ?_
                refine Tr.skip ?_
                refine Tr.blockN ?_
                refine Tr.thenN ?_
                refine Tr.region ?_
                refine Tr.step rfl (Tr.valE (.int .i64 3) rfl (rfl) rfl ?_)
                refine Tr.step rfl (Tr.val rfl rfl ?_)
                refine Tr.nil ?_
                refine Tr.thenN ?_
                refine Tr.sub (l' := [(12, .int .i64 3), (11, .agg #[.int .i64 (m 4), .int .i64 (m 5), .int .i64 (m 6), .int .i64 (m 7)]), (3, .int .i64 1), (6, .int .i64 1), (0, .func (.yield lp) #[] #[]), (1, .pointer (some ⟨b1, 0, none⟩))]) (h' := []) ?_ [] (by decide) rfl ⟨rfl, rfl, rfl, rfl, rfl, rfl, trivial⟩
                refine Tr.roundU ?_
                refine Tr.seq ?_
                refine Tr.region ?_
                refine Tr.step rfl (Tr.valE (.bool true) rfl rfl rfl ?_)
                refine Tr.nil ?_
                refine Tr.thenN ?_
                refine Tr.seq ?_
                refine Tr.yes rfl ?_
                refine Tr.skip ?_
                refine Tr.thenN ?_
                refine Tr.seq ?_
                refine Tr.block ?_
                refine Tr.seq ?_
                refine Tr.region ?_
                refine Tr.step rfl (Tr.val rfl rfl ?_)
                refine Tr.step rfl (Tr.indexVal F.und23 F.ty2 rfl rfl (by decide) (by decide) (rfl) rfl ?_)
                refine Tr.step rfl (Tr.val rfl rfl ?_)
                refine Tr.step rfl (Tr.val rfl rfl ?_)
                refine Tr.nil ?_
                refine Tr.thenN ?_
                refine Tr.seq ?_
                refine Tr.region ?_
                refine Tr.step rfl (Tr.val rfl rfl ?_)
                refine Tr.step rfl (Tr.val rfl rfl ?_)
                refine Tr.step rfl (Tr.val rfl rfl ?_)
                refine Tr.step rfl (Tr.buildA #[.int .i64 1, .int .i64 3] F.und70 F.ty70 F.ty3 rfl (by kernel_rfl) rfl ?_)
                refine Tr.step rfl (Tr.val rfl rfl ?_)
                refine Tr.step rfl (Tr.yield (J' := J (((((((([] ++ [(0 : Fin 16)]) ++ [(1 : Fin 16)]) ++ [(2 : Fin 16)]) ++ [(3 : Fin 16)]) ++ [(4 : Fin 16)]) ++ [(5 : Fin 16)]) ++ [(6 : Fin 16)]) ++ [(7 : Fin 16)])) (Jx' := Jx (((((((([] ++ [(0 : Fin 16)]) ++ [(1 : Fin 16)]) ++ [(2 : Fin 16)]) ++ [(3 : Fin 16)]) ++ [(4 : Fin 16)]) ++ [(5 : Fin 16)]) ++ [(6 : Fin 16)]) ++ [(7 : Fin 16)])) (hJ _) (hJx _) rfl rfl rfl (fun w hw => hY ((((((([] ++ [(0 : Fin 16)]) ++ [(1 : Fin 16)]) ++ [(2 : Fin 16)]) ++ [(3 : Fin 16)]) ++ [(4 : Fin 16)]) ++ [(5 : Fin 16)]) ++ [(6 : Fin 16)]) (7 : Fin 16) w hw (by simp [all16])) ?_ (fun w' => ?_))
                · skip
                  refine Tr.step rfl (Tr.valE (.bool false) rfl rfl rfl ?_)
                  refine Tr.nil ?_
                  refine Tr.thenN ?_
                  refine Tr.not rfl ?_
                  refine Tr.skip ?_
                  refine Tr.blockN ?_
                  refine Tr.thenN ?_
                  refine Tr.region ?_
                  refine Tr.step rfl (Tr.valE (.int .i64 4) rfl (rfl) rfl ?_)
                  refine Tr.step rfl (Tr.val rfl rfl ?_)
                  refine Tr.nil ?_
                  refine Tr.thenN ?_
                  refine Tr.sub (l' := [(12, .int .i64 4), (11, .agg #[.int .i64 (m 4), .int .i64 (m 5), .int .i64 (m 6), .int .i64 (m 7)]), (3, .int .i64 1), (6, .int .i64 1), (0, .func (.yield lp) #[] #[]), (1, .pointer (some ⟨b1, 0, none⟩))]) (h' := []) ?_ [] (by decide) rfl ⟨rfl, rfl, rfl, rfl, rfl, rfl, trivial⟩
                  refine Tr.roundU ?_
                  refine Tr.seq ?_
                  refine Tr.region ?_
                  refine Tr.step rfl (Tr.valE (.bool false) rfl rfl rfl ?_)
                  refine Tr.nil ?_
                  refine Tr.thenN ?_
                  refine Tr.seq ?_
                  refine Tr.not rfl ?_
                  refine Tr.exit ?_
                  refine Tr.thenE ?_
                  refine Tr.thenE ?_
                  refine Tr.blockHit ?_
                  refine Tr.blockN ?_
                  refine Tr.thenN ?_
                  refine Tr.region ?_
                  refine Tr.step rfl (Tr.valE (.int .i64 2) rfl (rfl) rfl ?_)
                  refine Tr.step rfl (Tr.val rfl rfl ?_)
                  refine Tr.nil ?_
                  refine Tr.thenN ?_
                  refine Tr.sub (l' := [(6, .int .i64 2), (0, .func (.yield lp) #[] #[]), (1, .pointer (some ⟨b1, 0, none⟩))]) (h' := []) ?_ [] (by decide) rfl ⟨rfl, rfl, rfl, trivial⟩
                  refine Tr.roundU ?_
                  refine Tr.seq ?_
                  refine Tr.region ?_
                  refine Tr.step rfl (Tr.valE (.bool true) rfl rfl rfl ?_)
                  refine Tr.nil ?_
                  refine Tr.thenN ?_
                  refine Tr.seq ?_
                  refine Tr.yes rfl ?_
                  refine Tr.skip ?_
                  refine Tr.thenN ?_
                  refine Tr.seq ?_
                  refine Tr.block ?_
                  refine Tr.seq ?_
                  refine Tr.region ?_
                  refine Tr.step rfl (Tr.val rfl rfl ?_)
                  refine Tr.step rfl (Tr.val rfl rfl ?_)
                  refine Tr.nil ?_
                  refine Tr.thenN ?_
                  refine Tr.seq ?_
                  refine Tr.region ?_
                  refine Tr.step rfl (Tr.val rfl rfl ?_)
                  refine Tr.step rfl (Tr.indexArr (o' := 8) F.arr25 rfl rfl (by decide) (by decide) (rfl) rfl ?_)
                  refine Tr.step rfl (Tr.loadN (vs := [.int .i64 (m 8), .int .i64 (m 9), .int .i64 (m 10), .int .i64 (m 11)]) F.ty23 rfl (q1.part (i := 8) (n := 4) (vs := [.int .i64 (m 0), .int .i64 (m 1), .int .i64 (m 2), .int .i64 (m 3), .int .i64 (m 4), .int .i64 (m 5), .int .i64 (m 6), .int .i64 (m 7), .int .i64 (m 8), .int .i64 (m 9), .int .i64 (m 10), .int .i64 (m 11), .int .i64 (m 12), .int .i64 (m 13), .int .i64 (m 14), .int .i64 (m 15)]) (fun h => h k1) rfl rfl) rfl rfl ?_)
                  refine Tr.step rfl (Tr.val rfl rfl ?_)
                  refine Tr.nil ?_
                  refine Tr.thenN ?_
                  refine Tr.block ?_
                  refine Tr.loopU ?_
                  refine Tr.sub (l' := [(12, .int .i64 0), (11, .agg #[.int .i64 (m 8), .int .i64 (m 9), .int .i64 (m 10), .int .i64 (m 11)]), (3, .int .i64 2), (6, .int .i64 2), (0, .func (.yield lp) #[] #[]), (1, .pointer (some ⟨b1, 0, none⟩))]) (h' := []) ?_ [] (by decide) rfl ⟨rfl, rfl, rfl, rfl, rfl, rfl, trivial⟩
                  refine Tr.roundU ?_
                  refine Tr.seq ?_
                  refine Tr.region ?_
                  refine Tr.step rfl (Tr.valE (.bool true) rfl rfl rfl ?_)
                  refine Tr.nil ?_
                  refine Tr.thenN ?_
                  refine Tr.seq ?_
                  refine Tr.yes rfl ?_
                  refine Tr.skip ?_
                  refine Tr.thenN ?_
                  refine Tr.seq ?_
                  refine Tr.block ?_
                  refine Tr.seq ?_
                  refine Tr.region ?_
                  refine Tr.step rfl (Tr.val rfl rfl ?_)
                  refine Tr.step rfl (Tr.indexVal F.und23 F.ty2 rfl rfl (by decide) (by decide) (rfl) rfl ?_)
                  refine Tr.step rfl (Tr.val rfl rfl ?_)
                  refine Tr.step rfl (Tr.val rfl rfl ?_)
                  refine Tr.nil ?_
                  refine Tr.thenN ?_
                  refine Tr.seq ?_
                  refine Tr.region ?_
                  refine Tr.step rfl (Tr.val rfl rfl ?_)
                  refine Tr.step rfl (Tr.val rfl rfl ?_)
                  refine Tr.step rfl (Tr.val rfl rfl ?_)
                  refine Tr.step rfl (Tr.buildA #[.int .i64 2, .int .i64 0] F.und70 F.ty70 F.ty3 rfl (by kernel_rfl) rfl ?_)
                  refine Tr.step rfl (Tr.val rfl rfl ?_)
                  refine Tr.step rfl (Tr.yield (J' := J ((((((((([] ++ [(0 : Fin 16)]) ++ [(1 : Fin 16)]) ++ [(2 : Fin 16)]) ++ [(3 : Fin 16)]) ++ [(4 : Fin 16)]) ++ [(5 : Fin 16)]) ++ [(6 : Fin 16)]) ++ [(7 : Fin 16)]) ++ [(8 : Fin 16)])) (Jx' := Jx ((((((((([] ++ [(0 : Fin 16)]) ++ [(1 : Fin 16)]) ++ [(2 : Fin 16)]) ++ [(3 : Fin 16)]) ++ [(4 : Fin 16)]) ++ [(5 : Fin 16)]) ++ [(6 : Fin 16)]) ++ [(7 : Fin 16)]) ++ [(8 : Fin 16)])) (hJ _) (hJx _) rfl rfl rfl (fun w hw => hY (((((((([] ++ [(0 : Fin 16)]) ++ [(1 : Fin 16)]) ++ [(2 : Fin 16)]) ++ [(3 : Fin 16)]) ++ [(4 : Fin 16)]) ++ [(5 : Fin 16)]) ++ [(6 : Fin 16)]) ++ [(7 : Fin 16)]) (8 : Fin 16) w hw (by simp [all16])) ?_ (fun w' => ?_))
                  · skip
                    refine Tr.step rfl (Tr.valE (.bool false) rfl rfl rfl ?_)
                    refine Tr.nil ?_
                    refine Tr.thenN ?_
                    refine Tr.not rfl ?_
                    refine Tr.skip ?_
                    refine Tr.blockN ?_
                    refine Tr.thenN ?_
                    refine Tr.region ?_
                    refine Tr.step rfl (Tr.valE (.int .i64 1) rfl (rfl) rfl ?_)
                    refine Tr.step rfl (Tr.val rfl rfl ?_)
                    refine Tr.nil ?_
                    refine Tr.thenN ?_
                    refine Tr.sub (l' := [(12, .int .i64 1), (11, .agg #[.int .i64 (m 8), .int .i64 (m 9), .int .i64 (m 10), .int .i64 (m 11)]), (3, .int .i64 2), (6, .int .i64 2), (0, .func (.yield lp) #[] #[]), (1, .pointer (some ⟨b1, 0, none⟩))]) (h' := []) ?_ [] (by decide) rfl ⟨rfl, rfl, rfl, rfl, rfl, rfl, trivial⟩
                    refine Tr.roundU ?_
                    refine Tr.seq ?_
                    refine Tr.region ?_
                    refine Tr.step rfl (Tr.valE (.bool true) rfl rfl rfl ?_)
                    refine Tr.nil ?_
                    refine Tr.thenN ?_
                    refine Tr.seq ?_
                    refine Tr.yes rfl ?_
                    refine Tr.skip ?_
                    refine Tr.thenN ?_
                    refine Tr.seq ?_
                    refine Tr.block ?_
                    refine Tr.seq ?_
                    refine Tr.region ?_
                    refine Tr.step rfl (Tr.val rfl rfl ?_)
                    refine Tr.step rfl (Tr.indexVal F.und23 F.ty2 rfl rfl (by decide) (by decide) (rfl) rfl ?_)
                    refine Tr.step rfl (Tr.val rfl rfl ?_)
                    refine Tr.step rfl (Tr.val rfl rfl ?_)
                    refine Tr.nil ?_
                    refine Tr.thenN ?_
                    refine Tr.seq ?_
                    refine Tr.region ?_
                    refine Tr.step rfl (Tr.val rfl rfl ?_)
                    refine Tr.step rfl (Tr.val rfl rfl ?_)
                    refine Tr.step rfl (Tr.val rfl rfl ?_)
                    refine Tr.step rfl (Tr.buildA #[.int .i64 2, .int .i64 1] F.und70 F.ty70 F.ty3 rfl (by kernel_rfl) rfl ?_)
                    refine Tr.step rfl (Tr.val rfl rfl ?_)
                    refine Tr.step rfl (Tr.yield (J' := J (((((((((([] ++ [(0 : Fin 16)]) ++ [(1 : Fin 16)]) ++ [(2 : Fin 16)]) ++ [(3 : Fin 16)]) ++ [(4 : Fin 16)]) ++ [(5 : Fin 16)]) ++ [(6 : Fin 16)]) ++ [(7 : Fin 16)]) ++ [(8 : Fin 16)]) ++ [(9 : Fin 16)])) (Jx' := Jx (((((((((([] ++ [(0 : Fin 16)]) ++ [(1 : Fin 16)]) ++ [(2 : Fin 16)]) ++ [(3 : Fin 16)]) ++ [(4 : Fin 16)]) ++ [(5 : Fin 16)]) ++ [(6 : Fin 16)]) ++ [(7 : Fin 16)]) ++ [(8 : Fin 16)]) ++ [(9 : Fin 16)])) (hJ _) (hJx _) rfl rfl rfl (fun w hw => hY ((((((((([] ++ [(0 : Fin 16)]) ++ [(1 : Fin 16)]) ++ [(2 : Fin 16)]) ++ [(3 : Fin 16)]) ++ [(4 : Fin 16)]) ++ [(5 : Fin 16)]) ++ [(6 : Fin 16)]) ++ [(7 : Fin 16)]) ++ [(8 : Fin 16)]) (9 : Fin 16) w hw (by simp [all16])) ?_ (fun w' => ?_))
                    · skip
                      refine Tr.step rfl (Tr.valE (.bool false) rfl rfl rfl ?_)
                      refine Tr.nil ?_
                      refine Tr.thenN ?_
                      refine Tr.not rfl ?_
                      refine Tr.skip ?_
                      refine Tr.blockN ?_
                      refine Tr.thenN ?_
                      refine Tr.region ?_
                      refine Tr.step rfl (Tr.valE (.int .i64 2) rfl (rfl) rfl ?_)
                      refine Tr.step rfl (Tr.val rfl rfl ?_)
                      refine Tr.nil ?_
                      refine Tr.thenN ?_
                      refine Tr.sub (l' := [(12, .int .i64 2), (11, .agg #[.int .i64 (m 8), .int .i64 (m 9), .int .i64 (m 10), .int .i64 (m 11)]), (3, .int .i64 2), (6, .int .i64 2), (0, .func (.yield lp) #[] #[]), (1, .pointer (some ⟨b1, 0, none⟩))]) (h' := []) ?_ [] (by decide) rfl ⟨rfl, rfl, rfl, rfl, rfl, rfl, trivial⟩
                      refine Tr.roundU ?_
                      refine Tr.seq ?_
                      refine Tr.region ?_
                      refine Tr.step rfl (Tr.valE (.bool true) rfl rfl rfl ?_)
                      refine Tr.nil ?_
                      refine Tr.thenN ?_
                      refine Tr.seq ?_
                      refine Tr.yes rfl ?_
                      refine Tr.skip ?_
                      refine Tr.thenN ?_
                      refine Tr.seq ?_
                      refine Tr.block ?_
                      refine Tr.seq ?_
                      refine Tr.region ?_
                      refine Tr.step rfl (Tr.val rfl rfl ?_)
                      refine Tr.step rfl (Tr.indexVal F.und23 F.ty2 rfl rfl (by decide) (by decide) (rfl) rfl ?_)
                      refine Tr.step rfl (Tr.val rfl rfl ?_)
                      refine Tr.step rfl (Tr.val rfl rfl ?_)
                      refine Tr.nil ?_
                      refine Tr.thenN ?_
                      refine Tr.seq ?_
                      refine Tr.region ?_
                      refine Tr.step rfl (Tr.val rfl rfl ?_)
                      refine Tr.step rfl (Tr.val rfl rfl ?_)
                      refine Tr.step rfl (Tr.val rfl rfl ?_)
                      refine Tr.step rfl (Tr.buildA #[.int .i64 2, .int .i64 2] F.und70 F.ty70 F.ty3 rfl (by kernel_rfl) rfl ?_)
                      refine Tr.step rfl (Tr.val rfl rfl ?_)
                      refine Tr.step rfl (Tr.yield (J' := J ((((((((((([] ++ [(0 : Fin 16)]) ++ [(1 : Fin 16)]) ++ [(2 : Fin 16)]) ++ [(3 : Fin 16)]) ++ [(4 : Fin 16)]) ++ [(5 : Fin 16)]) ++ [(6 : Fin 16)]) ++ [(7 : Fin 16)]) ++ [(8 : Fin 16)]) ++ [(9 : Fin 16)]) ++ [(10 : Fin 16)])) (Jx' := Jx ((((((((((([] ++ [(0 : Fin 16)]) ++ [(1 : Fin 16)]) ++ [(2 : Fin 16)]) ++ [(3 : Fin 16)]) ++ [(4 : Fin 16)]) ++ [(5 : Fin 16)]) ++ [(6 : Fin 16)]) ++ [(7 : Fin 16)]) ++ [(8 : Fin 16)]) ++ [(9 : Fin 16)]) ++ [(10 : Fin 16)])) (hJ _) (hJx _) rfl rfl rfl (fun w hw => hY (((((((((([] ++ [(0 : Fin 16)]) ++ [(1 : Fin 16)]) ++ [(2 : Fin 16)]) ++ [(3 : Fin 16)]) ++ [(4 : Fin 16)]) ++ [(5 : Fin 16)]) ++ [(6 : Fin 16)]) ++ [(7 : Fin 16)]) ++ [(8 : Fin 16)]) ++ [(9 : Fin 16)]) (10 : Fin 16) w hw (by simp [all16])) ?_ (fun w' => ?_))
                      · skip
                        refine Tr.step rfl (Tr.valE (.bool false) rfl rfl rfl ?_)
                        refine Tr.nil ?_
                        refine Tr.thenN ?_
                        refine Tr.not rfl ?_
                        refine Tr.skip ?_
                        refine Tr.blockN ?_
                        refine Tr.thenN ?_
                        refine Tr.region ?_
                        refine Tr.step rfl (Tr.valE (.int .i64 3) rfl (rfl) rfl ?_)
                        refine Tr.step rfl (Tr.val rfl rfl ?_)
                        refine Tr.nil ?_
                        refine Tr.thenN ?_
                        refine Tr.sub (l' := [(12, .int .i64 3), (11, .agg #[.int .i64 (m 8), .int .i64 (m 9), .int .i64 (m 10), .int .i64 (m 11)]), (3, .int .i64 2), (6, .int .i64 2), (0, .func (.yield lp) #[] #[]), (1, .pointer (some ⟨b1, 0, none⟩))]) (h' := []) ?_ [] (by decide) rfl ⟨rfl, rfl, rfl, rfl, rfl, rfl, trivial⟩
                        refine Tr.roundU ?_
                        refine Tr.seq ?_
                        refine Tr.region ?_
                        refine Tr.step rfl (Tr.valE (.bool true) rfl rfl rfl ?_)
                        refine Tr.nil ?_
                        refine Tr.thenN ?_
                        refine Tr.seq ?_
                        refine Tr.yes rfl ?_
                        refine Tr.skip ?_
                        refine Tr.thenN ?_
                        refine Tr.seq ?_
                        refine Tr.block ?_
                        refine Tr.seq ?_
                        refine Tr.region ?_
                        refine Tr.step rfl (Tr.val rfl rfl ?_)
                        refine Tr.step rfl (Tr.indexVal F.und23 F.ty2 rfl rfl (by decide) (by decide) (rfl) rfl ?_)
                        refine Tr.step rfl (Tr.val rfl rfl ?_)
                        refine Tr.step rfl (Tr.val rfl rfl ?_)
                        refine Tr.nil ?_
                        refine Tr.thenN ?_
                        refine Tr.seq ?_
                        refine Tr.region ?_
                        refine Tr.step rfl (Tr.val rfl rfl ?_)
                        refine Tr.step rfl (Tr.val rfl rfl ?_)
                        refine Tr.step rfl (Tr.val rfl rfl ?_)
                        refine Tr.step rfl (Tr.buildA #[.int .i64 2, .int .i64 3] F.und70 F.ty70 F.ty3 rfl (by kernel_rfl) rfl ?_)
                        refine Tr.step rfl (Tr.val rfl rfl ?_)
                        refine Tr.step rfl (Tr.yield (J' := J (((((((((((([] ++ [(0 : Fin 16)]) ++ [(1 : Fin 16)]) ++ [(2 : Fin 16)]) ++ [(3 : Fin 16)]) ++ [(4 : Fin 16)]) ++ [(5 : Fin 16)]) ++ [(6 : Fin 16)]) ++ [(7 : Fin 16)]) ++ [(8 : Fin 16)]) ++ [(9 : Fin 16)]) ++ [(10 : Fin 16)]) ++ [(11 : Fin 16)])) (Jx' := Jx (((((((((((([] ++ [(0 : Fin 16)]) ++ [(1 : Fin 16)]) ++ [(2 : Fin 16)]) ++ [(3 : Fin 16)]) ++ [(4 : Fin 16)]) ++ [(5 : Fin 16)]) ++ [(6 : Fin 16)]) ++ [(7 : Fin 16)]) ++ [(8 : Fin 16)]) ++ [(9 : Fin 16)]) ++ [(10 : Fin 16)]) ++ [(11 : Fin 16)])) (hJ _) (hJx _) rfl rfl rfl (fun w hw => hY ((((((((((([] ++ [(0 : Fin 16)]) ++ [(1 : Fin 16)]) ++ [(2 : Fin 16)]) ++ [(3 : Fin 16)]) ++ [(4 : Fin 16)]) ++ [(5 : Fin 16)]) ++ [(6 : Fin 16)]) ++ [(7 : Fin 16)]) ++ [(8 : Fin 16)]) ++ [(9 : Fin 16)]) ++ [(10 : Fin 16)]) (11 : Fin 16) w hw (by simp [all16])) ?_ (fun w' => ?_))
                        · skip
                          refine Tr.step rfl (Tr.valE (.bool false) rfl rfl rfl ?_)
                          refine Tr.nil ?_
                          refine Tr.thenN ?_
                          refine Tr.not rfl ?_
                          refine Tr.skip ?_
                          refine Tr.blockN ?_
                          refine Tr.thenN ?_
                          refine Tr.region ?_
                          refine Tr.step rfl (Tr.valE (.int .i64 4) rfl (rfl) rfl ?_)
                          refine Tr.step rfl (Tr.val rfl rfl ?_)
                          refine Tr.nil ?_
                          refine Tr.thenN ?_
                          refine Tr.sub (l' := [(12, .int .i64 4), (11, .agg #[.int .i64 (m 8), .int .i64 (m 9), .int .i64 (m 10), .int .i64 (m 11)]), (3, .int .i64 2), (6, .int .i64 2), (0, .func (.yield lp) #[] #[]), (1, .pointer (some ⟨b1, 0, none⟩))]) (h' := []) ?_ [] (by decide) rfl ⟨rfl, rfl, rfl, rfl, rfl, rfl, trivial⟩
                          refine Tr.roundU ?_
                          refine Tr.seq ?_
                          refine Tr.region ?_
                          refine Tr.step rfl (Tr.valE (.bool false) rfl rfl rfl ?_)
                          refine Tr.nil ?_
                          refine Tr.thenN ?_
                          refine Tr.seq ?_
                          refine Tr.not rfl ?_
                          refine Tr.exit ?_
                          refine Tr.thenE ?_
                          refine Tr.thenE ?_
                          refine Tr.blockHit ?_
                          refine Tr.blockN ?_
                          refine Tr.thenN ?_
                          refine Tr.region ?_
                          refine Tr.step rfl (Tr.valE (.int .i64 3) rfl (rfl) rfl ?_)
                          refine Tr.step rfl (Tr.val rfl rfl ?_)
                          refine Tr.nil ?_
                          refine Tr.thenN ?_
                          refine Tr.sub (l' := [(6, .int .i64 3), (0, .func (.yield lp) #[] #[]), (1, .pointer (some ⟨b1, 0, none⟩))]) (h' := []) ?_ [] (by decide) rfl ⟨rfl, rfl, rfl, trivial⟩
                          refine Tr.roundU ?_
                          refine Tr.seq ?_
                          refine Tr.region ?_
                          refine Tr.step rfl (Tr.valE (.bool true) rfl rfl rfl ?_)
                          refine Tr.nil ?_
                          refine Tr.thenN ?_
                          refine Tr.seq ?_
                          refine Tr.yes rfl ?_
                          refine Tr.skip ?_
                          refine Tr.thenN ?_
                          refine Tr.seq ?_
                          refine Tr.block ?_
                          refine Tr.seq ?_
                          refine Tr.region ?_
                          refine Tr.step rfl (Tr.val rfl rfl ?_)
                          refine Tr.step rfl (Tr.val rfl rfl ?_)
                          refine Tr.nil ?_
                          refine Tr.thenN ?_
                          refine Tr.seq ?_
                          refine Tr.region ?_
                          refine Tr.step rfl (Tr.val rfl rfl ?_)
                          refine Tr.step rfl (Tr.indexArr (o' := 12) F.arr25 rfl rfl (by decide) (by decide) (rfl) rfl ?_)
                          refine Tr.step rfl (Tr.loadN (vs := [.int .i64 (m 12), .int .i64 (m 13), .int .i64 (m 14), .int .i64 (m 15)]) F.ty23 rfl (q1.part (i := 12) (n := 4) (vs := [.int .i64 (m 0), .int .i64 (m 1), .int .i64 (m 2), .int .i64 (m 3), .int .i64 (m 4), .int .i64 (m 5), .int .i64 (m 6), .int .i64 (m 7), .int .i64 (m 8), .int .i64 (m 9), .int .i64 (m 10), .int .i64 (m 11), .int .i64 (m 12), .int .i64 (m 13), .int .i64 (m 14), .int .i64 (m 15)]) (fun h => h k1) rfl rfl) rfl rfl ?_)
                          refine Tr.step rfl (Tr.val rfl rfl ?_)
                          refine Tr.nil ?_
                          refine Tr.thenN ?_
                          refine Tr.block ?_
                          refine Tr.loopU ?_
                          refine Tr.sub (l' := [(12, .int .i64 0), (11, .agg #[.int .i64 (m 12), .int .i64 (m 13), .int .i64 (m 14), .int .i64 (m 15)]), (3, .int .i64 3), (6, .int .i64 3), (0, .func (.yield lp) #[] #[]), (1, .pointer (some ⟨b1, 0, none⟩))]) (h' := []) ?_ [] (by decide) rfl ⟨rfl, rfl, rfl, rfl, rfl, rfl, trivial⟩
                          refine Tr.roundU ?_
                          refine Tr.seq ?_
                          refine Tr.region ?_
                          refine Tr.step rfl (Tr.valE (.bool true) rfl rfl rfl ?_)
                          refine Tr.nil ?_
                          refine Tr.thenN ?_
                          refine Tr.seq ?_
                          refine Tr.yes rfl ?_
                          refine Tr.skip ?_
                          refine Tr.thenN ?_
                          refine Tr.seq ?_
                          refine Tr.block ?_
                          refine Tr.seq ?_
                          refine Tr.region ?_
                          refine Tr.step rfl (Tr.val rfl rfl ?_)
                          refine Tr.step rfl (Tr.indexVal F.und23 F.ty2 rfl rfl (by decide) (by decide) (rfl) rfl ?_)
                          refine Tr.step rfl (Tr.val rfl rfl ?_)
                          refine Tr.step rfl (Tr.val rfl rfl ?_)
                          refine Tr.nil ?_
                          refine Tr.thenN ?_
                          refine Tr.seq ?_
                          refine Tr.region ?_
                          refine Tr.step rfl (Tr.val rfl rfl ?_)
                          refine Tr.step rfl (Tr.val rfl rfl ?_)
                          refine Tr.step rfl (Tr.val rfl rfl ?_)
                          refine Tr.step rfl (Tr.buildA #[.int .i64 3, .int .i64 0] F.und70 F.ty70 F.ty3 rfl (by kernel_rfl) rfl ?_)
                          refine Tr.step rfl (Tr.val rfl rfl ?_)
                          refine Tr.step rfl (Tr.yield (J' := J ((((((((((((([] ++ [(0 : Fin 16)]) ++ [(1 : Fin 16)]) ++ [(2 : Fin 16)]) ++ [(3 : Fin 16)]) ++ [(4 : Fin 16)]) ++ [(5 : Fin 16)]) ++ [(6 : Fin 16)]) ++ [(7 : Fin 16)]) ++ [(8 : Fin 16)]) ++ [(9 : Fin 16)]) ++ [(10 : Fin 16)]) ++ [(11 : Fin 16)]) ++ [(12 : Fin 16)])) (Jx' := Jx ((((((((((((([] ++ [(0 : Fin 16)]) ++ [(1 : Fin 16)]) ++ [(2 : Fin 16)]) ++ [(3 : Fin 16)]) ++ [(4 : Fin 16)]) ++ [(5 : Fin 16)]) ++ [(6 : Fin 16)]) ++ [(7 : Fin 16)]) ++ [(8 : Fin 16)]) ++ [(9 : Fin 16)]) ++ [(10 : Fin 16)]) ++ [(11 : Fin 16)]) ++ [(12 : Fin 16)])) (hJ _) (hJx _) rfl rfl rfl (fun w hw => hY (((((((((((([] ++ [(0 : Fin 16)]) ++ [(1 : Fin 16)]) ++ [(2 : Fin 16)]) ++ [(3 : Fin 16)]) ++ [(4 : Fin 16)]) ++ [(5 : Fin 16)]) ++ [(6 : Fin 16)]) ++ [(7 : Fin 16)]) ++ [(8 : Fin 16)]) ++ [(9 : Fin 16)]) ++ [(10 : Fin 16)]) ++ [(11 : Fin 16)]) (12 : Fin 16) w hw (by simp [all16])) ?_ (fun w' => ?_))
                          · skip
                            refine Tr.step rfl (Tr.valE (.bool false) rfl rfl rfl ?_)
                            refine Tr.nil ?_
                            refine Tr.thenN ?_
                            refine Tr.not rfl ?_
                            refine Tr.skip ?_
                            refine Tr.blockN ?_
                            refine Tr.thenN ?_
                            refine Tr.region ?_
                            refine Tr.step rfl (Tr.valE (.int .i64 1) rfl (rfl) rfl ?_)
                            refine Tr.step rfl (Tr.val rfl rfl ?_)
                            refine Tr.nil ?_
                            refine Tr.thenN ?_
                            refine Tr.sub (l' := [(12, .int .i64 1), (11, .agg #[.int .i64 (m 12), .int .i64 (m 13), .int .i64 (m 14), .int .i64 (m 15)]), (3, .int .i64 3), (6, .int .i64 3), (0, .func (.yield lp) #[] #[]), (1, .pointer (some ⟨b1, 0, none⟩))]) (h' := []) ?_ [] (by decide) rfl ⟨rfl, rfl, rfl, rfl, rfl, rfl, trivial⟩
                            refine Tr.roundU ?_
                            refine Tr.seq ?_
                            refine Tr.region ?_
                            refine Tr.step rfl (Tr.valE (.bool true) rfl rfl rfl ?_)
                            refine Tr.nil ?_
                            refine Tr.thenN ?_
                            refine Tr.seq ?_
                            refine Tr.yes rfl ?_
                            refine Tr.skip ?_
                            refine Tr.thenN ?_
                            refine Tr.seq ?_
                            refine Tr.block ?_
                            refine Tr.seq ?_
                            refine Tr.region ?_
                            refine Tr.step rfl (Tr.val rfl rfl ?_)
                            refine Tr.step rfl (Tr.indexVal F.und23 F.ty2 rfl rfl (by decide) (by decide) (rfl) rfl ?_)
                            refine Tr.step rfl (Tr.val rfl rfl ?_)
                            refine Tr.step rfl (Tr.val rfl rfl ?_)
                            refine Tr.nil ?_
                            refine Tr.thenN ?_
                            refine Tr.seq ?_
                            refine Tr.region ?_
                            refine Tr.step rfl (Tr.val rfl rfl ?_)
                            refine Tr.step rfl (Tr.val rfl rfl ?_)
                            refine Tr.step rfl (Tr.val rfl rfl ?_)
                            refine Tr.step rfl (Tr.buildA #[.int .i64 3, .int .i64 1] F.und70 F.ty70 F.ty3 rfl (by kernel_rfl) rfl ?_)
                            refine Tr.step rfl (Tr.val rfl rfl ?_)
                            refine Tr.step rfl (Tr.yield (J' := J (((((((((((((([] ++ [(0 : Fin 16)]) ++ [(1 : Fin 16)]) ++ [(2 : Fin 16)]) ++ [(3 : Fin 16)]) ++ [(4 : Fin 16)]) ++ [(5 : Fin 16)]) ++ [(6 : Fin 16)]) ++ [(7 : Fin 16)]) ++ [(8 : Fin 16)]) ++ [(9 : Fin 16)]) ++ [(10 : Fin 16)]) ++ [(11 : Fin 16)]) ++ [(12 : Fin 16)]) ++ [(13 : Fin 16)])) (Jx' := Jx (((((((((((((([] ++ [(0 : Fin 16)]) ++ [(1 : Fin 16)]) ++ [(2 : Fin 16)]) ++ [(3 : Fin 16)]) ++ [(4 : Fin 16)]) ++ [(5 : Fin 16)]) ++ [(6 : Fin 16)]) ++ [(7 : Fin 16)]) ++ [(8 : Fin 16)]) ++ [(9 : Fin 16)]) ++ [(10 : Fin 16)]) ++ [(11 : Fin 16)]) ++ [(12 : Fin 16)]) ++ [(13 : Fin 16)])) (hJ _) (hJx _) rfl rfl rfl (fun w hw => hY ((((((((((((([] ++ [(0 : Fin 16)]) ++ [(1 : Fin 16)]) ++ [(2 : Fin 16)]) ++ [(3 : Fin 16)]) ++ [(4 : Fin 16)]) ++ [(5 : Fin 16)]) ++ [(6 : Fin 16)]) ++ [(7 : Fin 16)]) ++ [(8 : Fin 16)]) ++ [(9 : Fin 16)]) ++ [(10 : Fin 16)]) ++ [(11 : Fin 16)]) ++ [(12 : Fin 16)]) (13 : Fin 16) w hw (by simp [all16])) ?_ (fun w' => ?_))
                            · skip
                              refine Tr.step rfl (Tr.valE (.bool false) rfl rfl rfl ?_)
                              refine Tr.nil ?_
                              refine Tr.thenN ?_
                              refine Tr.not rfl ?_
                              refine Tr.skip ?_
                              refine Tr.blockN ?_
                              refine Tr.thenN ?_
                              refine Tr.region ?_
                              refine Tr.step rfl (Tr.valE (.int .i64 2) rfl (rfl) rfl ?_)
                              refine Tr.step rfl (Tr.val rfl rfl ?_)
                              refine Tr.nil ?_
                              refine Tr.thenN ?_
                              refine Tr.sub (l' := [(12, .int .i64 2), (11, .agg #[.int .i64 (m 12), .int .i64 (m 13), .int .i64 (m 14), .int .i64 (m 15)]), (3, .int .i64 3), (6, .int .i64 3), (0, .func (.yield lp) #[] #[]), (1, .pointer (some ⟨b1, 0, none⟩))]) (h' := []) ?_ [] (by decide) rfl ⟨rfl, rfl, rfl, rfl, rfl, rfl, trivial⟩
                              refine Tr.roundU ?_
                              refine Tr.seq ?_
                              refine Tr.region ?_
                              refine Tr.step rfl (Tr.valE (.bool true) rfl rfl rfl ?_)
                              refine Tr.nil ?_
                              refine Tr.thenN ?_
                              refine Tr.seq ?_
                              refine Tr.yes rfl ?_
                              refine Tr.skip ?_
                              refine Tr.thenN ?_
                              refine Tr.seq ?_
                              refine Tr.block ?_
                              refine Tr.seq ?_
                              refine Tr.region ?_
                              refine Tr.step rfl (Tr.val rfl rfl ?_)
                              refine Tr.step rfl (Tr.indexVal F.und23 F.ty2 rfl rfl (by decide) (by decide) (rfl) rfl ?_)
                              refine Tr.step rfl (Tr.val rfl rfl ?_)
                              refine Tr.step rfl (Tr.val rfl rfl ?_)
                              refine Tr.nil ?_
                              refine Tr.thenN ?_
                              refine Tr.seq ?_
                              refine Tr.region ?_
                              refine Tr.step rfl (Tr.val rfl rfl ?_)
                              refine Tr.step rfl (Tr.val rfl rfl ?_)
                              refine Tr.step rfl (Tr.val rfl rfl ?_)
                              refine Tr.step rfl (Tr.buildA #[.int .i64 3, .int .i64 2] F.und70 F.ty70 F.ty3 rfl (by kernel_rfl) rfl ?_)
                              refine Tr.step rfl (Tr.val rfl rfl ?_)
                              refine Tr.step rfl (Tr.yield (J' := J ((((((((((((((([] ++ [(0 : Fin 16)]) ++ [(1 : Fin 16)]) ++ [(2 : Fin 16)]) ++ [(3 : Fin 16)]) ++ [(4 : Fin 16)]) ++ [(5 : Fin 16)]) ++ [(6 : Fin 16)]) ++ [(7 : Fin 16)]) ++ [(8 : Fin 16)]) ++ [(9 : Fin 16)]) ++ [(10 : Fin 16)]) ++ [(11 : Fin 16)]) ++ [(12 : Fin 16)]) ++ [(13 : Fin 16)]) ++ [(14 : Fin 16)])) (Jx' := Jx ((((((((((((((([] ++ [(0 : Fin 16)]) ++ [(1 : Fin 16)]) ++ [(2 : Fin 16)]) ++ [(3 : Fin 16)]) ++ [(4 : Fin 16)]) ++ [(5 : Fin 16)]) ++ [(6 : Fin 16)]) ++ [(7 : Fin 16)]) ++ [(8 : Fin 16)]) ++ [(9 : Fin 16)]) ++ [(10 : Fin 16)]) ++ [(11 : Fin 16)]) ++ [(12 : Fin 16)]) ++ [(13 : Fin 16)]) ++ [(14 : Fin 16)])) (hJ _) (hJx _) rfl rfl rfl (fun w hw => hY (((((((((((((([] ++ [(0 : Fin 16)]) ++ [(1 : Fin 16)]) ++ [(2 : Fin 16)]) ++ [(3 : Fin 16)]) ++ [(4 : Fin 16)]) ++ [(5 : Fin 16)]) ++ [(6 : Fin 16)]) ++ [(7 : Fin 16)]) ++ [(8 : Fin 16)]) ++ [(9 : Fin 16)]) ++ [(10 : Fin 16)]) ++ [(11 : Fin 16)]) ++ [(12 : Fin 16)]) ++ [(13 : Fin 16)]) (14 : Fin 16) w hw (by simp [all16])) ?_ (fun w' => ?_))
                              · skip
                                refine Tr.step rfl (Tr.valE (.bool false) rfl rfl rfl ?_)
                                refine Tr.nil ?_
                                refine Tr.thenN ?_
                                refine Tr.not rfl ?_
                                refine Tr.skip ?_
                                refine Tr.blockN ?_
                                refine Tr.thenN ?_
                                refine Tr.region ?_
                                refine Tr.step rfl (Tr.valE (.int .i64 3) rfl (rfl) rfl ?_)
                                refine Tr.step rfl (Tr.val rfl rfl ?_)
                                refine Tr.nil ?_
                                refine Tr.thenN ?_
                                refine Tr.sub (l' := [(12, .int .i64 3), (11, .agg #[.int .i64 (m 12), .int .i64 (m 13), .int .i64 (m 14), .int .i64 (m 15)]), (3, .int .i64 3), (6, .int .i64 3), (0, .func (.yield lp) #[] #[]), (1, .pointer (some ⟨b1, 0, none⟩))]) (h' := []) ?_ [] (by decide) rfl ⟨rfl, rfl, rfl, rfl, rfl, rfl, trivial⟩
                                refine Tr.roundU ?_
                                refine Tr.seq ?_
                                refine Tr.region ?_
                                refine Tr.step rfl (Tr.valE (.bool true) rfl rfl rfl ?_)
                                refine Tr.nil ?_
                                refine Tr.thenN ?_
                                refine Tr.seq ?_
                                refine Tr.yes rfl ?_
                                refine Tr.skip ?_
                                refine Tr.thenN ?_
                                refine Tr.seq ?_
                                refine Tr.block ?_
                                refine Tr.seq ?_
                                refine Tr.region ?_
                                refine Tr.step rfl (Tr.val rfl rfl ?_)
                                refine Tr.step rfl (Tr.indexVal F.und23 F.ty2 rfl rfl (by decide) (by decide) (rfl) rfl ?_)
                                refine Tr.step rfl (Tr.val rfl rfl ?_)
                                refine Tr.step rfl (Tr.val rfl rfl ?_)
                                refine Tr.nil ?_
                                refine Tr.thenN ?_
                                refine Tr.seq ?_
                                refine Tr.region ?_
                                refine Tr.step rfl (Tr.val rfl rfl ?_)
                                refine Tr.step rfl (Tr.val rfl rfl ?_)
                                refine Tr.step rfl (Tr.val rfl rfl ?_)
                                refine Tr.step rfl (Tr.buildA #[.int .i64 3, .int .i64 3] F.und70 F.ty70 F.ty3 rfl (by kernel_rfl) rfl ?_)
                                refine Tr.step rfl (Tr.val rfl rfl ?_)
                                refine Tr.step rfl (Tr.yield (J' := J (((((((((((((((([] ++ [(0 : Fin 16)]) ++ [(1 : Fin 16)]) ++ [(2 : Fin 16)]) ++ [(3 : Fin 16)]) ++ [(4 : Fin 16)]) ++ [(5 : Fin 16)]) ++ [(6 : Fin 16)]) ++ [(7 : Fin 16)]) ++ [(8 : Fin 16)]) ++ [(9 : Fin 16)]) ++ [(10 : Fin 16)]) ++ [(11 : Fin 16)]) ++ [(12 : Fin 16)]) ++ [(13 : Fin 16)]) ++ [(14 : Fin 16)]) ++ [(15 : Fin 16)])) (Jx' := Jx (((((((((((((((([] ++ [(0 : Fin 16)]) ++ [(1 : Fin 16)]) ++ [(2 : Fin 16)]) ++ [(3 : Fin 16)]) ++ [(4 : Fin 16)]) ++ [(5 : Fin 16)]) ++ [(6 : Fin 16)]) ++ [(7 : Fin 16)]) ++ [(8 : Fin 16)]) ++ [(9 : Fin 16)]) ++ [(10 : Fin 16)]) ++ [(11 : Fin 16)]) ++ [(12 : Fin 16)]) ++ [(13 : Fin 16)]) ++ [(14 : Fin 16)]) ++ [(15 : Fin 16)])) (hJ _) (hJx _) rfl rfl rfl (fun w hw => hY ((((((((((((((([] ++ [(0 : Fin 16)]) ++ [(1 : Fin 16)]) ++ [(2 : Fin 16)]) ++ [(3 : Fin 16)]) ++ [(4 : Fin 16)]) ++ [(5 : Fin 16)]) ++ [(6 : Fin 16)]) ++ [(7 : Fin 16)]) ++ [(8 : Fin 16)]) ++ [(9 : Fin 16)]) ++ [(10 : Fin 16)]) ++ [(11 : Fin 16)]) ++ [(12 : Fin 16)]) ++ [(13 : Fin 16)]) ++ [(14 : Fin 16)]) (15 : Fin 16) w hw (by simp [all16])) ?_ (fun w' => ?_))
                                · skip
                                  refine Tr.step rfl (Tr.valE (.bool false) rfl rfl rfl ?_)
                                  refine Tr.nil ?_
                                  refine Tr.thenN ?_
                                  refine Tr.not rfl ?_
                                  refine Tr.skip ?_
                                  refine Tr.blockN ?_
                                  refine Tr.thenN ?_
                                  refine Tr.region ?_
                                  refine Tr.step rfl (Tr.valE (.int .i64 4) rfl (rfl) rfl ?_)
                                  refine Tr.step rfl (Tr.val rfl rfl ?_)
                                  refine Tr.nil ?_
                                  refine Tr.thenN ?_
                                  refine Tr.sub (l' := [(12, .int .i64 4), (11, .agg #[.int .i64 (m 12), .int .i64 (m 13), .int .i64 (m 14), .int .i64 (m 15)]), (3, .int .i64 3), (6, .int .i64 3), (0, .func (.yield lp) #[] #[]), (1, .pointer (some ⟨b1, 0, none⟩))]) (h' := []) ?_ [] (by decide) rfl ⟨rfl, rfl, rfl, rfl, rfl, rfl, trivial⟩
                                  refine Tr.roundU ?_
                                  refine Tr.seq ?_
                                  refine Tr.region ?_
                                  refine Tr.step rfl (Tr.valE (.bool false) rfl rfl rfl ?_)
                                  refine Tr.nil ?_
                                  refine Tr.thenN ?_
                                  refine Tr.seq ?_
                                  refine Tr.not rfl ?_
                                  refine Tr.exit ?_
                                  refine Tr.thenE ?_
                                  refine Tr.thenE ?_
                                  refine Tr.blockHit ?_
                                  refine Tr.blockN ?_
                                  refine Tr.thenN ?_
                                  refine Tr.region ?_
                                  refine Tr.step rfl (Tr.valE (.int .i64 4) rfl (rfl) rfl ?_)
                                  refine Tr.step rfl (Tr.val rfl rfl ?_)
                                  refine Tr.nil ?_
                                  refine Tr.thenN ?_
                                  refine Tr.sub (l' := [(6, .int .i64 4), (0, .func (.yield lp) #[] #[]), (1, .pointer (some ⟨b1, 0, none⟩))]) (h' := []) ?_ [] (by decide) rfl ⟨rfl, rfl, rfl, trivial⟩
                                  refine Tr.roundU ?_
                                  refine Tr.seq ?_
                                  refine Tr.region ?_
                                  refine Tr.step rfl (Tr.valE (.bool false) rfl rfl rfl ?_)
                                  refine Tr.nil ?_
                                  refine Tr.thenN ?_
                                  refine Tr.seq ?_
                                  refine Tr.not rfl ?_
                                  refine Tr.exit ?_
                                  refine Tr.thenE ?_
                                  refine Tr.thenE ?_
                                  refine Tr.blockHit ?_
                                  refine Tr.leaveN rfl rfl ?_
                                  exact Tr.itDone rfl (rfl)
                                · skip
                                  refine Tr.step rfl (Tr.valE (.bool true) rfl rfl rfl ?_)
                                  refine Tr.nil ?_
                                  refine Tr.thenN ?_
                                  refine Tr.yes rfl ?_
                                  refine Tr.ret ?_
                                  refine Tr.blockR ?_
                                  refine Tr.thenR ?_
                                  refine Tr.thenR ?_
                                  refine Tr.blockR ?_
                                  refine Tr.blockR ?_
                                  refine Tr.thenR ?_
                                  refine Tr.thenR ?_
                                  refine Tr.blockR ?_
                                  refine Tr.leave rfl rfl ?_
                                  exact Tr.itOver rfl (⟨[], rfl⟩)
                              · skip
                                refine Tr.step rfl (Tr.valE (.bool true) rfl rfl rfl ?_)
                                refine Tr.nil ?_
                                refine Tr.thenN ?_
                                refine Tr.yes rfl ?_
                                refine Tr.ret ?_
                                refine Tr.blockR ?_
                                refine Tr.thenR ?_
                                refine Tr.thenR ?_
                                refine Tr.blockR ?_
                                refine Tr.blockR ?_
                                refine Tr.thenR ?_
                                refine Tr.thenR ?_
                                refine Tr.blockR ?_
                                refine Tr.leave rfl rfl ?_
                                exact Tr.itOver rfl (⟨[15], rfl⟩)
                            · skip
                              refine Tr.step rfl (Tr.valE (.bool true) rfl rfl rfl ?_)
                              refine Tr.nil ?_
                              refine Tr.thenN ?_
                              refine Tr.yes rfl ?_
                              refine Tr.ret ?_
                              refine Tr.blockR ?_
                              refine Tr.thenR ?_
                              refine Tr.thenR ?_
                              refine Tr.blockR ?_
                              refine Tr.blockR ?_
                              refine Tr.thenR ?_
                              refine Tr.thenR ?_
                              refine Tr.blockR ?_
                              refine Tr.leave rfl rfl ?_
                              exact Tr.itOver rfl (⟨[14, 15], rfl⟩)
                          · skip
                            refine Tr.step rfl (Tr.valE (.bool true) rfl rfl rfl ?_)
                            refine Tr.nil ?_
                            refine Tr.thenN ?_
                            refine Tr.yes rfl ?_
                            refine Tr.ret ?_
                            refine Tr.blockR ?_
                            refine Tr.thenR ?_
                            refine Tr.thenR ?_
                            refine Tr.blockR ?_
                            refine Tr.blockR ?_
                            refine Tr.thenR ?_
                            refine Tr.thenR ?_
                            refine Tr.blockR ?_
                            refine Tr.leave rfl rfl ?_
                            exact Tr.itOver rfl (⟨[13, 14, 15], rfl⟩)
                        · skip
                          refine Tr.step rfl (Tr.valE (.bool true) rfl rfl rfl ?_)
                          refine Tr.nil ?_
                          refine Tr.thenN ?_
                          refine Tr.yes rfl ?_
                          refine Tr.ret ?_
                          refine Tr.blockR ?_
                          refine Tr.thenR ?_
                          refine Tr.thenR ?_
                          refine Tr.blockR ?_
                          refine Tr.blockR ?_
                          refine Tr.thenR ?_
                          refine Tr.thenR ?_
                          refine Tr.blockR ?_
                          refine Tr.leave rfl rfl ?_
                          exact Tr.itOver rfl (⟨[12, 13, 14, 15], rfl⟩)
                      · skip
                        refine Tr.step rfl (Tr.valE (.bool true) rfl rfl rfl ?_)
                        refine Tr.nil ?_
                        refine Tr.thenN ?_
                        refine Tr.yes rfl ?_
                        refine Tr.ret ?_
                        refine Tr.blockR ?_
                        refine Tr.thenR ?_
                        refine Tr.thenR ?_
                        refine Tr.blockR ?_
                        refine Tr.blockR ?_
                        refine Tr.thenR ?_
                        refine Tr.thenR ?_
                        refine Tr.blockR ?_
                        refine Tr.leave rfl rfl ?_
                        exact Tr.itOver rfl (⟨[11, 12, 13, 14, 15], rfl⟩)
                    · skip
                      refine Tr.step rfl (Tr.valE (.bool true) rfl rfl rfl ?_)
                      refine Tr.nil ?_
                      refine Tr.thenN ?_
                      refine Tr.yes rfl ?_
                      refine Tr.ret ?_
                      refine Tr.blockR ?_
                      refine Tr.thenR ?_
                      refine Tr.thenR ?_
                      refine Tr.blockR ?_
                      refine Tr.blockR ?_
                      refine Tr.thenR ?_
                      refine Tr.thenR ?_
                      refine Tr.blockR ?_
                      refine Tr.leave rfl rfl ?_
                      exact Tr.itOver rfl (⟨[10, 11, 12, 13, 14, 15], rfl⟩)
                  · skip
                    refine Tr.step rfl (Tr.valE (.bool true) rfl rfl rfl ?_)
                    refine Tr.nil ?_
                    refine Tr.thenN ?_
                    refine Tr.yes rfl ?_
                    refine Tr.ret ?_
                    refine Tr.blockR ?_
                    refine Tr.thenR ?_
                    refine Tr.thenR ?_
                    refine Tr.blockR ?_
                    refine Tr.blockR ?_
                    refine Tr.thenR ?_
                    refine Tr.thenR ?_
                    refine Tr.blockR ?_
                    refine Tr.leave rfl rfl ?_
                    exact Tr.itOver rfl (⟨[9, 10, 11, 12, 13, 14, 15], rfl⟩)
                · skip
                  refine Tr.step rfl (Tr.valE (.bool true) rfl rfl rfl ?_)
                  refine Tr.nil ?_
                  refine Tr.thenN ?_
                  refine Tr.yes rfl ?_
                  refine Tr.ret ?_
                  refine Tr.blockR ?_
                  refine Tr.thenR ?_
                  refine Tr.thenR ?_
                  refine Tr.blockR ?_
                  refine Tr.blockR ?_
                  refine Tr.thenR ?_
                  refine Tr.thenR ?_
                  refine Tr.blockR ?_
                  refine Tr.leave rfl rfl ?_
                  exact Tr.itOver rfl (⟨[8, 9, 10, 11, 12, 13, 14, 15], rfl⟩)
              · skip
                refine Tr.step rfl (Tr.valE (.bool true) rfl rfl rfl ?_)
                refine Tr.nil ?_
                refine Tr.thenN ?_
                refine Tr.yes rfl ?_
                refine Tr.ret ?_
                refine Tr.blockR ?_
                refine Tr.thenR ?_
                refine Tr.thenR ?_
                refine Tr.blockR ?_
                refine Tr.blockR ?_
                refine Tr.thenR ?_
                refine Tr.thenR ?_
                refine Tr.blockR ?_
                refine Tr.leave rfl rfl ?_
                exact Tr.itOver rfl (⟨[7, 8, 9, 10, 11, 12, 13, 14, 15], rfl⟩)
            · skip
              refine Tr.step rfl (Tr.valE (.bool true) rfl rfl rfl ?_)
              refine Tr.nil ?_
              refine Tr.thenN ?_
              refine Tr.yes rfl ?_
              refine Tr.ret ?_
              refine Tr.blockR ?_
              refine Tr.thenR ?_
              refine Tr.thenR ?_
              refine Tr.blockR ?_
              refine Tr.blockR ?_
              refine Tr.thenR ?_
              refine Tr.thenR ?_
              refine Tr.blockR ?_
              refine Tr.leave rfl rfl ?_
              exact Tr.itOver rfl (⟨[6, 7, 8, 9, 10, 11, 12, 13, 14, 15], rfl⟩)
          · skip
            refine Tr.step rfl (Tr.valE (.bool true) rfl rfl rfl ?_)
            refine Tr.nil ?_
            refine Tr.thenN ?_
            refine Tr.yes rfl ?_
            refine Tr.ret ?_
            refine Tr.blockR ?_
            refine Tr.thenR ?_
            refine Tr.thenR ?_
            refine Tr.blockR ?_
            refine Tr.blockR ?_
            refine Tr.thenR ?_
            refine Tr.thenR ?_
            refine Tr.blockR ?_
            refine Tr.leave rfl rfl ?_
            exact Tr.itOver rfl (⟨[5, 6, 7, 8, 9, 10, 11, 12, 13, 14, 15], rfl⟩)
        · skip
          refine Tr.step rfl (Tr.valE (.bool true) rfl rfl rfl ?_)
          refine Tr.nil ?_
          refine Tr.thenN ?_
          refine Tr.yes rfl ?_
          refine Tr.ret ?_
          refine Tr.blockR ?_
          refine Tr.thenR ?_
          refine Tr.thenR ?_
          refine Tr.blockR ?_
          refine Tr.blockR ?_
          refine Tr.thenR ?_
          refine Tr.thenR ?_
          refine Tr.blockR ?_
          refine Tr.leave rfl rfl ?_
          exact Tr.itOver rfl (⟨[4, 5, 6, 7, 8, 9, 10, 11, 12, 13, 14, 15], rfl⟩)
      · skip
        refine Tr.step rfl (Tr.valE (.bool true) rfl rfl rfl ?_)
        refine Tr.nil ?_
        refine Tr.thenN ?_
        refine Tr.yes rfl ?_
        refine Tr.ret ?_
        refine Tr.blockR ?_
        refine Tr.thenR ?_
        refine Tr.thenR ?_
        refine Tr.blockR ?_
        refine Tr.blockR ?_
        refine Tr.thenR ?_
        refine Tr.thenR ?_
        refine Tr.blockR ?_
        refine Tr.leave rfl rfl ?_
        exact Tr.itOver rfl (⟨[3, 4, 5, 6, 7, 8, 9, 10, 11, 12, 13, 14, 15], rfl⟩)
    · skip
      refine Tr.step rfl (Tr.valE (.bool true) rfl rfl rfl ?_)
      refine Tr.nil ?_
      refine Tr.thenN ?_
      refine Tr.yes rfl ?_
      refine Tr.ret ?_
      refine Tr.blockR ?_
      refine Tr.thenR ?_
      refine Tr.thenR ?_
      refine Tr.blockR ?_
      refine Tr.blockR ?_
      refine Tr.thenR ?_
      refine Tr.thenR ?_
      refine Tr.blockR ?_
      refine Tr.leave rfl rfl ?_
      exact Tr.itOver rfl (⟨[2, 3, 4, 5, 6, 7, 8, 9, 10, 11, 12, 13, 14, 15], rfl⟩)
  · skip
    refine Tr.step rfl (Tr.valE (.bool true) rfl rfl rfl ?_)
    refine Tr.nil ?_
    refine Tr.thenN ?_
    refine Tr.yes rfl ?_
    refine Tr.ret ?_
    refine Tr.blockR ?_
    refine Tr.thenR ?_
    refine Tr.thenR ?_
    refine Tr.blockR ?_
    refine Tr.blockR ?_
    refine Tr.thenR ?_
    refine Tr.thenR ?_
    refine Tr.blockR ?_
    refine Tr.leave rfl rfl ?_
    exact Tr.itOver rfl (⟨[1, 2, 3, 4, 5, 6, 7, 8, 9, 10, 11, 12, 13, 14, 15], rfl⟩)

set_option maxRecDepth 100000 in
set_option maxHeartbeats 4000000 in
theorem check_n (m : Nat → Int) (bd : Int) (hb0 : 0 ≤ bd) (hb1 : bd ≤ 4611686018427387904) (w : World) : Calls Tryd.prog 19 #[mv m, .int .i64 bd] w (Gives (.int .i64 (ckE bd m all16)) w) := by
  refine calls_enter No Tryd.func19 rfl rfl rfl rfl ?_
  refine Tr.seq ?_
  refine Tr.region ?_
  refine Tr.step rfl (Tr.box rfl rfl rfl ?_)
  rintro u1
  refine Tr.step rfl (Tr.box rfl rfl rfl ?_)
  rintro u2
  refine Tr.step rfl (Tr.val rfl rfl ?_)
  refine Tr.nil ?_
  refine Tr.thenN ?_
  refine Tr.scope ?_
  refine Tr.seq ?_
  refine Tr.region ?_
  refine Tr.step rfl (Tr.alloc F.ty42 rfl rfl ?_)
  rintro u3
  refine Tr.step rfl (Tr.store 0 F.ty42 rfl rfl rfl rfl rfl rfl rfl rfl rfl rfl ?_)
  refine Tr.nil ?_
  refine Tr.thenN ?_
  refine Tr.seq ?_
  refine Tr.label ?_
  refine Tr.thenN ?_
  refine Tr.seq ?_
  refine Tr.seq ?_
  refine Tr.region ?_
  refine Tr.step rfl (Tr.loadN (vs := [.int .i64 (m 0), .int .i64 (m 1), .int .i64 (m 2), .int .i64 (m 3), .int .i64 (m 4), .int .i64 (m 5), .int .i64 (m 6), .int .i64 (m 7), .int .i64 (m 8), .int .i64 (m 9), .int .i64 (m 10), .int .i64 (m 11), .int .i64 (m 12), .int .i64 (m 13), .int .i64 (m 14), .int .i64 (m 15)]) F.ty25 rfl (Cells.own 2 16 rfl rfl) rfl rfl ?_)
  refine Tr.step rfl (Tr.callX (X := Nat) (fun p1 => .func (.func 30) #[] #[.pointer (some ⟨p1, 0, none⟩)]) (fun p1 => [(p1, .cells #[.int .i64 (m 0), .int .i64 (m 1), .int .i64 (m 2), .int .i64 (m 3), .int .i64 (m 4), .int .i64 (m 5), .int .i64 (m 6), .int .i64 (m 7), .int .i64 (m 8), .int .i64 (m 9), .int .i64 (m 10), .int .i64 (m 11), .int .i64 (m 12), .int .i64 (m 13), .int .i64 (m 14), .int .i64 (m 15)] 25)]) (fun p1 => True) F.en25 rfl (fun w hw => (numbers_any m w).mono fun e w1 ⟨x, q⟩ => ⟨x, q.1, q.2.1, q.2.2, trivial⟩) rfl ?_)
  rintro p1 _
  refine Tr.nil ?_
  refine Tr.thenN ?_
  refine Tr.block ?_
  refine Tr.sub (l' := [(9, .func (.func 30) #[] #[.pointer (some ⟨p1, 0, none⟩)]), (5, .pointer (some ⟨u3, 0, none⟩)), (3, .pointer (some ⟨u2, 0, none⟩))]) (h' := [(p1, .cells #[.int .i64 (m 0), .int .i64 (m 1), .int .i64 (m 2), .int .i64 (m 3), .int .i64 (m 4), .int .i64 (m 5), .int .i64 (m 6), .int .i64 (m 7), .int .i64 (m 8), .int .i64 (m 9), .int .i64 (m 10), .int .i64 (m 11), .int .i64 (m 12), .int .i64 (m 13), .int .i64 (m 14), .int .i64 (m 15)] 25), (u3, .cells #[.int .i64 0] 42), (u2, .cells #[.int .i64 bd] 2), (u1, .cells #[.int .i64 (m 0), .int .i64 (m 1), .int .i64 (m 2), .int .i64 (m 3), .int .i64 (m 4), .int .i64 (m 5), .int .i64 (m 6), .int .i64 (m 7), .int .i64 (m 8), .int .i64 (m 9), .int .i64 (m 10), .int .i64 (m 11), .int .i64 (m 12), .int .i64 (m 13), .int .i64 (m 14), .int .i64 (m 15)] 25)]) ?_ [0, 1, 2, 3] (by decide) rfl ⟨rfl, rfl, rfl, trivial⟩
  refine Tr.range (α := Fin 16) (Y := Unit) (encs := fun x => #[.agg #[.int .i64 ((x.1 / 4 : Nat) : Int), .int .i64 ((x.1 % 4 : Nat) : Int)], .int .i64 (m x.1)]) all16 rfl (fun _ => trivial) rfl F.en30 (fun _ => rfl) rfl (fun pre => [(u3, .cells #[.int .i64 (ckE bd m pre)] 42)]) [(p1, .cells #[.int .i64 (m 0), .int .i64 (m 1), .int .i64 (m 2), .int .i64 (m 3), .int .i64 (m 4), .int .i64 (m 5), .int .i64 (m 6), .int .i64 (m 7), .int .i64 (m 8), .int .i64 (m 9), .int .i64 (m 10), .int .i64 (m 11), .int .i64 (m 12), .int .i64 (m 13), .int .i64 (m 14), .int .i64 (m 15)] 25), (u2, .cells #[.int .i64 bd] 2), (u1, .cells #[.int .i64 (m 0), .int .i64 (m 1), .int .i64 (m 2), .int .i64 (m 3), .int .i64 (m 4), .int .i64 (m 5), .int .i64 (m 6), .int .i64 (m 7), .int .i64 (m 8), .int .i64 (m 9), .int .i64 (m 10), .int .i64 (m 11), .int .i64 (m 12), .int .i64 (m 13), .int .i64 (m 14), .int .i64 (m 15)] 25)] [u3] (fun _ pre => [(u3, .cells #[.int .i64 30] 42)]) (fun e pre => e = .exit 0 ∧ ∃ x ∈ pre, ¬ (-bd ≤ m x.1 ∧ m x.1 ≤ bd)) (fun pre => True) (trivial) (fun _ => rfl) (fun _ _ => rfl) (fun _ => rfl) (fun w hw => numbers_iter p1 m w _ (fun _ h => h.1) (hw.keep 0 [1] rfl rfl rfl) (hw.get (k := 0) rfl)) [1, 0, 2, 3] (by decide) (rfl) (fun x _ => [(7, .int .i64 (m x.1)), (5, .pointer (some ⟨u3, 0, none⟩)), (3, .pointer (some ⟨u2, 0, none⟩))]) (fun x _ => []) (fun _ _ => rfl) ?_ ?_ ?_ ?_
  · rintro lp pre x W hI
    refine Tr.region ?_
    refine Tr.step rfl (Tr.val rfl rfl ?_)
    refine Tr.nil ?_
    exact Tr.assigned () rfl [0, 1, 2, 3] (by decide) rfl ⟨rfl, rfl, rfl, trivial⟩ rfl
  · rintro lp pre x _ W hI hlen hΦ
    refine Tr.block ?_
    refine Tr.seq ?_
    refine Tr.region ?_
    refine Tr.step rfl (Tr.load1 F.ty2 rfl (Cell.own 2 rfl rfl) rfl ?_)
    refine Tr.step rfl (Tr.val rfl rfl ?_)
    refine Tr.step rfl (Tr.val rfl rfl ?_)
    refine Tr.decide 14 rfl (fun h1 => ?_) (fun h1 => ?_)
    · replace h1 := dT h1
      exfalso; omega
    · replace h1 := dF h1
      refine Tr.known 13 false rfl (by exact decide_eq_false h1) ?_
      refine Tr.stepYes rfl rfl rfl rfl (Tr.val rfl rfl ?_)
      refine Tr.stepYes rfl rfl rfl rfl (Tr.load1 F.ty2 rfl (Cell.own 2 rfl rfl) rfl ?_)
      refine Tr.stepYes rfl rfl rfl rfl (Tr.valE (.int .i64 (-bd)) rfl (vint ((congrArg _ (Int.zero_sub _)).trans (w_i64 (by omega) (by omega)))) rfl ?_)
      refine Tr.stepYes rfl rfl rfl rfl (Tr.val rfl rfl ?_)
      refine Tr.step rfl (Tr.val rfl rfl ?_)
      refine Tr.step rfl (Tr.val rfl rfl ?_)
      refine Tr.decide 20 rfl (fun h2 => ?_) (fun h2 => ?_)
      · replace h2 := dT h2
        refine Tr.known 19 true rfl (by exact decide_eq_true h2) ?_
        refine Tr.known 18 true rfl (by exact decide_eq_true h2) ?_
        refine Tr.stepNo rfl rfl rfl rfl rfl rfl ?_
        refine Tr.stepNo rfl rfl rfl rfl rfl rfl ?_
        refine Tr.stepNo rfl rfl rfl rfl rfl rfl ?_
        refine Tr.step rfl (Tr.val rfl rfl ?_)
        refine Tr.nil ?_
        refine Tr.thenN ?_
        refine Tr.yes rfl ?_
        refine Tr.seq ?_
        refine Tr.region ?_
        refine Tr.step rfl (Tr.store 0 F.ty42 rfl rfl rfl rfl rfl rfl rfl rfl rfl rfl ?_)
        refine Tr.nil ?_
        refine Tr.thenN ?_
        refine Tr.exit ?_
        refine Tr.blockMiss rfl ?_
        exact Tr.roundE (⟨rfl, x, by simp, by omega⟩) [0, 1, 2, 3] (by decide) (rfl)
      · replace h2 := dF h2
        refine Tr.known 19 false rfl (by exact decide_eq_false h2) ?_
        refine Tr.known 18 false rfl (by exact decide_eq_false h2) ?_
        refine Tr.stepYes rfl rfl rfl rfl (Tr.val rfl rfl ?_)
        refine Tr.stepYes rfl rfl rfl rfl (Tr.load1 F.ty2 rfl (Cell.own 2 rfl rfl) rfl ?_)
        refine Tr.stepYes rfl rfl rfl rfl (Tr.val rfl rfl ?_)
        refine Tr.step rfl (Tr.val rfl rfl ?_)
        refine Tr.nil ?_
        refine Tr.thenN ?_
        refine Tr.decide 24 rfl (fun h3 => ?_) (fun h3 => ?_)
        · replace h3 := dT h3
          refine Tr.known 23 true rfl (by exact decide_eq_true h3) ?_
          refine Tr.yes rfl ?_
          refine Tr.seq ?_
          refine Tr.region ?_
          refine Tr.step rfl (Tr.store 0 F.ty42 rfl rfl rfl rfl rfl rfl rfl rfl rfl rfl ?_)
          refine Tr.nil ?_
          refine Tr.thenN ?_
          refine Tr.exit ?_
          refine Tr.blockMiss rfl ?_
          exact Tr.roundE (⟨rfl, x, by simp, by omega⟩) [0, 1, 2, 3] (by decide) (rfl)
        · replace h3 := dF h3
          refine Tr.known 23 false rfl (by exact decide_eq_false h3) ?_
          refine Tr.not rfl ?_
          refine Tr.skip ?_
          refine Tr.blockN ?_
          exact Tr.roundN (trivial) [0, 1, 2, 3] (by decide) (by rw [ckE_snoc _ _ _ _ (by omega)]; rfl)
  · rintro hP1 D1
    refine Tr.blockN ?_
    refine Tr.thenN ?_
    refine Tr.seq ?_
    refine Tr.region ?_
    refine Tr.step rfl (Tr.load1 F.ty42 rfl (Cell.own 1 rfl rfl) rfl ?_)
    refine Tr.step rfl (Tr.val rfl rfl ?_)
    refine Tr.nil ?_
    refine Tr.thenN ?_
    refine Tr.ret ?_
    refine Tr.scopeR ?_
    refine Tr.leaveD [(0, D1)] rfl rfl ⟨rfl, trivial⟩ (fun _ => trivial) ?_
    refine Tr.res1 rfl (RsV.tmp rfl) (fun w hw => ?_)
    exact ⟨rfl, hw.fm⟩
  · rintro D1 e pre hpre hJ
    obtain ⟨rfl, y, hy1, hy2⟩ := hJ
    refine Tr.exit ?_
    refine Tr.blockHit ?_
    refine Tr.thenN ?_
    refine Tr.seq ?_
    refine Tr.region ?_
    refine Tr.step rfl (Tr.load1 F.ty42 rfl (Cell.own 1 rfl rfl) rfl ?_)
    refine Tr.step rfl (Tr.val rfl rfl ?_)
    refine Tr.nil ?_
    refine Tr.thenN ?_
    refine Tr.ret ?_
    refine Tr.scopeR ?_
    refine Tr.leaveD [(0, D1)] rfl rfl ⟨rfl, trivial⟩ (fun _ => trivial) ?_
    refine Tr.res1 rfl (RsV.tmp rfl) (fun w hw => ?_)
    exact ⟨by rw [ckE_bad bd m pre hpre y hy1 hy2]; rfl, hw.fm⟩

end Go.Proofs.YtfcbdjjpmgmpoaaDoor

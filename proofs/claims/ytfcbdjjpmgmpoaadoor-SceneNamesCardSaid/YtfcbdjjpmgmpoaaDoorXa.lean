/- Contracts of matrix' functions: Across, Apply, Mul, Scale, Identity. -/
import Derived.Test.YtfcbdjjpmgmpoaaDoorWz
namespace Go.Proofs.YtfcbdjjpmgmpoaaDoor
open Go.RowKit Go.Mat Go.Ka Go.Proofs
attribute [local irreducible] Tr

/-- What Across holds when some numbers have come. -/
def outL (m : Nat → Int) (pre : List (Fin 16)) : List Value := pre.foldl (fun l x => l.set (x.1 % 4 * 4 + x.1 / 4) (.int .i64 (m x.1))) (List.replicate 16 (.int .i64 0))
theorem outL_len (m : Nat → Int) (pre : List (Fin 16)) : (outL m pre).length = 16 := by
  unfold outL
  suffices h : ∀ (l : List Value), (pre.foldl (fun l x => l.set (x.1 % 4 * 4 + x.1 / 4) (.int .i64 (m x.1))) l).length = l.length by rw [h]; rfl
  induction pre with
  | nil => intro l; rfl
  | cons x pre ih => intro l; rw [List.foldl_cons, ih]; simp
theorem out_ble (m : Nat → Int) (pre : List (Fin 16)) (x : Fin 16) : Nat.ble (x.1 % 4 * 4 + x.1 / 4 + [Value.int .i64 (m x.1)].length) (outL m pre).toArray.size = true := by
  have := outL_len m pre
  have := x.2
  simp; omega
theorem out_step (m : Nat → Int) (pre : List (Fin 16)) (x : Fin 16) : (outL m pre).toArray.toList.take (x.1 % 4 * 4 + x.1 / 4) ++ ([.int .i64 (m x.1)] ++ (outL m pre).toArray.toList.drop (x.1 % 4 * 4 + x.1 / 4 + [Value.int .i64 (m x.1)].length)) = outL m (pre ++ [x]) := by
  have hl := outL_len m pre
  have hx := x.2
  have e : outL m (pre ++ [x]) = (outL m pre).set (x.1 % 4 * 4 + x.1 / 4) (.int .i64 (m x.1)) := by simp [outL]
  rw [e, List.set_eq_take_append_cons_drop, if_pos (by omega)]
  simp
/-- A vector as a matrix. -/
def vmat (v : Nat → Int) : Nat → Int
  | 0 => v 0 | 1 => v 1 | 2 => v 2 | 3 => v 3 | _ => 0
/-- A row by a vector. -/
def rowD (m v : Nat → Int) (r : Nat) : Int := m (4 * r) * v 0 + m (4 * r + 1) * v 1 + m (4 * r + 2) * v 2 + m (4 * r + 3) * v 3
def applyE (m v : Nat → Int) : Int :=
  if ckE 4611686018427387904 m all16 = 0 ∧ ckE 4611686018427387904 (vmat v) all16 = 0 then
    if sumE (rowD m v 0) = 0 then if sumE (rowD m v 1) = 0 then if sumE (rowD m v 2) = 0 then sumE (rowD m v 3) else sumE (rowD m v 2) else sumE (rowD m v 1) else sumE (rowD m v 0)
  else 30
def applyN (m v : Nat → Int) (r : Nat) : Int := if applyE m v = 0 then sumN (rowD m v r) else 0
def col (b : Nat → Int) (j : Nat) : Nat → Int := fun i => b (4 * i + j)
def mulE (a b : Nat → Int) : Int :=
  if applyE a (col b 0) = 0 then if applyE a (col b 1) = 0 then if applyE a (col b 2) = 0 then applyE a (col b 3) else applyE a (col b 2) else applyE a (col b 1) else applyE a (col b 0)
def mulN (a b : Nat → Int) (i : Nat) : Int := if mulE a b = 0 then applyN a (col b (i % 4)) (i / 4) else 0

theorem F.arr70 : arr Tryd.prog 70 = some (2, 1) := by kernel_rfl
theorem F.en19 : Enters Tryd.prog 19 := enters_of Tryd.func19 (by kernel_rfl) rfl
theorem F.und25 : Tryd.prog.underlying 25 = some (.array 4 23) := by kernel_rfl
theorem F.en28 : Enters Tryd.prog 28 := enters_of Tryd.func28 (by kernel_rfl) rfl
theorem F.en21 : Enters Tryd.prog 21 := enters_of Tryd.func21 (by kernel_rfl) rfl
theorem F.en22 : Enters Tryd.prog 22 := enters_of Tryd.func22 (by kernel_rfl) rfl
theorem F.en5 : Enters Tryd.prog 5 := enters_of Tryd.func5 (by kernel_rfl) rfl
set_option maxRecDepth 100000 in
set_option maxHeartbeats 4000000 in
theorem across_n (m : Nat → Int) (w : World) : Calls Tryd.prog 21 #[mv m] w (Gives (.agg #[.int .i64 (m 0), .int .i64 (m 4), .int .i64 (m 8), .int .i64 (m 12), .int .i64 (m 1), .int .i64 (m 5), .int .i64 (m 9), .int .i64 (m 13), .int .i64 (m 2), .int .i64 (m 6), .int .i64 (m 10), .int .i64 (m 14), .int .i64 (m 3), .int .i64 (m 7), .int .i64 (m 11), .int .i64 (m 15)]) w) := by
  refine calls_enter No Tryd.func21 rfl rfl rfl rfl ?_
  refine Tr.seq ?_
  refine Tr.region ?_
  refine Tr.step rfl (Tr.box rfl rfl rfl ?_)
  rintro u1
  refine Tr.step rfl (Tr.alloc F.ty25 rfl rfl ?_)
  rintro u2
  refine Tr.nil ?_
  refine Tr.thenN ?_
  refine Tr.seq ?_
  refine Tr.region ?_
  refine Tr.step rfl (Tr.alloc F.ty25 rfl rfl ?_)
  rintro u3
  refine Tr.nil ?_
  refine Tr.thenN ?_
  refine Tr.seq ?_
  refine Tr.seq ?_
  refine Tr.region ?_
  refine Tr.step rfl (Tr.loadN (vs := [.int .i64 (m 0), .int .i64 (m 1), .int .i64 (m 2), .int .i64 (m 3), .int .i64 (m 4), .int .i64 (m 5), .int .i64 (m 6), .int .i64 (m 7), .int .i64 (m 8), .int .i64 (m 9), .int .i64 (m 10), .int .i64 (m 11), .int .i64 (m 12), .int .i64 (m 13), .int .i64 (m 14), .int .i64 (m 15)]) F.ty25 rfl (Cells.own 2 16 rfl rfl) rfl rfl ?_)
  refine Tr.step rfl (Tr.callX (X := Nat) (fun p1 => .func (.func 30) #[] #[.pointer (some ⟨p1, 0, none⟩)]) (fun p1 => [(p1, .cells #[.int .i64 (m 0), .int .i64 (m 1), .int .i64 (m 2), .int .i64 (m 3), .int .i64 (m 4), .int .i64 (m 5), .int .i64 (m 6), .int .i64 (m 7), .int .i64 (m 8), .int .i64 (m 9), .int .i64 (m 10), .int .i64 (m 11), .int .i64 (m 12), .int .i64 (m 13), .int .i64 (m 14), .int .i64 (m 15)] 25)]) (fun p1 => True) F.en25 rfl (fun w hw => (numbers_any m w).mono fun e w1 ⟨x, q⟩ => ⟨x, q.1, q.2.1, q.2.2, trivial⟩) rfl ?_)
  rintro p1 _
  refine Tr.nil ?_
  refine Tr.thenN ?_
  refine Tr.block ?_
  refine Tr.sub (l' := [(7, .func (.func 30) #[] #[.pointer (some ⟨p1, 0, none⟩)]), (3, .pointer (some ⟨u3, 0, none⟩)), (2, .pointer (some ⟨u2, 0, none⟩))]) (h' := [(p1, .cells #[.int .i64 (m 0), .int .i64 (m 1), .int .i64 (m 2), .int .i64 (m 3), .int .i64 (m 4), .int .i64 (m 5), .int .i64 (m 6), .int .i64 (m 7), .int .i64 (m 8), .int .i64 (m 9), .int .i64 (m 10), .int .i64 (m 11), .int .i64 (m 12), .int .i64 (m 13), .int .i64 (m 14), .int .i64 (m 15)] 25), (u3, .cells #[.int .i64 0, .int .i64 0, .int .i64 0, .int .i64 0, .int .i64 0, .int .i64 0, .int .i64 0, .int .i64 0, .int .i64 0, .int .i64 0, .int .i64 0, .int .i64 0, .int .i64 0, .int .i64 0, .int .i64 0, .int .i64 0] 25), (u2, .cells #[.int .i64 0, .int .i64 0, .int .i64 0, .int .i64 0, .int .i64 0, .int .i64 0, .int .i64 0, .int .i64 0, .int .i64 0, .int .i64 0, .int .i64 0, .int .i64 0, .int .i64 0, .int .i64 0, .int .i64 0, .int .i64 0] 25), (u1, .cells #[.int .i64 (m 0), .int .i64 (m 1), .int .i64 (m 2), .int .i64 (m 3), .int .i64 (m 4), .int .i64 (m 5), .int .i64 (m 6), .int .i64 (m 7), .int .i64 (m 8), .int .i64 (m 9), .int .i64 (m 10), .int .i64 (m 11), .int .i64 (m 12), .int .i64 (m 13), .int .i64 (m 14), .int .i64 (m 15)] 25)]) ?_ [0, 1, 2, 3] (by decide) rfl ⟨rfl, rfl, rfl, trivial⟩
  refine Tr.range (α := Fin 16) (Y := Nat) (encs := fun x => #[.agg #[.int .i64 ((x.1 / 4 : Nat) : Int), .int .i64 ((x.1 % 4 : Nat) : Int)], .int .i64 (m x.1)]) all16 rfl (fun _ => trivial) rfl F.en30 (fun _ => rfl) rfl (fun pre => [(u3, .cells (outL m pre).toArray 25)]) [(p1, .cells #[.int .i64 (m 0), .int .i64 (m 1), .int .i64 (m 2), .int .i64 (m 3), .int .i64 (m 4), .int .i64 (m 5), .int .i64 (m 6), .int .i64 (m 7), .int .i64 (m 8), .int .i64 (m 9), .int .i64 (m 10), .int .i64 (m 11), .int .i64 (m 12), .int .i64 (m 13), .int .i64 (m 14), .int .i64 (m 15)] 25), (u2, .cells #[.int .i64 0, .int .i64 0, .int .i64 0, .int .i64 0, .int .i64 0, .int .i64 0, .int .i64 0, .int .i64 0, .int .i64 0, .int .i64 0, .int .i64 0, .int .i64 0, .int .i64 0, .int .i64 0, .int .i64 0, .int .i64 0] 25), (u1, .cells #[.int .i64 (m 0), .int .i64 (m 1), .int .i64 (m 2), .int .i64 (m 3), .int .i64 (m 4), .int .i64 (m 5), .int .i64 (m 6), .int .i64 (m 7), .int .i64 (m 8), .int .i64 (m 9), .int .i64 (m 10), .int .i64 (m 11), .int .i64 (m 12), .int .i64 (m 13), .int .i64 (m 14), .int .i64 (m 15)] 25)] [u3] (fun _ pre => [(u3, .cells (outL m pre).toArray 25)]) (fun e pre => False) (fun pre => True) (trivial) (fun _ => rfl) (fun _ _ => rfl) (fun _ => rfl) (fun w hw => numbers_iter p1 m w _ (fun _ h => h.1) (hw.keep 0 [1] rfl rfl rfl) (hw.get (k := 0) rfl)) [1, 0, 2, 3] (by decide) (rfl) (fun x u4 => [(5, .int .i64 (m x.1)), (4, .pointer (some ⟨u4, 0, none⟩)), (3, .pointer (some ⟨u3, 0, none⟩))]) (fun x u4 => [(u4, .cells #[.int .i64 ((x.1 / 4 : Nat) : Int), .int .i64 ((x.1 % 4 : Nat) : Int)] 70)]) (fun _ _ => rfl) ?_ ?_ ?_ ?_
  · rintro lp pre x W hI
    refine Tr.seq ?_
    refine Tr.region ?_
    refine Tr.step rfl (Tr.alloc F.ty70 rfl rfl ?_)
    rintro u4
    refine Tr.step rfl (Tr.store 0 F.ty70 rfl rfl rfl rfl rfl rfl rfl rfl rfl rfl ?_)
    refine Tr.nil ?_
    refine Tr.thenN ?_
    refine Tr.region ?_
    refine Tr.step rfl (Tr.val rfl rfl ?_)
    refine Tr.nil ?_
    exact Tr.assigned (u4) rfl [0, 1, 2, 3, 4] (by decide) rfl ⟨rfl, rfl, rfl, trivial⟩ rfl
  · rintro lp pre x u4 W hI hlen hΦ
    refine Tr.block ?_
    refine Tr.drawG (Y := Unit) (fun _ => [(16, .pointer (some ⟨u3, (x.1 % 4 * 4 + x.1 / 4), none⟩)), (15, .pointer (some ⟨u3, (x.1 % 4 * 4), none⟩)), (14, .int .i64 (m x.1)), (13, .int .i64 ((x.1 / 4 : Nat) : Int)), (12, .pointer (some ⟨u4, 0, none⟩)), (11, .int .i64 ((x.1 % 4 : Nat) : Int)), (10, .pointer (some ⟨u4, 1, none⟩)), (5, .int .i64 (m x.1)), (4, .pointer (some ⟨u4, 0, none⟩)), (3, .pointer (some ⟨u3, 0, none⟩))]) (fun _ => [(u4, .cells #[.int .i64 ((x.1 / 4 : Nat) : Int), .int .i64 ((x.1 % 4 : Nat) : Int)] 70), (u3, .cells (outL m (pre ++ [x])).toArray 25), (p1, .cells #[.int .i64 (m 0), .int .i64 (m 1), .int .i64 (m 2), .int .i64 (m 3), .int .i64 (m 4), .int .i64 (m 5), .int .i64 (m 6), .int .i64 (m 7), .int .i64 (m 8), .int .i64 (m 9), .int .i64 (m 10), .int .i64 (m 11), .int .i64 (m 12), .int .i64 (m 13), .int .i64 (m 14), .int .i64 (m 15)] 25), (u2, .cells #[.int .i64 0, .int .i64 0, .int .i64 0, .int .i64 0, .int .i64 0, .int .i64 0, .int .i64 0, .int .i64 0, .int .i64 0, .int .i64 0, .int .i64 0, .int .i64 0, .int .i64 0, .int .i64 0, .int .i64 0, .int .i64 0] 25), (u1, .cells #[.int .i64 (m 0), .int .i64 (m 1), .int .i64 (m 2), .int .i64 (m 3), .int .i64 (m 4), .int .i64 (m 5), .int .i64 (m 6), .int .i64 (m 7), .int .i64 (m 8), .int .i64 (m 9), .int .i64 (m 10), .int .i64 (m 11), .int .i64 (m 12), .int .i64 (m 13), .int .i64 (m 14), .int .i64 (m 15)] 25)]) F.mixed ?_ ?_
    · intro K N hN tE
      have N14 : N [(16, .pointer (some ⟨u3, (x.1 % 4 * 4 + x.1 / 4), none⟩)), (15, .pointer (some ⟨u3, (x.1 % 4 * 4), none⟩)), (14, .int .i64 (m x.1)), (13, .int .i64 ((x.1 / 4 : Nat) : Int)), (12, .pointer (some ⟨u4, 0, none⟩)), (11, .int .i64 ((x.1 % 4 : Nat) : Int)), (10, .pointer (some ⟨u4, 1, none⟩)), (5, .int .i64 (m x.1)), (4, .pointer (some ⟨u4, 0, none⟩)), (3, .pointer (some ⟨u3, 0, none⟩))] [(u4, .cells #[.int .i64 ((x.1 / 4 : Nat) : Int), .int .i64 ((x.1 % 4 : Nat) : Int)] 70), (u3, .cells (outL m (pre ++ [x])).toArray 25), (p1, .cells #[.int .i64 (m 0), .int .i64 (m 1), .int .i64 (m 2), .int .i64 (m 3), .int .i64 (m 4), .int .i64 (m 5), .int .i64 (m 6), .int .i64 (m 7), .int .i64 (m 8), .int .i64 (m 9), .int .i64 (m 10), .int .i64 (m 11), .int .i64 (m 12), .int .i64 (m 13), .int .i64 (m 14), .int .i64 (m 15)] 25), (u2, .cells #[.int .i64 0, .int .i64 0, .int .i64 0, .int .i64 0, .int .i64 0, .int .i64 0, .int .i64 0, .int .i64 0, .int .i64 0, .int .i64 0, .int .i64 0, .int .i64 0, .int .i64 0, .int .i64 0, .int .i64 0, .int .i64 0] 25), (u1, .cells #[.int .i64 (m 0), .int .i64 (m 1), .int .i64 (m 2), .int .i64 (m 3), .int .i64 (m 4), .int .i64 (m 5), .int .i64 (m 6), .int .i64 (m 7), .int .i64 (m 8), .int .i64 (m 9), .int .i64 (m 10), .int .i64 (m 11), .int .i64 (m 12), .int .i64 (m 13), .int .i64 (m 14), .int .i64 (m 15)] 25)] 0 #[true, true, true, true, true, true, true, true] := by
        refine (hN _ _ _ _).2 ?_
        exact Tr.anyEnd (by kernel_rfl) (tE ())
      have N13 : N [(16, .pointer (some ⟨u3, (x.1 % 4 * 4 + x.1 / 4), none⟩)), (15, .pointer (some ⟨u3, (x.1 % 4 * 4), none⟩)), (14, .int .i64 (m x.1)), (13, .int .i64 ((x.1 / 4 : Nat) : Int)), (12, .pointer (some ⟨u4, 0, none⟩)), (11, .int .i64 ((x.1 % 4 : Nat) : Int)), (10, .pointer (some ⟨u4, 1, none⟩)), (5, .int .i64 (m x.1)), (4, .pointer (some ⟨u4, 0, none⟩)), (3, .pointer (some ⟨u3, 0, none⟩))] [(u4, .cells #[.int .i64 ((x.1 / 4 : Nat) : Int), .int .i64 ((x.1 % 4 : Nat) : Int)] 70), (u3, .cells (outL m pre).toArray 25), (p1, .cells #[.int .i64 (m 0), .int .i64 (m 1), .int .i64 (m 2), .int .i64 (m 3), .int .i64 (m 4), .int .i64 (m 5), .int .i64 (m 6), .int .i64 (m 7), .int .i64 (m 8), .int .i64 (m 9), .int .i64 (m 10), .int .i64 (m 11), .int .i64 (m 12), .int .i64 (m 13), .int .i64 (m 14), .int .i64 (m 15)] 25), (u2, .cells #[.int .i64 0, .int .i64 0, .int .i64 0, .int .i64 0, .int .i64 0, .int .i64 0, .int .i64 0, .int .i64 0, .int .i64 0, .int .i64 0, .int .i64 0, .int .i64 0, .int .i64 0, .int .i64 0, .int .i64 0, .int .i64 0] 25), (u1, .cells #[.int .i64 (m 0), .int .i64 (m 1), .int .i64 (m 2), .int .i64 (m 3), .int .i64 (m 4), .int .i64 (m 5), .int .i64 (m 6), .int .i64 (m 7), .int .i64 (m 8), .int .i64 (m 9), .int .i64 (m 10), .int .i64 (m 11), .int .i64 (m 12), .int .i64 (m 13), .int .i64 (m 14), .int .i64 (m 15)] 25)] 1 #[true, true, true, true, true, true, true, false] := by
        refine (hN _ _ _ _).2 ?_
        refine Tr.any 7 [] (by kernel_rfl) ⟨⟨_, rfl, ?_⟩, trivial⟩
        · skip
          refine Tr.one rfl (Tr.store (cs' := outL m (pre ++ [x])) 1 F.ty2 rfl rfl rfl rfl rfl rfl (out_ble m pre x) (out_step m pre x) rfl rfl ?_)
          exact ((hN _ _ _ _).1 (N14)).sub [0, 1, 2, 3, 4] (by decide) rfl ⟨rfl, rfl, rfl, rfl, rfl, rfl, rfl, rfl, rfl, rfl, trivial⟩
      have N12 : N [(15, .pointer (some ⟨u3, (x.1 % 4 * 4), none⟩)), (14, .int .i64 (m x.1)), (13, .int .i64 ((x.1 / 4 : Nat) : Int)), (12, .pointer (some ⟨u4, 0, none⟩)), (11, .int .i64 ((x.1 % 4 : Nat) : Int)), (10, .pointer (some ⟨u4, 1, none⟩)), (5, .int .i64 (m x.1)), (4, .pointer (some ⟨u4, 0, none⟩)), (3, .pointer (some ⟨u3, 0, none⟩))] [(u4, .cells #[.int .i64 ((x.1 / 4 : Nat) : Int), .int .i64 ((x.1 % 4 : Nat) : Int)] 70), (u3, .cells (outL m pre).toArray 25), (p1, .cells #[.int .i64 (m 0), .int .i64 (m 1), .int .i64 (m 2), .int .i64 (m 3), .int .i64 (m 4), .int .i64 (m 5), .int .i64 (m 6), .int .i64 (m 7), .int .i64 (m 8), .int .i64 (m 9), .int .i64 (m 10), .int .i64 (m 11), .int .i64 (m 12), .int .i64 (m 13), .int .i64 (m 14), .int .i64 (m 15)] 25), (u2, .cells #[.int .i64 0, .int .i64 0, .int .i64 0, .int .i64 0, .int .i64 0, .int .i64 0, .int .i64 0, .int .i64 0, .int .i64 0, .int .i64 0, .int .i64 0, .int .i64 0, .int .i64 0, .int .i64 0, .int .i64 0, .int .i64 0] 25), (u1, .cells #[.int .i64 (m 0), .int .i64 (m 1), .int .i64 (m 2), .int .i64 (m 3), .int .i64 (m 4), .int .i64 (m 5), .int .i64 (m 6), .int .i64 (m 7), .int .i64 (m 8), .int .i64 (m 9), .int .i64 (m 10), .int .i64 (m 11), .int .i64 (m 12), .int .i64 (m 13), .int .i64 (m 14), .int .i64 (m 15)] 25)] 2 #[true, true, true, true, true, true, false, false] := by
        refine (hN _ _ _ _).2 ?_
        refine Tr.any 6 [] (by kernel_rfl) ⟨⟨_, rfl, ?_⟩, trivial⟩
        · skip
          refine Tr.one rfl (Tr.indexArr (o' := (x.1 % 4 * 4 + x.1 / 4)) F.arr23 rfl rfl (by omega) (by have := x.2; omega) (by omega) rfl ?_)
          exact ((hN _ _ _ _).1 (N13)).sub [0, 1, 2, 3, 4] (by decide) rfl ⟨rfl, rfl, rfl, rfl, rfl, rfl, rfl, rfl, rfl, rfl, trivial⟩
      have N11 : N [(15, .pointer (some ⟨u3, (x.1 % 4 * 4), none⟩)), (14, .int .i64 (m x.1)), (12, .pointer (some ⟨u4, 0, none⟩)), (11, .int .i64 ((x.1 % 4 : Nat) : Int)), (10, .pointer (some ⟨u4, 1, none⟩)), (5, .int .i64 (m x.1)), (4, .pointer (some ⟨u4, 0, none⟩)), (3, .pointer (some ⟨u3, 0, none⟩))] [(u4, .cells #[.int .i64 ((x.1 / 4 : Nat) : Int), .int .i64 ((x.1 % 4 : Nat) : Int)] 70), (u3, .cells (outL m pre).toArray 25), (p1, .cells #[.int .i64 (m 0), .int .i64 (m 1), .int .i64 (m 2), .int .i64 (m 3), .int .i64 (m 4), .int .i64 (m 5), .int .i64 (m 6), .int .i64 (m 7), .int .i64 (m 8), .int .i64 (m 9), .int .i64 (m 10), .int .i64 (m 11), .int .i64 (m 12), .int .i64 (m 13), .int .i64 (m 14), .int .i64 (m 15)] 25), (u2, .cells #[.int .i64 0, .int .i64 0, .int .i64 0, .int .i64 0, .int .i64 0, .int .i64 0, .int .i64 0, .int .i64 0, .int .i64 0, .int .i64 0, .int .i64 0, .int .i64 0, .int .i64 0, .int .i64 0, .int .i64 0, .int .i64 0] 25), (u1, .cells #[.int .i64 (m 0), .int .i64 (m 1), .int .i64 (m 2), .int .i64 (m 3), .int .i64 (m 4), .int .i64 (m 5), .int .i64 (m 6), .int .i64 (m 7), .int .i64 (m 8), .int .i64 (m 9), .int .i64 (m 10), .int .i64 (m 11), .int .i64 (m 12), .int .i64 (m 13), .int .i64 (m 14), .int .i64 (m 15)] 25)] 3 #[true, true, true, false, true, true, false, false] := by
        refine (hN _ _ _ _).2 ?_
        refine Tr.any 3 [] (by kernel_rfl) ⟨⟨_, rfl, ?_⟩, trivial⟩
        · skip
          refine Tr.one rfl (Tr.load1 F.ty3 rfl (Cell.own 0 rfl rfl) rfl ?_)
          exact ((hN _ _ _ _).1 (N12)).sub [0, 1, 2, 3, 4] (by decide) rfl ⟨rfl, rfl, rfl, rfl, rfl, rfl, rfl, rfl, rfl, trivial⟩
      have N10 : N [(14, .int .i64 (m x.1)), (13, .int .i64 ((x.1 / 4 : Nat) : Int)), (12, .pointer (some ⟨u4, 0, none⟩)), (11, .int .i64 ((x.1 % 4 : Nat) : Int)), (10, .pointer (some ⟨u4, 1, none⟩)), (5, .int .i64 (m x.1)), (4, .pointer (some ⟨u4, 0, none⟩)), (3, .pointer (some ⟨u3, 0, none⟩))] [(u4, .cells #[.int .i64 ((x.1 / 4 : Nat) : Int), .int .i64 ((x.1 % 4 : Nat) : Int)] 70), (u3, .cells (outL m pre).toArray 25), (p1, .cells #[.int .i64 (m 0), .int .i64 (m 1), .int .i64 (m 2), .int .i64 (m 3), .int .i64 (m 4), .int .i64 (m 5), .int .i64 (m 6), .int .i64 (m 7), .int .i64 (m 8), .int .i64 (m 9), .int .i64 (m 10), .int .i64 (m 11), .int .i64 (m 12), .int .i64 (m 13), .int .i64 (m 14), .int .i64 (m 15)] 25), (u2, .cells #[.int .i64 0, .int .i64 0, .int .i64 0, .int .i64 0, .int .i64 0, .int .i64 0, .int .i64 0, .int .i64 0, .int .i64 0, .int .i64 0, .int .i64 0, .int .i64 0, .int .i64 0, .int .i64 0, .int .i64 0, .int .i64 0] 25), (u1, .cells #[.int .i64 (m 0), .int .i64 (m 1), .int .i64 (m 2), .int .i64 (m 3), .int .i64 (m 4), .int .i64 (m 5), .int .i64 (m 6), .int .i64 (m 7), .int .i64 (m 8), .int .i64 (m 9), .int .i64 (m 10), .int .i64 (m 11), .int .i64 (m 12), .int .i64 (m 13), .int .i64 (m 14), .int .i64 (m 15)] 25)] 3 #[true, true, true, true, true, false, false, false] := by
        refine (hN _ _ _ _).2 ?_
        refine Tr.any 5 [] (by kernel_rfl) ⟨⟨_, rfl, ?_⟩, trivial⟩
        · skip
          refine Tr.one rfl (Tr.indexArr (o' := (x.1 % 4 * 4)) F.arr25 rfl rfl (by omega) (by omega) (by omega) rfl ?_)
          exact ((hN _ _ _ _).1 (N12)).sub [0, 1, 2, 3, 4] (by decide) rfl ⟨rfl, rfl, rfl, rfl, rfl, rfl, rfl, rfl, rfl, trivial⟩
      have N9 : N [(14, .int .i64 (m x.1)), (13, .int .i64 ((x.1 / 4 : Nat) : Int)), (12, .pointer (some ⟨u4, 0, none⟩)), (10, .pointer (some ⟨u4, 1, none⟩)), (5, .int .i64 (m x.1)), (4, .pointer (some ⟨u4, 0, none⟩)), (3, .pointer (some ⟨u3, 0, none⟩))] [(u4, .cells #[.int .i64 ((x.1 / 4 : Nat) : Int), .int .i64 ((x.1 % 4 : Nat) : Int)] 70), (u3, .cells (outL m pre).toArray 25), (p1, .cells #[.int .i64 (m 0), .int .i64 (m 1), .int .i64 (m 2), .int .i64 (m 3), .int .i64 (m 4), .int .i64 (m 5), .int .i64 (m 6), .int .i64 (m 7), .int .i64 (m 8), .int .i64 (m 9), .int .i64 (m 10), .int .i64 (m 11), .int .i64 (m 12), .int .i64 (m 13), .int .i64 (m 14), .int .i64 (m 15)] 25), (u2, .cells #[.int .i64 0, .int .i64 0, .int .i64 0, .int .i64 0, .int .i64 0, .int .i64 0, .int .i64 0, .int .i64 0, .int .i64 0, .int .i64 0, .int .i64 0, .int .i64 0, .int .i64 0, .int .i64 0, .int .i64 0, .int .i64 0] 25), (u1, .cells #[.int .i64 (m 0), .int .i64 (m 1), .int .i64 (m 2), .int .i64 (m 3), .int .i64 (m 4), .int .i64 (m 5), .int .i64 (m 6), .int .i64 (m 7), .int .i64 (m 8), .int .i64 (m 9), .int .i64 (m 10), .int .i64 (m 11), .int .i64 (m 12), .int .i64 (m 13), .int .i64 (m 14), .int .i64 (m 15)] 25)] 4 #[true, false, true, true, true, false, false, false] := by
        refine (hN _ _ _ _).2 ?_
        refine Tr.any 1 [] (by kernel_rfl) ⟨⟨_, rfl, ?_⟩, trivial⟩
        · skip
          refine Tr.one rfl (Tr.load1 F.ty3 rfl (Cell.own 0 rfl rfl) rfl ?_)
          exact ((hN _ _ _ _).1 (N10)).sub [0, 1, 2, 3, 4] (by decide) rfl ⟨rfl, rfl, rfl, rfl, rfl, rfl, rfl, rfl, trivial⟩
      have N8 : N [(15, .pointer (some ⟨u3, (x.1 % 4 * 4), none⟩)), (14, .int .i64 (m x.1)), (11, .int .i64 ((x.1 % 4 : Nat) : Int)), (10, .pointer (some ⟨u4, 1, none⟩)), (5, .int .i64 (m x.1)), (4, .pointer (some ⟨u4, 0, none⟩)), (3, .pointer (some ⟨u3, 0, none⟩))] [(u4, .cells #[.int .i64 ((x.1 / 4 : Nat) : Int), .int .i64 ((x.1 % 4 : Nat) : Int)] 70), (u3, .cells (outL m pre).toArray 25), (p1, .cells #[.int .i64 (m 0), .int .i64 (m 1), .int .i64 (m 2), .int .i64 (m 3), .int .i64 (m 4), .int .i64 (m 5), .int .i64 (m 6), .int .i64 (m 7), .int .i64 (m 8), .int .i64 (m 9), .int .i64 (m 10), .int .i64 (m 11), .int .i64 (m 12), .int .i64 (m 13), .int .i64 (m 14), .int .i64 (m 15)] 25), (u2, .cells #[.int .i64 0, .int .i64 0, .int .i64 0, .int .i64 0, .int .i64 0, .int .i64 0, .int .i64 0, .int .i64 0, .int .i64 0, .int .i64 0, .int .i64 0, .int .i64 0, .int .i64 0, .int .i64 0, .int .i64 0, .int .i64 0] 25), (u1, .cells #[.int .i64 (m 0), .int .i64 (m 1), .int .i64 (m 2), .int .i64 (m 3), .int .i64 (m 4), .int .i64 (m 5), .int .i64 (m 6), .int .i64 (m 7), .int .i64 (m 8), .int .i64 (m 9), .int .i64 (m 10), .int .i64 (m 11), .int .i64 (m 12), .int .i64 (m 13), .int .i64 (m 14), .int .i64 (m 15)] 25)] 4 #[true, true, false, false, true, true, false, false] := by
        refine (hN _ _ _ _).2 ?_
        refine Tr.any 2 [] (by kernel_rfl) ⟨⟨_, rfl, ?_⟩, trivial⟩
        · skip
          refine Tr.one rfl (Tr.indexArr (o' := 0) F.arr70 rfl rfl (by decide) (by decide) (rfl) rfl ?_)
          exact ((hN _ _ _ _).1 (N11)).sub [0, 1, 2, 3, 4] (by decide) rfl ⟨rfl, rfl, rfl, rfl, rfl, rfl, rfl, rfl, trivial⟩
      have N7 : N [(14, .int .i64 (m x.1)), (12, .pointer (some ⟨u4, 0, none⟩)), (11, .int .i64 ((x.1 % 4 : Nat) : Int)), (10, .pointer (some ⟨u4, 1, none⟩)), (5, .int .i64 (m x.1)), (4, .pointer (some ⟨u4, 0, none⟩)), (3, .pointer (some ⟨u3, 0, none⟩))] [(u4, .cells #[.int .i64 ((x.1 / 4 : Nat) : Int), .int .i64 ((x.1 % 4 : Nat) : Int)] 70), (u3, .cells (outL m pre).toArray 25), (p1, .cells #[.int .i64 (m 0), .int .i64 (m 1), .int .i64 (m 2), .int .i64 (m 3), .int .i64 (m 4), .int .i64 (m 5), .int .i64 (m 6), .int .i64 (m 7), .int .i64 (m 8), .int .i64 (m 9), .int .i64 (m 10), .int .i64 (m 11), .int .i64 (m 12), .int .i64 (m 13), .int .i64 (m 14), .int .i64 (m 15)] 25), (u2, .cells #[.int .i64 0, .int .i64 0, .int .i64 0, .int .i64 0, .int .i64 0, .int .i64 0, .int .i64 0, .int .i64 0, .int .i64 0, .int .i64 0, .int .i64 0, .int .i64 0, .int .i64 0, .int .i64 0, .int .i64 0, .int .i64 0] 25), (u1, .cells #[.int .i64 (m 0), .int .i64 (m 1), .int .i64 (m 2), .int .i64 (m 3), .int .i64 (m 4), .int .i64 (m 5), .int .i64 (m 6), .int .i64 (m 7), .int .i64 (m 8), .int .i64 (m 9), .int .i64 (m 10), .int .i64 (m 11), .int .i64 (m 12), .int .i64 (m 13), .int .i64 (m 14), .int .i64 (m 15)] 25)] 4 #[true, true, true, false, true, false, false, false] := by
        refine (hN _ _ _ _).2 ?_
        refine Tr.any 3 [5] (by kernel_rfl) ⟨⟨_, rfl, ?_⟩, ⟨_, rfl, ?_⟩, trivial⟩
        · skip
          refine Tr.one rfl (Tr.load1 F.ty3 rfl (Cell.own 0 rfl rfl) rfl ?_)
          exact ((hN _ _ _ _).1 (N10)).sub [0, 1, 2, 3, 4] (by decide) rfl ⟨rfl, rfl, rfl, rfl, rfl, rfl, rfl, rfl, trivial⟩
        · skip
          refine Tr.one rfl (Tr.indexArr (o' := (x.1 % 4 * 4)) F.arr25 rfl rfl (by omega) (by omega) (by omega) rfl ?_)
          exact ((hN _ _ _ _).1 (N11)).sub [0, 1, 2, 3, 4] (by decide) rfl ⟨rfl, rfl, rfl, rfl, rfl, rfl, rfl, rfl, trivial⟩
      have N6 : N [(14, .int .i64 (m x.1)), (13, .int .i64 ((x.1 / 4 : Nat) : Int)), (12, .pointer (some ⟨u4, 0, none⟩)), (5, .int .i64 (m x.1)), (4, .pointer (some ⟨u4, 0, none⟩)), (3, .pointer (some ⟨u3, 0, none⟩))] [(u4, .cells #[.int .i64 ((x.1 / 4 : Nat) : Int), .int .i64 ((x.1 % 4 : Nat) : Int)] 70), (u3, .cells (outL m pre).toArray 25), (p1, .cells #[.int .i64 (m 0), .int .i64 (m 1), .int .i64 (m 2), .int .i64 (m 3), .int .i64 (m 4), .int .i64 (m 5), .int .i64 (m 6), .int .i64 (m 7), .int .i64 (m 8), .int .i64 (m 9), .int .i64 (m 10), .int .i64 (m 11), .int .i64 (m 12), .int .i64 (m 13), .int .i64 (m 14), .int .i64 (m 15)] 25), (u2, .cells #[.int .i64 0, .int .i64 0, .int .i64 0, .int .i64 0, .int .i64 0, .int .i64 0, .int .i64 0, .int .i64 0, .int .i64 0, .int .i64 0, .int .i64 0, .int .i64 0, .int .i64 0, .int .i64 0, .int .i64 0, .int .i64 0] 25), (u1, .cells #[.int .i64 (m 0), .int .i64 (m 1), .int .i64 (m 2), .int .i64 (m 3), .int .i64 (m 4), .int .i64 (m 5), .int .i64 (m 6), .int .i64 (m 7), .int .i64 (m 8), .int .i64 (m 9), .int .i64 (m 10), .int .i64 (m 11), .int .i64 (m 12), .int .i64 (m 13), .int .i64 (m 14), .int .i64 (m 15)] 25)] 5 #[false, false, true, true, true, false, false, false] := by
        refine (hN _ _ _ _).2 ?_
        refine Tr.any 0 [] (by kernel_rfl) ⟨⟨_, rfl, ?_⟩, trivial⟩
        · skip
          refine Tr.one rfl (Tr.indexArr (o' := 1) F.arr70 rfl rfl (by decide) (by decide) (rfl) rfl ?_)
          exact ((hN _ _ _ _).1 (N9)).sub [0, 1, 2, 3, 4] (by decide) rfl ⟨rfl, rfl, rfl, rfl, rfl, rfl, rfl, trivial⟩
      have N5 : N [(14, .int .i64 (m x.1)), (12, .pointer (some ⟨u4, 0, none⟩)), (10, .pointer (some ⟨u4, 1, none⟩)), (5, .int .i64 (m x.1)), (4, .pointer (some ⟨u4, 0, none⟩)), (3, .pointer (some ⟨u3, 0, none⟩))] [(u4, .cells #[.int .i64 ((x.1 / 4 : Nat) : Int), .int .i64 ((x.1 % 4 : Nat) : Int)] 70), (u3, .cells (outL m pre).toArray 25), (p1, .cells #[.int .i64 (m 0), .int .i64 (m 1), .int .i64 (m 2), .int .i64 (m 3), .int .i64 (m 4), .int .i64 (m 5), .int .i64 (m 6), .int .i64 (m 7), .int .i64 (m 8), .int .i64 (m 9), .int .i64 (m 10), .int .i64 (m 11), .int .i64 (m 12), .int .i64 (m 13), .int .i64 (m 14), .int .i64 (m 15)] 25), (u2, .cells #[.int .i64 0, .int .i64 0, .int .i64 0, .int .i64 0, .int .i64 0, .int .i64 0, .int .i64 0, .int .i64 0, .int .i64 0, .int .i64 0, .int .i64 0, .int .i64 0, .int .i64 0, .int .i64 0, .int .i64 0, .int .i64 0] 25), (u1, .cells #[.int .i64 (m 0), .int .i64 (m 1), .int .i64 (m 2), .int .i64 (m 3), .int .i64 (m 4), .int .i64 (m 5), .int .i64 (m 6), .int .i64 (m 7), .int .i64 (m 8), .int .i64 (m 9), .int .i64 (m 10), .int .i64 (m 11), .int .i64 (m 12), .int .i64 (m 13), .int .i64 (m 14), .int .i64 (m 15)] 25)] 5 #[true, false, true, false, true, false, false, false] := by
        refine (hN _ _ _ _).2 ?_
        refine Tr.any 1 [3] (by kernel_rfl) ⟨⟨_, rfl, ?_⟩, ⟨_, rfl, ?_⟩, trivial⟩
        · skip
          refine Tr.one rfl (Tr.load1 F.ty3 rfl (Cell.own 0 rfl rfl) rfl ?_)
          exact ((hN _ _ _ _).1 (N7)).sub [0, 1, 2, 3, 4] (by decide) rfl ⟨rfl, rfl, rfl, rfl, rfl, rfl, rfl, trivial⟩
        · skip
          refine Tr.one rfl (Tr.load1 F.ty3 rfl (Cell.own 0 rfl rfl) rfl ?_)
          exact ((hN _ _ _ _).1 (N9)).sub [0, 1, 2, 3, 4] (by decide) rfl ⟨rfl, rfl, rfl, rfl, rfl, rfl, rfl, trivial⟩
      have N4 : N [(14, .int .i64 (m x.1)), (11, .int .i64 ((x.1 % 4 : Nat) : Int)), (10, .pointer (some ⟨u4, 1, none⟩)), (5, .int .i64 (m x.1)), (4, .pointer (some ⟨u4, 0, none⟩)), (3, .pointer (some ⟨u3, 0, none⟩))] [(u4, .cells #[.int .i64 ((x.1 / 4 : Nat) : Int), .int .i64 ((x.1 % 4 : Nat) : Int)] 70), (u3, .cells (outL m pre).toArray 25), (p1, .cells #[.int .i64 (m 0), .int .i64 (m 1), .int .i64 (m 2), .int .i64 (m 3), .int .i64 (m 4), .int .i64 (m 5), .int .i64 (m 6), .int .i64 (m 7), .int .i64 (m 8), .int .i64 (m 9), .int .i64 (m 10), .int .i64 (m 11), .int .i64 (m 12), .int .i64 (m 13), .int .i64 (m 14), .int .i64 (m 15)] 25), (u2, .cells #[.int .i64 0, .int .i64 0, .int .i64 0, .int .i64 0, .int .i64 0, .int .i64 0, .int .i64 0, .int .i64 0, .int .i64 0, .int .i64 0, .int .i64 0, .int .i64 0, .int .i64 0, .int .i64 0, .int .i64 0, .int .i64 0] 25), (u1, .cells #[.int .i64 (m 0), .int .i64 (m 1), .int .i64 (m 2), .int .i64 (m 3), .int .i64 (m 4), .int .i64 (m 5), .int .i64 (m 6), .int .i64 (m 7), .int .i64 (m 8), .int .i64 (m 9), .int .i64 (m 10), .int .i64 (m 11), .int .i64 (m 12), .int .i64 (m 13), .int .i64 (m 14), .int .i64 (m 15)] 25)] 5 #[true, true, false, false, true, false, false, false] := by
        refine (hN _ _ _ _).2 ?_
        refine Tr.any 2 [5] (by kernel_rfl) ⟨⟨_, rfl, ?_⟩, ⟨_, rfl, ?_⟩, trivial⟩
        · skip
          refine Tr.one rfl (Tr.indexArr (o' := 0) F.arr70 rfl rfl (by decide) (by decide) (rfl) rfl ?_)
          exact ((hN _ _ _ _).1 (N7)).sub [0, 1, 2, 3, 4] (by decide) rfl ⟨rfl, rfl, rfl, rfl, rfl, rfl, rfl, trivial⟩
        · skip
          refine Tr.one rfl (Tr.indexArr (o' := (x.1 % 4 * 4)) F.arr25 rfl rfl (by omega) (by omega) (by omega) rfl ?_)
          exact ((hN _ _ _ _).1 (N8)).sub [0, 1, 2, 3, 4] (by decide) rfl ⟨rfl, rfl, rfl, rfl, rfl, rfl, rfl, trivial⟩
      have N3 : N [(14, .int .i64 (m x.1)), (12, .pointer (some ⟨u4, 0, none⟩)), (5, .int .i64 (m x.1)), (4, .pointer (some ⟨u4, 0, none⟩)), (3, .pointer (some ⟨u3, 0, none⟩))] [(u4, .cells #[.int .i64 ((x.1 / 4 : Nat) : Int), .int .i64 ((x.1 % 4 : Nat) : Int)] 70), (u3, .cells (outL m pre).toArray 25), (p1, .cells #[.int .i64 (m 0), .int .i64 (m 1), .int .i64 (m 2), .int .i64 (m 3), .int .i64 (m 4), .int .i64 (m 5), .int .i64 (m 6), .int .i64 (m 7), .int .i64 (m 8), .int .i64 (m 9), .int .i64 (m 10), .int .i64 (m 11), .int .i64 (m 12), .int .i64 (m 13), .int .i64 (m 14), .int .i64 (m 15)] 25), (u2, .cells #[.int .i64 0, .int .i64 0, .int .i64 0, .int .i64 0, .int .i64 0, .int .i64 0, .int .i64 0, .int .i64 0, .int .i64 0, .int .i64 0, .int .i64 0, .int .i64 0, .int .i64 0, .int .i64 0, .int .i64 0, .int .i64 0] 25), (u1, .cells #[.int .i64 (m 0), .int .i64 (m 1), .int .i64 (m 2), .int .i64 (m 3), .int .i64 (m 4), .int .i64 (m 5), .int .i64 (m 6), .int .i64 (m 7), .int .i64 (m 8), .int .i64 (m 9), .int .i64 (m 10), .int .i64 (m 11), .int .i64 (m 12), .int .i64 (m 13), .int .i64 (m 14), .int .i64 (m 15)] 25)] 6 #[false, false, true, false, true, false, false, false] := by
        refine (hN _ _ _ _).2 ?_
        refine Tr.any 0 [3] (by kernel_rfl) ⟨⟨_, rfl, ?_⟩, ⟨_, rfl, ?_⟩, trivial⟩
        · skip
          refine Tr.one rfl (Tr.indexArr (o' := 1) F.arr70 rfl rfl (by decide) (by decide) (rfl) rfl ?_)
          exact ((hN _ _ _ _).1 (N5)).sub [0, 1, 2, 3, 4] (by decide) rfl ⟨rfl, rfl, rfl, rfl, rfl, rfl, trivial⟩
        · skip
          refine Tr.one rfl (Tr.load1 F.ty3 rfl (Cell.own 0 rfl rfl) rfl ?_)
          exact ((hN _ _ _ _).1 (N6)).sub [0, 1, 2, 3, 4] (by decide) rfl ⟨rfl, rfl, rfl, rfl, rfl, rfl, trivial⟩
      have N2 : N [(14, .int .i64 (m x.1)), (10, .pointer (some ⟨u4, 1, none⟩)), (5, .int .i64 (m x.1)), (4, .pointer (some ⟨u4, 0, none⟩)), (3, .pointer (some ⟨u3, 0, none⟩))] [(u4, .cells #[.int .i64 ((x.1 / 4 : Nat) : Int), .int .i64 ((x.1 % 4 : Nat) : Int)] 70), (u3, .cells (outL m pre).toArray 25), (p1, .cells #[.int .i64 (m 0), .int .i64 (m 1), .int .i64 (m 2), .int .i64 (m 3), .int .i64 (m 4), .int .i64 (m 5), .int .i64 (m 6), .int .i64 (m 7), .int .i64 (m 8), .int .i64 (m 9), .int .i64 (m 10), .int .i64 (m 11), .int .i64 (m 12), .int .i64 (m 13), .int .i64 (m 14), .int .i64 (m 15)] 25), (u2, .cells #[.int .i64 0, .int .i64 0, .int .i64 0, .int .i64 0, .int .i64 0, .int .i64 0, .int .i64 0, .int .i64 0, .int .i64 0, .int .i64 0, .int .i64 0, .int .i64 0, .int .i64 0, .int .i64 0, .int .i64 0, .int .i64 0] 25), (u1, .cells #[.int .i64 (m 0), .int .i64 (m 1), .int .i64 (m 2), .int .i64 (m 3), .int .i64 (m 4), .int .i64 (m 5), .int .i64 (m 6), .int .i64 (m 7), .int .i64 (m 8), .int .i64 (m 9), .int .i64 (m 10), .int .i64 (m 11), .int .i64 (m 12), .int .i64 (m 13), .int .i64 (m 14), .int .i64 (m 15)] 25)] 6 #[true, false, false, false, true, false, false, false] := by
        refine (hN _ _ _ _).2 ?_
        refine Tr.any 1 [2] (by kernel_rfl) ⟨⟨_, rfl, ?_⟩, ⟨_, rfl, ?_⟩, trivial⟩
        · skip
          refine Tr.one rfl (Tr.load1 F.ty3 rfl (Cell.own 0 rfl rfl) rfl ?_)
          exact ((hN _ _ _ _).1 (N4)).sub [0, 1, 2, 3, 4] (by decide) rfl ⟨rfl, rfl, rfl, rfl, rfl, rfl, trivial⟩
        · skip
          refine Tr.one rfl (Tr.indexArr (o' := 0) F.arr70 rfl rfl (by decide) (by decide) (rfl) rfl ?_)
          exact ((hN _ _ _ _).1 (N5)).sub [0, 1, 2, 3, 4] (by decide) rfl ⟨rfl, rfl, rfl, rfl, rfl, rfl, trivial⟩
      have N1 : N [(14, .int .i64 (m x.1)), (5, .int .i64 (m x.1)), (4, .pointer (some ⟨u4, 0, none⟩)), (3, .pointer (some ⟨u3, 0, none⟩))] [(u4, .cells #[.int .i64 ((x.1 / 4 : Nat) : Int), .int .i64 ((x.1 % 4 : Nat) : Int)] 70), (u3, .cells (outL m pre).toArray 25), (p1, .cells #[.int .i64 (m 0), .int .i64 (m 1), .int .i64 (m 2), .int .i64 (m 3), .int .i64 (m 4), .int .i64 (m 5), .int .i64 (m 6), .int .i64 (m 7), .int .i64 (m 8), .int .i64 (m 9), .int .i64 (m 10), .int .i64 (m 11), .int .i64 (m 12), .int .i64 (m 13), .int .i64 (m 14), .int .i64 (m 15)] 25), (u2, .cells #[.int .i64 0, .int .i64 0, .int .i64 0, .int .i64 0, .int .i64 0, .int .i64 0, .int .i64 0, .int .i64 0, .int .i64 0, .int .i64 0, .int .i64 0, .int .i64 0, .int .i64 0, .int .i64 0, .int .i64 0, .int .i64 0] 25), (u1, .cells #[.int .i64 (m 0), .int .i64 (m 1), .int .i64 (m 2), .int .i64 (m 3), .int .i64 (m 4), .int .i64 (m 5), .int .i64 (m 6), .int .i64 (m 7), .int .i64 (m 8), .int .i64 (m 9), .int .i64 (m 10), .int .i64 (m 11), .int .i64 (m 12), .int .i64 (m 13), .int .i64 (m 14), .int .i64 (m 15)] 25)] 7 #[false, false, false, false, true, false, false, false] := by
        refine (hN _ _ _ _).2 ?_
        refine Tr.any 0 [2] (by kernel_rfl) ⟨⟨_, rfl, ?_⟩, ⟨_, rfl, ?_⟩, trivial⟩
        · skip
          refine Tr.one rfl (Tr.indexArr (o' := 1) F.arr70 rfl rfl (by decide) (by decide) (rfl) rfl ?_)
          exact ((hN _ _ _ _).1 (N2)).sub [0, 1, 2, 3, 4] (by decide) rfl ⟨rfl, rfl, rfl, rfl, rfl, trivial⟩
        · skip
          refine Tr.one rfl (Tr.indexArr (o' := 0) F.arr70 rfl rfl (by decide) (by decide) (rfl) rfl ?_)
          exact ((hN _ _ _ _).1 (N3)).sub [0, 1, 2, 3, 4] (by decide) rfl ⟨rfl, rfl, rfl, rfl, rfl, trivial⟩
      have N0 : N [(5, .int .i64 (m x.1)), (4, .pointer (some ⟨u4, 0, none⟩)), (3, .pointer (some ⟨u3, 0, none⟩))] [(u4, .cells #[.int .i64 ((x.1 / 4 : Nat) : Int), .int .i64 ((x.1 % 4 : Nat) : Int)] 70), (u3, .cells (outL m pre).toArray 25), (p1, .cells #[.int .i64 (m 0), .int .i64 (m 1), .int .i64 (m 2), .int .i64 (m 3), .int .i64 (m 4), .int .i64 (m 5), .int .i64 (m 6), .int .i64 (m 7), .int .i64 (m 8), .int .i64 (m 9), .int .i64 (m 10), .int .i64 (m 11), .int .i64 (m 12), .int .i64 (m 13), .int .i64 (m 14), .int .i64 (m 15)] 25), (u2, .cells #[.int .i64 0, .int .i64 0, .int .i64 0, .int .i64 0, .int .i64 0, .int .i64 0, .int .i64 0, .int .i64 0, .int .i64 0, .int .i64 0, .int .i64 0, .int .i64 0, .int .i64 0, .int .i64 0, .int .i64 0, .int .i64 0] 25), (u1, .cells #[.int .i64 (m 0), .int .i64 (m 1), .int .i64 (m 2), .int .i64 (m 3), .int .i64 (m 4), .int .i64 (m 5), .int .i64 (m 6), .int .i64 (m 7), .int .i64 (m 8), .int .i64 (m 9), .int .i64 (m 10), .int .i64 (m 11), .int .i64 (m 12), .int .i64 (m 13), .int .i64 (m 14), .int .i64 (m 15)] 25)] 8 #[false, false, false, false, false, false, false, false] := by
        refine (hN _ _ _ _).2 ?_
        refine Tr.take 4 (.int .i64 (m x.1)) rfl (by kernel_rfl) (by kernel_rfl) (by kernel_rfl) rfl rfl rfl rfl ?_
        exact ((hN _ _ _ _).1 (N1)).sub [0, 1, 2, 3, 4] (by decide) rfl ⟨rfl, rfl, rfl, rfl, trivial⟩
      exact (hN _ _ _ _).2 (((hN _ _ _ _).1 N0).sub [0, 1, 2, 3, 4] (by decide) rfl ⟨rfl, rfl, rfl, trivial⟩)
    · rintro _
      refine Tr.blockN ?_
      exact Tr.roundN (trivial) [1, 2, 3, 4] (by decide) (rfl)
  · rintro hP1 D1
    refine Tr.blockN ?_
    refine Tr.thenN ?_
    refine Tr.seq ?_
    refine Tr.region ?_
    refine Tr.step rfl (Tr.loadN (vs := [.int .i64 (m 0), .int .i64 (m 4), .int .i64 (m 8), .int .i64 (m 12), .int .i64 (m 1), .int .i64 (m 5), .int .i64 (m 9), .int .i64 (m 13), .int .i64 (m 2), .int .i64 (m 6), .int .i64 (m 10), .int .i64 (m 14), .int .i64 (m 3), .int .i64 (m 7), .int .i64 (m 11), .int .i64 (m 15)]) F.ty25 rfl (Cells.own 1 16 rfl rfl) rfl rfl ?_)
    refine Tr.step rfl (Tr.store 3 F.ty25 rfl rfl rfl rfl rfl rfl rfl rfl rfl rfl ?_)
    refine Tr.nil ?_
    refine Tr.thenN ?_
    refine Tr.ret ?_
    refine Tr.leaveD [(0, D1)] rfl rfl ⟨rfl, trivial⟩ (fun _ => trivial) ?_
    refine Tr.res1 rfl (RsV.cellN (vs := [.int .i64 (m 0), .int .i64 (m 4), .int .i64 (m 8), .int .i64 (m 12), .int .i64 (m 1), .int .i64 (m 5), .int .i64 (m 9), .int .i64 (m 13), .int .i64 (m 2), .int .i64 (m 6), .int .i64 (m 10), .int .i64 (m 14), .int .i64 (m 3), .int .i64 (m 7), .int .i64 (m 11), .int .i64 (m 15)]) rfl F.ty25 (Cells.own 3 16 rfl rfl) rfl) (fun w hw => ?_)
    exact ⟨rfl, hw.fm⟩
  · rintro D1 e pre hpre hJ
    exact hJ.elim

set_option maxRecDepth 100000 in
set_option maxHeartbeats 4000000 in
theorem apply_n (m v : Nat → Int) (w : World) : Calls Tryd.prog 22 #[mv m, .agg #[.int .i64 (v 0), .int .i64 (v 1), .int .i64 (v 2), .int .i64 (v 3)]] w (Gives (.tuple #[.agg #[.int .i64 (applyN m v 0), .int .i64 (applyN m v 1), .int .i64 (applyN m v 2), .int .i64 (applyN m v 3)], .int .i64 (applyE m v)]) w) := by
  refine calls_enter No Tryd.func22 rfl rfl rfl rfl ?_
  refine Tr.seq ?_
  refine Tr.region ?_
  refine Tr.step rfl (Tr.box rfl rfl rfl ?_)
  rintro u1
  refine Tr.step rfl (Tr.box rfl rfl rfl ?_)
  rintro u2
  refine Tr.step rfl (Tr.alloc F.ty23 rfl rfl ?_)
  rintro u3
  refine Tr.step rfl (Tr.val rfl rfl ?_)
  refine Tr.nil ?_
  refine Tr.thenN ?_
  refine Tr.seq ?_
  refine Tr.region ?_
  refine Tr.step rfl (Tr.alloc F.ty23 rfl rfl ?_)
  rintro u4
  refine Tr.nil ?_
  refine Tr.thenN ?_
  refine Tr.seq ?_
  refine Tr.seq ?_
  refine Tr.region ?_
  refine Tr.step rfl (Tr.loadN (vs := [.int .i64 (m 0), .int .i64 (m 1), .int .i64 (m 2), .int .i64 (m 3), .int .i64 (m 4), .int .i64 (m 5), .int .i64 (m 6), .int .i64 (m 7), .int .i64 (m 8), .int .i64 (m 9), .int .i64 (m 10), .int .i64 (m 11), .int .i64 (m 12), .int .i64 (m 13), .int .i64 (m 14), .int .i64 (m 15)]) F.ty25 rfl (Cells.own 3 16 rfl rfl) rfl rfl ?_)
  refine Tr.step rfl (Tr.call (v := .int .i64 (ckE 4611686018427387904 m all16)) F.en19 rfl (fun w hw => check_n m 4611686018427387904 (by decide) (by decide) w) rfl ?_)
  refine Tr.step rfl (Tr.val rfl rfl ?_)
  refine Tr.step rfl (Tr.val rfl rfl ?_)
  refine Tr.decide 13 rfl (fun h1 => ?_) (fun h1 => ?_)
  · replace h1 := nT h1
    refine Tr.known 12 true rfl (by simpa using h1) ?_
    refine Tr.stepNo rfl rfl rfl rfl rfl rfl ?_
    refine Tr.stepNo rfl rfl rfl rfl rfl rfl ?_
    refine Tr.stepNo rfl rfl rfl rfl rfl rfl ?_
    refine Tr.stepNo rfl rfl rfl rfl rfl rfl ?_
    refine Tr.step rfl (Tr.val rfl rfl ?_)
    refine Tr.nil ?_
    refine Tr.thenN ?_
    refine Tr.yes rfl ?_
    refine Tr.seq ?_
    refine Tr.region ?_
    refine Tr.step rfl (Tr.buildA #[.int .i64 0, .int .i64 0, .int .i64 0, .int .i64 0] F.und23 F.ty23 F.ty2 rfl (by kernel_rfl) rfl ?_)
    refine Tr.step rfl (Tr.store 1 F.ty23 rfl rfl rfl rfl rfl rfl rfl rfl rfl rfl ?_)
    refine Tr.step rfl (Tr.val rfl rfl ?_)
    refine Tr.nil ?_
    refine Tr.thenN ?_
    refine Tr.ret ?_
    refine Tr.thenR ?_
    refine Tr.leave rfl rfl ?_
    refine Tr.res2 rfl (RsV.cellN (vs := [.int .i64 0, .int .i64 0, .int .i64 0, .int .i64 0]) rfl F.ty23 (Cells.own 1 4 rfl rfl) rfl) (RsV.tmp rfl) (fun w hw => ?_)
    exact ⟨by simp [applyN, applyE, *], hw.fm⟩
  · replace h1 := nF h1
    refine Tr.known 12 false rfl (by simpa using h1) ?_
    refine Tr.stepYes rfl rfl rfl rfl (Tr.loadN (vs := [.int .i64 (v 0), .int .i64 (v 1), .int .i64 (v 2), .int .i64 (v 3)]) F.ty23 rfl (Cells.own 2 4 rfl rfl) rfl rfl ?_)
    refine Tr.stepYes rfl rfl rfl rfl (Tr.buildA #[.int .i64 (v 0), .int .i64 (v 1), .int .i64 (v 2), .int .i64 (v 3), .int .i64 0, .int .i64 0, .int .i64 0, .int .i64 0, .int .i64 0, .int .i64 0, .int .i64 0, .int .i64 0, .int .i64 0, .int .i64 0, .int .i64 0, .int .i64 0] F.und25 F.ty25 F.ty23 rfl (by kernel_rfl) rfl ?_)
    refine Tr.stepYes rfl rfl rfl rfl (Tr.call (v := .int .i64 (ckE 4611686018427387904 (vmat v) all16)) F.en19 rfl (fun w hw => check_n (vmat v) 4611686018427387904 (by decide) (by decide) w) rfl ?_)
    refine Tr.stepYes rfl rfl rfl rfl (Tr.val rfl rfl ?_)
    refine Tr.step rfl (Tr.val rfl rfl ?_)
    refine Tr.nil ?_
    refine Tr.thenN ?_
    refine Tr.decide 18 rfl (fun h2 => ?_) (fun h2 => ?_)
    · replace h2 := nT h2
      refine Tr.known 17 true rfl (by simpa using h2) ?_
      refine Tr.yes rfl ?_
      refine Tr.seq ?_
      refine Tr.region ?_
      refine Tr.step rfl (Tr.buildA #[.int .i64 0, .int .i64 0, .int .i64 0, .int .i64 0] F.und23 F.ty23 F.ty2 rfl (by kernel_rfl) rfl ?_)
      refine Tr.step rfl (Tr.store 1 F.ty23 rfl rfl rfl rfl rfl rfl rfl rfl rfl rfl ?_)
      refine Tr.step rfl (Tr.val rfl rfl ?_)
      refine Tr.nil ?_
      refine Tr.thenN ?_
      refine Tr.ret ?_
      refine Tr.thenR ?_
      refine Tr.leave rfl rfl ?_
      refine Tr.res2 rfl (RsV.cellN (vs := [.int .i64 0, .int .i64 0, .int .i64 0, .int .i64 0]) rfl F.ty23 (Cells.own 1 4 rfl rfl) rfl) (RsV.tmp rfl) (fun w hw => ?_)
      exact ⟨by simp [applyN, applyE, *], hw.fm⟩
    · replace h2 := nF h2
      refine Tr.known 17 false rfl (by simpa using h2) ?_
      refine Tr.not rfl ?_
      refine Tr.skip ?_
      refine Tr.thenN ?_
      refine Tr.seq ?_
      refine Tr.seq ?_
      refine Tr.region ?_
      refine Tr.step rfl (Tr.val rfl rfl ?_)
      refine Tr.nil ?_
      refine Tr.thenN ?_
      refine Tr.block ?_
      refine Tr.loopU ?_
      refine Tr.sub (l' := [(20, .int .i64 0), (6, .pointer (some ⟨u4, 0, none⟩)), (4, .pointer (some ⟨u3, 0, none⟩)), (3, .pointer (some ⟨u2, 0, none⟩)), (2, .pointer (some ⟨u1, 0, none⟩))]) (h' := [(u4, .cells #[.int .i64 0, .int .i64 0, .int .i64 0, .int .i64 0] 23), (u3, .cells #[.int .i64 0, .int .i64 0, .int .i64 0, .int .i64 0] 23), (u2, .cells #[.int .i64 (v 0), .int .i64 (v 1), .int .i64 (v 2), .int .i64 (v 3)] 23), (u1, .cells #[.int .i64 (m 0), .int .i64 (m 1), .int .i64 (m 2), .int .i64 (m 3), .int .i64 (m 4), .int .i64 (m 5), .int .i64 (m 6), .int .i64 (m 7), .int .i64 (m 8), .int .i64 (m 9), .int .i64 (m 10), .int .i64 (m 11), .int .i64 (m 12), .int .i64 (m 13), .int .i64 (m 14), .int .i64 (m 15)] 25)]) ?_ [0, 1, 2, 3] (by decide) rfl ⟨rfl, rfl, rfl, rfl, rfl, trivial⟩
      refine Tr.roundU ?_
      refine Tr.seq ?_
      refine Tr.region ?_
      refine Tr.step rfl (Tr.valE (.bool true) rfl rfl rfl ?_)
      refine Tr.nil ?_
      refine Tr.thenN ?_
      refine Tr.seq ?_
      refine Tr.yes rfl ?_
      refine Tr.skip ?_
      refine Tr.thenN ?_
      refine Tr.seq ?_
      refine Tr.block ?_
      refine Tr.seq ?_
      refine Tr.region ?_
      refine Tr.step rfl (Tr.val rfl rfl ?_)
      refine Tr.step rfl (Tr.val rfl rfl ?_)
      refine Tr.nil ?_
      refine Tr.thenN ?_
      refine Tr.seq ?_
      refine Tr.sub (l' := [(7, .int .i64 0), (20, .int .i64 0), (6, .pointer (some ⟨u4, 0, none⟩)), (4, .pointer (some ⟨u3, 0, none⟩)), (3, .pointer (some ⟨u2, 0, none⟩)), (2, .pointer (some ⟨u1, 0, none⟩))]) (h' := [(u4, .cells #[.int .i64 0, .int .i64 0, .int .i64 0, .int .i64 0] 23), (u3, .cells #[.int .i64 0, .int .i64 0, .int .i64 0, .int .i64 0] 23), (u2, .cells #[.int .i64 (v 0), .int .i64 (v 1), .int .i64 (v 2), .int .i64 (v 3)] 23), (u1, .cells #[.int .i64 (m 0), .int .i64 (m 1), .int .i64 (m 2), .int .i64 (m 3), .int .i64 (m 4), .int .i64 (m 5), .int .i64 (m 6), .int .i64 (m 7), .int .i64 (m 8), .int .i64 (m 9), .int .i64 (m 10), .int .i64 (m 11), .int .i64 (m 12), .int .i64 (m 13), .int .i64 (m 14), .int .i64 (m 15)] 25)]) ?_ [0, 1, 2, 3] (by decide) rfl ⟨rfl, rfl, rfl, rfl, rfl, rfl, trivial⟩
      refine Tr.drawG (Y := Unit) (fun _ => [(9, .int .i64 (sumE (rowD m v 0))), (8, .int .i64 (sumN (rowD m v 0))), (30, .int .i64 (sumE (rowD m v 0))), (29, .int .i64 (sumN (rowD m v 0))), (23, .tuple #[.int .i64 (sumN (rowD m v 0)), .int .i64 (sumE (rowD m v 0))]), (28, .tuple #[.int .i64 (sumN (rowD m v 0)), .int .i64 (sumE (rowD m v 0))]), (27, .agg #[.int .i64 (v 0), .int .i64 (v 1), .int .i64 (v 2), .int .i64 (v 3)]), (26, .agg #[.int .i64 (m 0), .int .i64 (m 1), .int .i64 (m 2), .int .i64 (m 3)]), (25, .pointer (some ⟨u1, 0, none⟩)), (24, .int .i64 0), (7, .int .i64 0), (20, .int .i64 0), (6, .pointer (some ⟨u4, 0, none⟩)), (4, .pointer (some ⟨u3, 0, none⟩)), (3, .pointer (some ⟨u2, 0, none⟩)), (2, .pointer (some ⟨u1, 0, none⟩))]) (fun _ => [(u4, .cells #[.int .i64 0, .int .i64 0, .int .i64 0, .int .i64 0] 23), (u3, .cells #[.int .i64 0, .int .i64 0, .int .i64 0, .int .i64 0] 23), (u2, .cells #[.int .i64 (v 0), .int .i64 (v 1), .int .i64 (v 2), .int .i64 (v 3)] 23), (u1, .cells #[.int .i64 (m 0), .int .i64 (m 1), .int .i64 (m 2), .int .i64 (m 3), .int .i64 (m 4), .int .i64 (m 5), .int .i64 (m 6), .int .i64 (m 7), .int .i64 (m 8), .int .i64 (m 9), .int .i64 (m 10), .int .i64 (m 11), .int .i64 (m 12), .int .i64 (m 13), .int .i64 (m 14), .int .i64 (m 15)] 25)]) F.mixed ?_ ?_
      · intro K N hN tE
        have N12 : N [(9, .int .i64 (sumE (rowD m v 0))), (8, .int .i64 (sumN (rowD m v 0))), (30, .int .i64 (sumE (rowD m v 0))), (29, .int .i64 (sumN (rowD m v 0))), (23, .tuple #[.int .i64 (sumN (rowD m v 0)), .int .i64 (sumE (rowD m v 0))]), (28, .tuple #[.int .i64 (sumN (rowD m v 0)), .int .i64 (sumE (rowD m v 0))]), (27, .agg #[.int .i64 (v 0), .int .i64 (v 1), .int .i64 (v 2), .int .i64 (v 3)]), (26, .agg #[.int .i64 (m 0), .int .i64 (m 1), .int .i64 (m 2), .int .i64 (m 3)]), (25, .pointer (some ⟨u1, 0, none⟩)), (24, .int .i64 0), (7, .int .i64 0), (20, .int .i64 0), (6, .pointer (some ⟨u4, 0, none⟩)), (4, .pointer (some ⟨u3, 0, none⟩)), (3, .pointer (some ⟨u2, 0, none⟩)), (2, .pointer (some ⟨u1, 0, none⟩))] [(u4, .cells #[.int .i64 0, .int .i64 0, .int .i64 0, .int .i64 0] 23), (u3, .cells #[.int .i64 0, .int .i64 0, .int .i64 0, .int .i64 0] 23), (u2, .cells #[.int .i64 (v 0), .int .i64 (v 1), .int .i64 (v 2), .int .i64 (v 3)] 23), (u1, .cells #[.int .i64 (m 0), .int .i64 (m 1), .int .i64 (m 2), .int .i64 (m 3), .int .i64 (m 4), .int .i64 (m 5), .int .i64 (m 6), .int .i64 (m 7), .int .i64 (m 8), .int .i64 (m 9), .int .i64 (m 10), .int .i64 (m 11), .int .i64 (m 12), .int .i64 (m 13), .int .i64 (m 14), .int .i64 (m 15)] 25)] 0 #[true, true, true, true, true, true, true, true, true, true] := by
          refine (hN _ _ _ _).2 ?_
          exact Tr.anyEnd (by kernel_rfl) (tE ())
        have N11 : N [(8, .int .i64 (sumN (rowD m v 0))), (30, .int .i64 (sumE (rowD m v 0))), (29, .int .i64 (sumN (rowD m v 0))), (23, .tuple #[.int .i64 (sumN (rowD m v 0)), .int .i64 (sumE (rowD m v 0))]), (28, .tuple #[.int .i64 (sumN (rowD m v 0)), .int .i64 (sumE (rowD m v 0))]), (27, .agg #[.int .i64 (v 0), .int .i64 (v 1), .int .i64 (v 2), .int .i64 (v 3)]), (26, .agg #[.int .i64 (m 0), .int .i64 (m 1), .int .i64 (m 2), .int .i64 (m 3)]), (25, .pointer (some ⟨u1, 0, none⟩)), (24, .int .i64 0), (7, .int .i64 0), (20, .int .i64 0), (6, .pointer (some ⟨u4, 0, none⟩)), (4, .pointer (some ⟨u3, 0, none⟩)), (3, .pointer (some ⟨u2, 0, none⟩)), (2, .pointer (some ⟨u1, 0, none⟩))] [(u4, .cells #[.int .i64 0, .int .i64 0, .int .i64 0, .int .i64 0] 23), (u3, .cells #[.int .i64 0, .int .i64 0, .int .i64 0, .int .i64 0] 23), (u2, .cells #[.int .i64 (v 0), .int .i64 (v 1), .int .i64 (v 2), .int .i64 (v 3)] 23), (u1, .cells #[.int .i64 (m 0), .int .i64 (m 1), .int .i64 (m 2), .int .i64 (m 3), .int .i64 (m 4), .int .i64 (m 5), .int .i64 (m 6), .int .i64 (m 7), .int .i64 (m 8), .int .i64 (m 9), .int .i64 (m 10), .int .i64 (m 11), .int .i64 (m 12), .int .i64 (m 13), .int .i64 (m 14), .int .i64 (m 15)] 25)] 1 #[true, true, true, true, true, true, true, true, true, false] := by
          refine (hN _ _ _ _).2 ?_
          refine Tr.take 9 (.int .i64 (sumE (rowD m v 0))) rfl (by kernel_rfl) (by kernel_rfl) (by kernel_rfl) rfl rfl rfl rfl ?_
          exact ((hN _ _ _ _).1 (N12)).sub [0, 1, 2, 3] (by decide) rfl ⟨rfl, rfl, rfl, rfl, rfl, rfl, rfl, rfl, rfl, rfl, rfl, rfl, rfl, rfl, rfl, rfl, trivial⟩
        have N10 : N [(30, .int .i64 (sumE (rowD m v 0))), (29, .int .i64 (sumN (rowD m v 0))), (23, .tuple #[.int .i64 (sumN (rowD m v 0)), .int .i64 (sumE (rowD m v 0))]), (28, .tuple #[.int .i64 (sumN (rowD m v 0)), .int .i64 (sumE (rowD m v 0))]), (27, .agg #[.int .i64 (v 0), .int .i64 (v 1), .int .i64 (v 2), .int .i64 (v 3)]), (26, .agg #[.int .i64 (m 0), .int .i64 (m 1), .int .i64 (m 2), .int .i64 (m 3)]), (25, .pointer (some ⟨u1, 0, none⟩)), (24, .int .i64 0), (7, .int .i64 0), (20, .int .i64 0), (6, .pointer (some ⟨u4, 0, none⟩)), (4, .pointer (some ⟨u3, 0, none⟩)), (3, .pointer (some ⟨u2, 0, none⟩)), (2, .pointer (some ⟨u1, 0, none⟩))] [(u4, .cells #[.int .i64 0, .int .i64 0, .int .i64 0, .int .i64 0] 23), (u3, .cells #[.int .i64 0, .int .i64 0, .int .i64 0, .int .i64 0] 23), (u2, .cells #[.int .i64 (v 0), .int .i64 (v 1), .int .i64 (v 2), .int .i64 (v 3)] 23), (u1, .cells #[.int .i64 (m 0), .int .i64 (m 1), .int .i64 (m 2), .int .i64 (m 3), .int .i64 (m 4), .int .i64 (m 5), .int .i64 (m 6), .int .i64 (m 7), .int .i64 (m 8), .int .i64 (m 9), .int .i64 (m 10), .int .i64 (m 11), .int .i64 (m 12), .int .i64 (m 13), .int .i64 (m 14), .int .i64 (m 15)] 25)] 2 #[true, true, true, true, true, true, true, true, false, false] := by
          refine (hN _ _ _ _).2 ?_
          refine Tr.take 8 (.int .i64 (sumN (rowD m v 0))) rfl (by kernel_rfl) (by kernel_rfl) (by kernel_rfl) rfl rfl rfl rfl ?_
          exact ((hN _ _ _ _).1 (N11)).sub [0, 1, 2, 3] (by decide) rfl ⟨rfl, rfl, rfl, rfl, rfl, rfl, rfl, rfl, rfl, rfl, rfl, rfl, rfl, rfl, rfl, trivial⟩
        have N9 : N [(29, .int .i64 (sumN (rowD m v 0))), (23, .tuple #[.int .i64 (sumN (rowD m v 0)), .int .i64 (sumE (rowD m v 0))]), (28, .tuple #[.int .i64 (sumN (rowD m v 0)), .int .i64 (sumE (rowD m v 0))]), (27, .agg #[.int .i64 (v 0), .int .i64 (v 1), .int .i64 (v 2), .int .i64 (v 3)]), (26, .agg #[.int .i64 (m 0), .int .i64 (m 1), .int .i64 (m 2), .int .i64 (m 3)]), (25, .pointer (some ⟨u1, 0, none⟩)), (24, .int .i64 0), (7, .int .i64 0), (20, .int .i64 0), (6, .pointer (some ⟨u4, 0, none⟩)), (4, .pointer (some ⟨u3, 0, none⟩)), (3, .pointer (some ⟨u2, 0, none⟩)), (2, .pointer (some ⟨u1, 0, none⟩))] [(u4, .cells #[.int .i64 0, .int .i64 0, .int .i64 0, .int .i64 0] 23), (u3, .cells #[.int .i64 0, .int .i64 0, .int .i64 0, .int .i64 0] 23), (u2, .cells #[.int .i64 (v 0), .int .i64 (v 1), .int .i64 (v 2), .int .i64 (v 3)] 23), (u1, .cells #[.int .i64 (m 0), .int .i64 (m 1), .int .i64 (m 2), .int .i64 (m 3), .int .i64 (m 4), .int .i64 (m 5), .int .i64 (m 6), .int .i64 (m 7), .int .i64 (m 8), .int .i64 (m 9), .int .i64 (m 10), .int .i64 (m 11), .int .i64 (m 12), .int .i64 (m 13), .int .i64 (m 14), .int .i64 (m 15)] 25)] 3 #[true, true, true, true, true, true, true, false, false, false] := by
          refine (hN _ _ _ _).2 ?_
          refine Tr.take 7 (.int .i64 (sumE (rowD m v 0))) rfl (by kernel_rfl) (by kernel_rfl) (by kernel_rfl) rfl rfl rfl rfl ?_
          exact ((hN _ _ _ _).1 (N10)).sub [0, 1, 2, 3] (by decide) rfl ⟨rfl, rfl, rfl, rfl, rfl, rfl, rfl, rfl, rfl, rfl, rfl, rfl, rfl, rfl, trivial⟩
        have N8 : N [(23, .tuple #[.int .i64 (sumN (rowD m v 0)), .int .i64 (sumE (rowD m v 0))]), (28, .tuple #[.int .i64 (sumN (rowD m v 0)), .int .i64 (sumE (rowD m v 0))]), (27, .agg #[.int .i64 (v 0), .int .i64 (v 1), .int .i64 (v 2), .int .i64 (v 3)]), (26, .agg #[.int .i64 (m 0), .int .i64 (m 1), .int .i64 (m 2), .int .i64 (m 3)]), (25, .pointer (some ⟨u1, 0, none⟩)), (24, .int .i64 0), (7, .int .i64 0), (20, .int .i64 0), (6, .pointer (some ⟨u4, 0, none⟩)), (4, .pointer (some ⟨u3, 0, none⟩)), (3, .pointer (some ⟨u2, 0, none⟩)), (2, .pointer (some ⟨u1, 0, none⟩))] [(u4, .cells #[.int .i64 0, .int .i64 0, .int .i64 0, .int .i64 0] 23), (u3, .cells #[.int .i64 0, .int .i64 0, .int .i64 0, .int .i64 0] 23), (u2, .cells #[.int .i64 (v 0), .int .i64 (v 1), .int .i64 (v 2), .int .i64 (v 3)] 23), (u1, .cells #[.int .i64 (m 0), .int .i64 (m 1), .int .i64 (m 2), .int .i64 (m 3), .int .i64 (m 4), .int .i64 (m 5), .int .i64 (m 6), .int .i64 (m 7), .int .i64 (m 8), .int .i64 (m 9), .int .i64 (m 10), .int .i64 (m 11), .int .i64 (m 12), .int .i64 (m 13), .int .i64 (m 14), .int .i64 (m 15)] 25)] 4 #[true, true, true, true, true, true, false, false, false, false] := by
          refine (hN _ _ _ _).2 ?_
          refine Tr.take 6 (.int .i64 (sumN (rowD m v 0))) rfl (by kernel_rfl) (by kernel_rfl) (by kernel_rfl) rfl rfl rfl rfl ?_
          exact ((hN _ _ _ _).1 (N9)).sub [0, 1, 2, 3] (by decide) rfl ⟨rfl, rfl, rfl, rfl, rfl, rfl, rfl, rfl, rfl, rfl, rfl, rfl, rfl, trivial⟩
        have N7 : N [(28, .tuple #[.int .i64 (sumN (rowD m v 0)), .int .i64 (sumE (rowD m v 0))]), (27, .agg #[.int .i64 (v 0), .int .i64 (v 1), .int .i64 (v 2), .int .i64 (v 3)]), (26, .agg #[.int .i64 (m 0), .int .i64 (m 1), .int .i64 (m 2), .int .i64 (m 3)]), (25, .pointer (some ⟨u1, 0, none⟩)), (24, .int .i64 0), (7, .int .i64 0), (20, .int .i64 0), (6, .pointer (some ⟨u4, 0, none⟩)), (4, .pointer (some ⟨u3, 0, none⟩)), (3, .pointer (some ⟨u2, 0, none⟩)), (2, .pointer (some ⟨u1, 0, none⟩))] [(u4, .cells #[.int .i64 0, .int .i64 0, .int .i64 0, .int .i64 0] 23), (u3, .cells #[.int .i64 0, .int .i64 0, .int .i64 0, .int .i64 0] 23), (u2, .cells #[.int .i64 (v 0), .int .i64 (v 1), .int .i64 (v 2), .int .i64 (v 3)] 23), (u1, .cells #[.int .i64 (m 0), .int .i64 (m 1), .int .i64 (m 2), .int .i64 (m 3), .int .i64 (m 4), .int .i64 (m 5), .int .i64 (m 6), .int .i64 (m 7), .int .i64 (m 8), .int .i64 (m 9), .int .i64 (m 10), .int .i64 (m 11), .int .i64 (m 12), .int .i64 (m 13), .int .i64 (m 14), .int .i64 (m 15)] 25)] 5 #[true, true, true, true, true, false, false, false, false, false] := by
          refine (hN _ _ _ _).2 ?_
          refine Tr.take 5 (.tuple #[.int .i64 (sumN (rowD m v 0)), .int .i64 (sumE (rowD m v 0))]) rfl (by kernel_rfl) (by kernel_rfl) (by kernel_rfl) rfl rfl rfl rfl ?_
          exact ((hN _ _ _ _).1 (N8)).sub [0, 1, 2, 3] (by decide) rfl ⟨rfl, rfl, rfl, rfl, rfl, rfl, rfl, rfl, rfl, rfl, rfl, rfl, trivial⟩
        have N6 : N [(27, .agg #[.int .i64 (v 0), .int .i64 (v 1), .int .i64 (v 2), .int .i64 (v 3)]), (26, .agg #[.int .i64 (m 0), .int .i64 (m 1), .int .i64 (m 2), .int .i64 (m 3)]), (25, .pointer (some ⟨u1, 0, none⟩)), (24, .int .i64 0), (7, .int .i64 0), (20, .int .i64 0), (6, .pointer (some ⟨u4, 0, none⟩)), (4, .pointer (some ⟨u3, 0, none⟩)), (3, .pointer (some ⟨u2, 0, none⟩)), (2, .pointer (some ⟨u1, 0, none⟩))] [(u4, .cells #[.int .i64 0, .int .i64 0, .int .i64 0, .int .i64 0] 23), (u3, .cells #[.int .i64 0, .int .i64 0, .int .i64 0, .int .i64 0] 23), (u2, .cells #[.int .i64 (v 0), .int .i64 (v 1), .int .i64 (v 2), .int .i64 (v 3)] 23), (u1, .cells #[.int .i64 (m 0), .int .i64 (m 1), .int .i64 (m 2), .int .i64 (m 3), .int .i64 (m 4), .int .i64 (m 5), .int .i64 (m 6), .int .i64 (m 7), .int .i64 (m 8), .int .i64 (m 9), .int .i64 (m 10), .int .i64 (m 11), .int .i64 (m 12), .int .i64 (m 13), .int .i64 (m 14), .int .i64 (m 15)] 25)] 6 #[true, true, true, true, false, false, false, false, false, false] := by
          refine (hN _ _ _ _).2 ?_
          refine Tr.any 4 [] (by kernel_rfl) ⟨⟨_, rfl, ?_⟩, trivial⟩
          · skip
            refine Tr.one rfl (Tr.call (v := .tuple #[.int .i64 (sumN (rowD m v 0)), .int .i64 (sumE (rowD m v 0))]) F.en28 rfl (fun w hw => sum_n _ _ _ _ _ _ _ _ ⟨(ck_at (bd := 4611686018427387904) (m := m) (by assumption) 0 (by decide)), (ck_at (bd := 4611686018427387904) (m := m) (by assumption) 1 (by decide)), (ck_at (bd := 4611686018427387904) (m := m) (by assumption) 2 (by decide)), (ck_at (bd := 4611686018427387904) (m := m) (by assumption) 3 (by decide)), (ck_at (bd := 4611686018427387904) (m := vmat v) (by assumption) 0 (by decide)), (ck_at (bd := 4611686018427387904) (m := vmat v) (by assumption) 1 (by decide)), (ck_at (bd := 4611686018427387904) (m := vmat v) (by assumption) 2 (by decide)), (ck_at (bd := 4611686018427387904) (m := vmat v) (by assumption) 3 (by decide))⟩ w) rfl ?_)
            exact ((hN _ _ _ _).1 (N7)).sub [0, 1, 2, 3] (by decide) rfl ⟨rfl, rfl, rfl, rfl, rfl, rfl, rfl, rfl, rfl, rfl, rfl, trivial⟩
        have N5 : N [(27, .agg #[.int .i64 (v 0), .int .i64 (v 1), .int .i64 (v 2), .int .i64 (v 3)]), (25, .pointer (some ⟨u1, 0, none⟩)), (24, .int .i64 0), (7, .int .i64 0), (20, .int .i64 0), (6, .pointer (some ⟨u4, 0, none⟩)), (4, .pointer (some ⟨u3, 0, none⟩)), (3, .pointer (some ⟨u2, 0, none⟩)), (2, .pointer (some ⟨u1, 0, none⟩))] [(u4, .cells #[.int .i64 0, .int .i64 0, .int .i64 0, .int .i64 0] 23), (u3, .cells #[.int .i64 0, .int .i64 0, .int .i64 0, .int .i64 0] 23), (u2, .cells #[.int .i64 (v 0), .int .i64 (v 1), .int .i64 (v 2), .int .i64 (v 3)] 23), (u1, .cells #[.int .i64 (m 0), .int .i64 (m 1), .int .i64 (m 2), .int .i64 (m 3), .int .i64 (m 4), .int .i64 (m 5), .int .i64 (m 6), .int .i64 (m 7), .int .i64 (m 8), .int .i64 (m 9), .int .i64 (m 10), .int .i64 (m 11), .int .i64 (m 12), .int .i64 (m 13), .int .i64 (m 14), .int .i64 (m 15)] 25)] 7 #[true, true, false, true, false, false, false, false, false, false] := by
          refine (hN _ _ _ _).2 ?_
          refine Tr.any 2 [] (by kernel_rfl) ⟨⟨_, rfl, ?_⟩, trivial⟩
          · skip
            refine Tr.one rfl (Tr.loadN (vs := [.int .i64 (m 0), .int .i64 (m 1), .int .i64 (m 2), .int .i64 (m 3)]) F.ty23 rfl (Cells.own 3 4 rfl rfl) rfl rfl ?_)
            exact ((hN _ _ _ _).1 (N6)).sub [0, 1, 2, 3] (by decide) rfl ⟨rfl, rfl, rfl, rfl, rfl, rfl, rfl, rfl, rfl, rfl, trivial⟩
        have N4 : N [(26, .agg #[.int .i64 (m 0), .int .i64 (m 1), .int .i64 (m 2), .int .i64 (m 3)]), (25, .pointer (some ⟨u1, 0, none⟩)), (24, .int .i64 0), (7, .int .i64 0), (20, .int .i64 0), (6, .pointer (some ⟨u4, 0, none⟩)), (4, .pointer (some ⟨u3, 0, none⟩)), (3, .pointer (some ⟨u2, 0, none⟩)), (2, .pointer (some ⟨u1, 0, none⟩))] [(u4, .cells #[.int .i64 0, .int .i64 0, .int .i64 0, .int .i64 0] 23), (u3, .cells #[.int .i64 0, .int .i64 0, .int .i64 0, .int .i64 0] 23), (u2, .cells #[.int .i64 (v 0), .int .i64 (v 1), .int .i64 (v 2), .int .i64 (v 3)] 23), (u1, .cells #[.int .i64 (m 0), .int .i64 (m 1), .int .i64 (m 2), .int .i64 (m 3), .int .i64 (m 4), .int .i64 (m 5), .int .i64 (m 6), .int .i64 (m 7), .int .i64 (m 8), .int .i64 (m 9), .int .i64 (m 10), .int .i64 (m 11), .int .i64 (m 12), .int .i64 (m 13), .int .i64 (m 14), .int .i64 (m 15)] 25)] 7 #[true, true, true, false, false, false, false, false, false, false] := by
          refine (hN _ _ _ _).2 ?_
          refine Tr.any 3 [] (by kernel_rfl) ⟨⟨_, rfl, ?_⟩, trivial⟩
          · skip
            refine Tr.one rfl (Tr.loadN (vs := [.int .i64 (v 0), .int .i64 (v 1), .int .i64 (v 2), .int .i64 (v 3)]) F.ty23 rfl (Cells.own 2 4 rfl rfl) rfl rfl ?_)
            exact ((hN _ _ _ _).1 (N6)).sub [0, 1, 2, 3] (by decide) rfl ⟨rfl, rfl, rfl, rfl, rfl, rfl, rfl, rfl, rfl, rfl, trivial⟩
        have N3 : N [(27, .agg #[.int .i64 (v 0), .int .i64 (v 1), .int .i64 (v 2), .int .i64 (v 3)]), (24, .int .i64 0), (7, .int .i64 0), (20, .int .i64 0), (6, .pointer (some ⟨u4, 0, none⟩)), (4, .pointer (some ⟨u3, 0, none⟩)), (3, .pointer (some ⟨u2, 0, none⟩)), (2, .pointer (some ⟨u1, 0, none⟩))] [(u4, .cells #[.int .i64 0, .int .i64 0, .int .i64 0, .int .i64 0] 23), (u3, .cells #[.int .i64 0, .int .i64 0, .int .i64 0, .int .i64 0] 23), (u2, .cells #[.int .i64 (v 0), .int .i64 (v 1), .int .i64 (v 2), .int .i64 (v 3)] 23), (u1, .cells #[.int .i64 (m 0), .int .i64 (m 1), .int .i64 (m 2), .int .i64 (m 3), .int .i64 (m 4), .int .i64 (m 5), .int .i64 (m 6), .int .i64 (m 7), .int .i64 (m 8), .int .i64 (m 9), .int .i64 (m 10), .int .i64 (m 11), .int .i64 (m 12), .int .i64 (m 13), .int .i64 (m 14), .int .i64 (m 15)] 25)] 8 #[true, false, false, true, false, false, false, false, false, false] := by
          refine (hN _ _ _ _).2 ?_
          refine Tr.any 1 [] (by kernel_rfl) ⟨⟨_, rfl, ?_⟩, trivial⟩
          · skip
            refine Tr.one rfl (Tr.indexArr (o' := 0) F.arr25 rfl rfl (by decide) (by decide) (rfl) rfl ?_)
            exact ((hN _ _ _ _).1 (N5)).sub [0, 1, 2, 3] (by decide) rfl ⟨rfl, rfl, rfl, rfl, rfl, rfl, rfl, rfl, rfl, trivial⟩
        have N2 : N [(25, .pointer (some ⟨u1, 0, none⟩)), (24, .int .i64 0), (7, .int .i64 0), (20, .int .i64 0), (6, .pointer (some ⟨u4, 0, none⟩)), (4, .pointer (some ⟨u3, 0, none⟩)), (3, .pointer (some ⟨u2, 0, none⟩)), (2, .pointer (some ⟨u1, 0, none⟩))] [(u4, .cells #[.int .i64 0, .int .i64 0, .int .i64 0, .int .i64 0] 23), (u3, .cells #[.int .i64 0, .int .i64 0, .int .i64 0, .int .i64 0] 23), (u2, .cells #[.int .i64 (v 0), .int .i64 (v 1), .int .i64 (v 2), .int .i64 (v 3)] 23), (u1, .cells #[.int .i64 (m 0), .int .i64 (m 1), .int .i64 (m 2), .int .i64 (m 3), .int .i64 (m 4), .int .i64 (m 5), .int .i64 (m 6), .int .i64 (m 7), .int .i64 (m 8), .int .i64 (m 9), .int .i64 (m 10), .int .i64 (m 11), .int .i64 (m 12), .int .i64 (m 13), .int .i64 (m 14), .int .i64 (m 15)] 25)] 8 #[true, true, false, false, false, false, false, false, false, false] := by
          refine (hN _ _ _ _).2 ?_
          refine Tr.any 2 [3] (by kernel_rfl) ⟨⟨_, rfl, ?_⟩, ⟨_, rfl, ?_⟩, trivial⟩
          · skip
            refine Tr.one rfl (Tr.loadN (vs := [.int .i64 (m 0), .int .i64 (m 1), .int .i64 (m 2), .int .i64 (m 3)]) F.ty23 rfl (Cells.own 3 4 rfl rfl) rfl rfl ?_)
            exact ((hN _ _ _ _).1 (N4)).sub [0, 1, 2, 3] (by decide) rfl ⟨rfl, rfl, rfl, rfl, rfl, rfl, rfl, rfl, rfl, trivial⟩
          · skip
            refine Tr.one rfl (Tr.loadN (vs := [.int .i64 (v 0), .int .i64 (v 1), .int .i64 (v 2), .int .i64 (v 3)]) F.ty23 rfl (Cells.own 2 4 rfl rfl) rfl rfl ?_)
            exact ((hN _ _ _ _).1 (N5)).sub [0, 1, 2, 3] (by decide) rfl ⟨rfl, rfl, rfl, rfl, rfl, rfl, rfl, rfl, rfl, trivial⟩
        have N1 : N [(24, .int .i64 0), (7, .int .i64 0), (20, .int .i64 0), (6, .pointer (some ⟨u4, 0, none⟩)), (4, .pointer (some ⟨u3, 0, none⟩)), (3, .pointer (some ⟨u2, 0, none⟩)), (2, .pointer (some ⟨u1, 0, none⟩))] [(u4, .cells #[.int .i64 0, .int .i64 0, .int .i64 0, .int .i64 0] 23), (u3, .cells #[.int .i64 0, .int .i64 0, .int .i64 0, .int .i64 0] 23), (u2, .cells #[.int .i64 (v 0), .int .i64 (v 1), .int .i64 (v 2), .int .i64 (v 3)] 23), (u1, .cells #[.int .i64 (m 0), .int .i64 (m 1), .int .i64 (m 2), .int .i64 (m 3), .int .i64 (m 4), .int .i64 (m 5), .int .i64 (m 6), .int .i64 (m 7), .int .i64 (m 8), .int .i64 (m 9), .int .i64 (m 10), .int .i64 (m 11), .int .i64 (m 12), .int .i64 (m 13), .int .i64 (m 14), .int .i64 (m 15)] 25)] 9 #[true, false, false, false, false, false, false, false, false, false] := by
          refine (hN _ _ _ _).2 ?_
          refine Tr.any 1 [3] (by kernel_rfl) ⟨⟨_, rfl, ?_⟩, ⟨_, rfl, ?_⟩, trivial⟩
          · skip
            refine Tr.one rfl (Tr.indexArr (o' := 0) F.arr25 rfl rfl (by decide) (by decide) (rfl) rfl ?_)
            exact ((hN _ _ _ _).1 (N2)).sub [0, 1, 2, 3] (by decide) rfl ⟨rfl, rfl, rfl, rfl, rfl, rfl, rfl, rfl, trivial⟩
          · skip
            refine Tr.one rfl (Tr.loadN (vs := [.int .i64 (v 0), .int .i64 (v 1), .int .i64 (v 2), .int .i64 (v 3)]) F.ty23 rfl (Cells.own 2 4 rfl rfl) rfl rfl ?_)
            exact ((hN _ _ _ _).1 (N3)).sub [0, 1, 2, 3] (by decide) rfl ⟨rfl, rfl, rfl, rfl, rfl, rfl, rfl, rfl, trivial⟩
        have N0 : N [(7, .int .i64 0), (20, .int .i64 0), (6, .pointer (some ⟨u4, 0, none⟩)), (4, .pointer (some ⟨u3, 0, none⟩)), (3, .pointer (some ⟨u2, 0, none⟩)), (2, .pointer (some ⟨u1, 0, none⟩))] [(u4, .cells #[.int .i64 0, .int .i64 0, .int .i64 0, .int .i64 0] 23), (u3, .cells #[.int .i64 0, .int .i64 0, .int .i64 0, .int .i64 0] 23), (u2, .cells #[.int .i64 (v 0), .int .i64 (v 1), .int .i64 (v 2), .int .i64 (v 3)] 23), (u1, .cells #[.int .i64 (m 0), .int .i64 (m 1), .int .i64 (m 2), .int .i64 (m 3), .int .i64 (m 4), .int .i64 (m 5), .int .i64 (m 6), .int .i64 (m 7), .int .i64 (m 8), .int .i64 (m 9), .int .i64 (m 10), .int .i64 (m 11), .int .i64 (m 12), .int .i64 (m 13), .int .i64 (m 14), .int .i64 (m 15)] 25)] 10 #[false, false, false, false, false, false, false, false, false, false] := by
          refine (hN _ _ _ _).2 ?_
          refine Tr.take 0 (.int .i64 0) rfl (by kernel_rfl) (by kernel_rfl) (by kernel_rfl) rfl rfl rfl rfl ?_
          exact ((hN _ _ _ _).1 (N1)).sub [0, 1, 2, 3] (by decide) rfl ⟨rfl, rfl, rfl, rfl, rfl, rfl, rfl, trivial⟩
        exact (hN _ _ _ _).2 (((hN _ _ _ _).1 N0).sub [0, 1, 2, 3] (by decide) rfl ⟨rfl, rfl, rfl, rfl, rfl, rfl, trivial⟩)
      · rintro _
        refine Tr.thenN ?_
        refine Tr.seq ?_
        refine Tr.seq ?_
        refine Tr.region ?_
        refine Tr.step rfl (Tr.val rfl rfl ?_)
        refine Tr.step rfl (Tr.val rfl rfl ?_)
        refine Tr.nil ?_
        refine Tr.thenN ?_
        refine Tr.decide 32 rfl (fun h3 => ?_) (fun h3 => ?_)
        · replace h3 := nT h3
          refine Tr.yes rfl ?_
          refine Tr.seq ?_
          refine Tr.region ?_
          refine Tr.step rfl (Tr.buildA #[.int .i64 0, .int .i64 0, .int .i64 0, .int .i64 0] F.und23 F.ty23 F.ty2 rfl (by kernel_rfl) rfl ?_)
          refine Tr.step rfl (Tr.val rfl rfl ?_)
          refine Tr.step rfl (Tr.store 1 F.ty23 rfl rfl rfl rfl rfl rfl rfl rfl rfl rfl ?_)
          refine Tr.step rfl (Tr.val rfl rfl ?_)
          refine Tr.nil ?_
          refine Tr.thenN ?_
          refine Tr.ret ?_
          refine Tr.thenR ?_
          refine Tr.blockR ?_
          refine Tr.thenR ?_
          refine Tr.thenR ?_
          refine Tr.blockR ?_
          refine Tr.thenR ?_
          refine Tr.leave rfl rfl ?_
          refine Tr.res2 rfl (RsV.cellN (vs := [.int .i64 0, .int .i64 0, .int .i64 0, .int .i64 0]) rfl F.ty23 (Cells.own 1 4 rfl rfl) rfl) (RsV.tmp rfl) (fun w hw => ?_)
          exact ⟨by simp [applyN, applyE, *], hw.fm⟩
        · replace h3 := nF h3
          refine Tr.not rfl ?_
          refine Tr.skip ?_
          refine Tr.thenN ?_
          refine Tr.region ?_
          refine Tr.step rfl (Tr.val rfl rfl ?_)
          refine Tr.step rfl (Tr.val rfl rfl ?_)
          refine Tr.step rfl (Tr.indexArr (o' := 0) F.arr23 rfl rfl (by decide) (by decide) (rfl) rfl ?_)
          refine Tr.step rfl (Tr.store 0 F.ty2 rfl rfl rfl rfl rfl rfl rfl rfl rfl rfl ?_)
          refine Tr.nil ?_
          refine Tr.blockN ?_
          refine Tr.thenN ?_
          refine Tr.region ?_
          refine Tr.step rfl (Tr.valE (.int .i64 1) rfl (rfl) rfl ?_)
          refine Tr.step rfl (Tr.val rfl rfl ?_)
          refine Tr.nil ?_
          refine Tr.thenN ?_
          refine Tr.sub (l' := [(20, .int .i64 1), (6, .pointer (some ⟨u4, 0, none⟩)), (4, .pointer (some ⟨u3, 0, none⟩)), (3, .pointer (some ⟨u2, 0, none⟩)), (2, .pointer (some ⟨u1, 0, none⟩))]) (h' := [(u4, .cells #[.int .i64 (sumN (rowD m v 0)), .int .i64 0, .int .i64 0, .int .i64 0] 23), (u3, .cells #[.int .i64 0, .int .i64 0, .int .i64 0, .int .i64 0] 23), (u2, .cells #[.int .i64 (v 0), .int .i64 (v 1), .int .i64 (v 2), .int .i64 (v 3)] 23), (u1, .cells #[.int .i64 (m 0), .int .i64 (m 1), .int .i64 (m 2), .int .i64 (m 3), .int .i64 (m 4), .int .i64 (m 5), .int .i64 (m 6), .int .i64 (m 7), .int .i64 (m 8), .int .i64 (m 9), .int .i64 (m 10), .int .i64 (m 11), .int .i64 (m 12), .int .i64 (m 13), .int .i64 (m 14), .int .i64 (m 15)] 25)]) ?_ [0, 1, 2, 3] (by decide) rfl ⟨rfl, rfl, rfl, rfl, rfl, trivial⟩
          refine Tr.roundU ?_
          refine Tr.seq ?_
          refine Tr.region ?_
          refine Tr.step rfl (Tr.valE (.bool true) rfl rfl rfl ?_)
          refine Tr.nil ?_
          refine Tr.thenN ?_
          refine Tr.seq ?_
          refine Tr.yes rfl ?_
          refine Tr.skip ?_
          refine Tr.thenN ?_
          refine Tr.seq ?_
          refine Tr.block ?_
          refine Tr.seq ?_
          refine Tr.region ?_
          refine Tr.step rfl (Tr.val rfl rfl ?_)
          refine Tr.step rfl (Tr.val rfl rfl ?_)
          refine Tr.nil ?_
          refine Tr.thenN ?_
          refine Tr.seq ?_
          refine Tr.sub (l' := [(7, .int .i64 1), (20, .int .i64 1), (6, .pointer (some ⟨u4, 0, none⟩)), (4, .pointer (some ⟨u3, 0, none⟩)), (3, .pointer (some ⟨u2, 0, none⟩)), (2, .pointer (some ⟨u1, 0, none⟩))]) (h' := [(u4, .cells #[.int .i64 (sumN (rowD m v 0)), .int .i64 0, .int .i64 0, .int .i64 0] 23), (u3, .cells #[.int .i64 0, .int .i64 0, .int .i64 0, .int .i64 0] 23), (u2, .cells #[.int .i64 (v 0), .int .i64 (v 1), .int .i64 (v 2), .int .i64 (v 3)] 23), (u1, .cells #[.int .i64 (m 0), .int .i64 (m 1), .int .i64 (m 2), .int .i64 (m 3), .int .i64 (m 4), .int .i64 (m 5), .int .i64 (m 6), .int .i64 (m 7), .int .i64 (m 8), .int .i64 (m 9), .int .i64 (m 10), .int .i64 (m 11), .int .i64 (m 12), .int .i64 (m 13), .int .i64 (m 14), .int .i64 (m 15)] 25)]) ?_ [0, 1, 2, 3] (by decide) rfl ⟨rfl, rfl, rfl, rfl, rfl, rfl, trivial⟩
          refine Tr.drawG (Y := Unit) (fun _ => [(9, .int .i64 (sumE (rowD m v 1))), (8, .int .i64 (sumN (rowD m v 1))), (30, .int .i64 (sumE (rowD m v 1))), (29, .int .i64 (sumN (rowD m v 1))), (23, .tuple #[.int .i64 (sumN (rowD m v 1)), .int .i64 (sumE (rowD m v 1))]), (28, .tuple #[.int .i64 (sumN (rowD m v 1)), .int .i64 (sumE (rowD m v 1))]), (27, .agg #[.int .i64 (v 0), .int .i64 (v 1), .int .i64 (v 2), .int .i64 (v 3)]), (26, .agg #[.int .i64 (m 4), .int .i64 (m 5), .int .i64 (m 6), .int .i64 (m 7)]), (25, .pointer (some ⟨u1, 4, none⟩)), (24, .int .i64 1), (7, .int .i64 1), (20, .int .i64 1), (6, .pointer (some ⟨u4, 0, none⟩)), (4, .pointer (some ⟨u3, 0, none⟩)), (3, .pointer (some ⟨u2, 0, none⟩)), (2, .pointer (some ⟨u1, 0, none⟩))]) (fun _ => [(u4, .cells #[.int .i64 (sumN (rowD m v 0)), .int .i64 0, .int .i64 0, .int .i64 0] 23), (u3, .cells #[.int .i64 0, .int .i64 0, .int .i64 0, .int .i64 0] 23), (u2, .cells #[.int .i64 (v 0), .int .i64 (v 1), .int .i64 (v 2), .int .i64 (v 3)] 23), (u1, .cells #[.int .i64 (m 0), .int .i64 (m 1), .int .i64 (m 2), .int .i64 (m 3), .int .i64 (m 4), .int .i64 (m 5), .int .i64 (m 6), .int .i64 (m 7), .int .i64 (m 8), .int .i64 (m 9), .int .i64 (m 10), .int .i64 (m 11), .int .i64 (m 12), .int .i64 (m 13), .int .i64 (m 14), .int .i64 (m 15)] 25)]) F.mixed ?_ ?_
          · intro K N hN tE
            have N12 : N [(9, .int .i64 (sumE (rowD m v 1))), (8, .int .i64 (sumN (rowD m v 1))), (30, .int .i64 (sumE (rowD m v 1))), (29, .int .i64 (sumN (rowD m v 1))), (23, .tuple #[.int .i64 (sumN (rowD m v 1)), .int .i64 (sumE (rowD m v 1))]), (28, .tuple #[.int .i64 (sumN (rowD m v 1)), .int .i64 (sumE (rowD m v 1))]), (27, .agg #[.int .i64 (v 0), .int .i64 (v 1), .int .i64 (v 2), .int .i64 (v 3)]), (26, .agg #[.int .i64 (m 4), .int .i64 (m 5), .int .i64 (m 6), .int .i64 (m 7)]), (25, .pointer (some ⟨u1, 4, none⟩)), (24, .int .i64 1), (7, .int .i64 1), (20, .int .i64 1), (6, .pointer (some ⟨u4, 0, none⟩)), (4, .pointer (some ⟨u3, 0, none⟩)), (3, .pointer (some ⟨u2, 0, none⟩)), (2, .pointer (some ⟨u1, 0, none⟩))] [(u4, .cells #[.int .i64 (sumN (rowD m v 0)), .int .i64 0, .int .i64 0, .int .i64 0] 23), (u3, .cells #[.int .i64 0, .int .i64 0, .int .i64 0, .int .i64 0] 23), (u2, .cells #[.int .i64 (v 0), .int .i64 (v 1), .int .i64 (v 2), .int .i64 (v 3)] 23), (u1, .cells #[.int .i64 (m 0), .int .i64 (m 1), .int .i64 (m 2), .int .i64 (m 3), .int .i64 (m 4), .int .i64 (m 5), .int .i64 (m 6), .int .i64 (m 7), .int .i64 (m 8), .int .i64 (m 9), .int .i64 (m 10), .int .i64 (m 11), .int .i64 (m 12), .int .i64 (m 13), .int .i64 (m 14), .int .i64 (m 15)] 25)] 0 #[true, true, true, true, true, true, true, true, true, true] := by
              refine (hN _ _ _ _).2 ?_
              exact Tr.anyEnd (by kernel_rfl) (tE ())
            have N11 : N [(8, .int .i64 (sumN (rowD m v 1))), (30, .int .i64 (sumE (rowD m v 1))), (29, .int .i64 (sumN (rowD m v 1))), (23, .tuple #[.int .i64 (sumN (rowD m v 1)), .int .i64 (sumE (rowD m v 1))]), (28, .tuple #[.int .i64 (sumN (rowD m v 1)), .int .i64 (sumE (rowD m v 1))]), (27, .agg #[.int .i64 (v 0), .int .i64 (v 1), .int .i64 (v 2), .int .i64 (v 3)]), (26, .agg #[.int .i64 (m 4), .int .i64 (m 5), .int .i64 (m 6), .int .i64 (m 7)]), (25, .pointer (some ⟨u1, 4, none⟩)), (24, .int .i64 1), (7, .int .i64 1), (20, .int .i64 1), (6, .pointer (some ⟨u4, 0, none⟩)), (4, .pointer (some ⟨u3, 0, none⟩)), (3, .pointer (some ⟨u2, 0, none⟩)), (2, .pointer (some ⟨u1, 0, none⟩))] [(u4, .cells #[.int .i64 (sumN (rowD m v 0)), .int .i64 0, .int .i64 0, .int .i64 0] 23), (u3, .cells #[.int .i64 0, .int .i64 0, .int .i64 0, .int .i64 0] 23), (u2, .cells #[.int .i64 (v 0), .int .i64 (v 1), .int .i64 (v 2), .int .i64 (v 3)] 23), (u1, .cells #[.int .i64 (m 0), .int .i64 (m 1), .int .i64 (m 2), .int .i64 (m 3), .int .i64 (m 4), .int .i64 (m 5), .int .i64 (m 6), .int .i64 (m 7), .int .i64 (m 8), .int .i64 (m 9), .int .i64 (m 10), .int .i64 (m 11), .int .i64 (m 12), .int .i64 (m 13), .int .i64 (m 14), .int .i64 (m 15)] 25)] 1 #[true, true, true, true, true, true, true, true, true, false] := by
              refine (hN _ _ _ _).2 ?_
              refine Tr.take 9 (.int .i64 (sumE (rowD m v 1))) rfl (by kernel_rfl) (by kernel_rfl) (by kernel_rfl) rfl rfl rfl rfl ?_
              exact ((hN _ _ _ _).1 (N12)).sub [0, 1, 2, 3] (by decide) rfl ⟨rfl, rfl, rfl, rfl, rfl, rfl, rfl, rfl, rfl, rfl, rfl, rfl, rfl, rfl, rfl, rfl, trivial⟩
            have N10 : N [(30, .int .i64 (sumE (rowD m v 1))), (29, .int .i64 (sumN (rowD m v 1))), (23, .tuple #[.int .i64 (sumN (rowD m v 1)), .int .i64 (sumE (rowD m v 1))]), (28, .tuple #[.int .i64 (sumN (rowD m v 1)), .int .i64 (sumE (rowD m v 1))]), (27, .agg #[.int .i64 (v 0), .int .i64 (v 1), .int .i64 (v 2), .int .i64 (v 3)]), (26, .agg #[.int .i64 (m 4), .int .i64 (m 5), .int .i64 (m 6), .int .i64 (m 7)]), (25, .pointer (some ⟨u1, 4, none⟩)), (24, .int .i64 1), (7, .int .i64 1), (20, .int .i64 1), (6, .pointer (some ⟨u4, 0, none⟩)), (4, .pointer (some ⟨u3, 0, none⟩)), (3, .pointer (some ⟨u2, 0, none⟩)), (2, .pointer (some ⟨u1, 0, none⟩))] [(u4, .cells #[.int .i64 (sumN (rowD m v 0)), .int .i64 0, .int .i64 0, .int .i64 0] 23), (u3, .cells #[.int .i64 0, .int .i64 0, .int .i64 0, .int .i64 0] 23), (u2, .cells #[.int .i64 (v 0), .int .i64 (v 1), .int .i64 (v 2), .int .i64 (v 3)] 23), (u1, .cells #[.int .i64 (m 0), .int .i64 (m 1), .int .i64 (m 2), .int .i64 (m 3), .int .i64 (m 4), .int .i64 (m 5), .int .i64 (m 6), .int .i64 (m 7), .int .i64 (m 8), .int .i64 (m 9), .int .i64 (m 10), .int .i64 (m 11), .int .i64 (m 12), .int .i64 (m 13), .int .i64 (m 14), .int .i64 (m 15)] 25)] 2 #[true, true, true, true, true, true, true, true, false, false] := by
              refine (hN _ _ _ _).2 ?_
              refine Tr.take 8 (.int .i64 (sumN (rowD m v 1))) rfl (by kernel_rfl) (by kernel_rfl) (by kernel_rfl) rfl rfl rfl rfl ?_
              exact ((hN _ _ _ _).1 (N11)).sub [0, 1, 2, 3] (by decide) rfl ⟨rfl, rfl, rfl, rfl, rfl, rfl, rfl, rfl, rfl, rfl, rfl, rfl, rfl, rfl, rfl, trivial⟩
            have N9 : N [(29, .int .i64 (sumN (rowD m v 1))), (23, .tuple #[.int .i64 (sumN (rowD m v 1)), .int .i64 (sumE (rowD m v 1))]), (28, .tuple #[.int .i64 (sumN (rowD m v 1)), .int .i64 (sumE (rowD m v 1))]), (27, .agg #[.int .i64 (v 0), .int .i64 (v 1), .int .i64 (v 2), .int .i64 (v 3)]), (26, .agg #[.int .i64 (m 4), .int .i64 (m 5), .int .i64 (m 6), .int .i64 (m 7)]), (25, .pointer (some ⟨u1, 4, none⟩)), (24, .int .i64 1), (7, .int .i64 1), (20, .int .i64 1), (6, .pointer (some ⟨u4, 0, none⟩)), (4, .pointer (some ⟨u3, 0, none⟩)), (3, .pointer (some ⟨u2, 0, none⟩)), (2, .pointer (some ⟨u1, 0, none⟩))] [(u4, .cells #[.int .i64 (sumN (rowD m v 0)), .int .i64 0, .int .i64 0, .int .i64 0] 23), (u3, .cells #[.int .i64 0, .int .i64 0, .int .i64 0, .int .i64 0] 23), (u2, .cells #[.int .i64 (v 0), .int .i64 (v 1), .int .i64 (v 2), .int .i64 (v 3)] 23), (u1, .cells #[.int .i64 (m 0), .int .i64 (m 1), .int .i64 (m 2), .int .i64 (m 3), .int .i64 (m 4), .int .i64 (m 5), .int .i64 (m 6), .int .i64 (m 7), .int .i64 (m 8), .int .i64 (m 9), .int .i64 (m 10), .int .i64 (m 11), .int .i64 (m 12), .int .i64 (m 13), .int .i64 (m 14), .int .i64 (m 15)] 25)] 3 #[true, true, true, true, true, true, true, false, false, false] := by
              refine (hN _ _ _ _).2 ?_
              refine Tr.take 7 (.int .i64 (sumE (rowD m v 1))) rfl (by kernel_rfl) (by kernel_rfl) (by kernel_rfl) rfl rfl rfl rfl ?_
              exact ((hN _ _ _ _).1 (N10)).sub [0, 1, 2, 3] (by decide) rfl ⟨rfl, rfl, rfl, rfl, rfl, rfl, rfl, rfl, rfl, rfl, rfl, rfl, rfl, rfl, trivial⟩
            have N8 : N [(23, .tuple #[.int .i64 (sumN (rowD m v 1)), .int .i64 (sumE (rowD m v 1))]), (28, .tuple #[.int .i64 (sumN (rowD m v 1)), .int .i64 (sumE (rowD m v 1))]), (27, .agg #[.int .i64 (v 0), .int .i64 (v 1), .int .i64 (v 2), .int .i64 (v 3)]), (26, .agg #[.int .i64 (m 4), .int .i64 (m 5), .int .i64 (m 6), .int .i64 (m 7)]), (25, .pointer (some ⟨u1, 4, none⟩)), (24, .int .i64 1), (7, .int .i64 1), (20, .int .i64 1), (6, .pointer (some ⟨u4, 0, none⟩)), (4, .pointer (some ⟨u3, 0, none⟩)), (3, .pointer (some ⟨u2, 0, none⟩)), (2, .pointer (some ⟨u1, 0, none⟩))] [(u4, .cells #[.int .i64 (sumN (rowD m v 0)), .int .i64 0, .int .i64 0, .int .i64 0] 23), (u3, .cells #[.int .i64 0, .int .i64 0, .int .i64 0, .int .i64 0] 23), (u2, .cells #[.int .i64 (v 0), .int .i64 (v 1), .int .i64 (v 2), .int .i64 (v 3)] 23), (u1, .cells #[.int .i64 (m 0), .int .i64 (m 1), .int .i64 (m 2), .int .i64 (m 3), .int .i64 (m 4), .int .i64 (m 5), .int .i64 (m 6), .int .i64 (m 7), .int .i64 (m 8), .int .i64 (m 9), .int .i64 (m 10), .int .i64 (m 11), .int .i64 (m 12), .int .i64 (m 13), .int .i64 (m 14), .int .i64 (m 15)] 25)] 4 #[true, true, true, true, true, true, false, false, false, false] := by
              refine (hN _ _ _ _).2 ?_
              refine Tr.take 6 (.int .i64 (sumN (rowD m v 1))) rfl (by kernel_rfl) (by kernel_rfl) (by kernel_rfl) rfl rfl rfl rfl ?_
              exact ((hN _ _ _ _).1 (N9)).sub [0, 1, 2, 3] (by decide) rfl ⟨rfl, rfl, rfl, rfl, rfl, rfl, rfl, rfl, rfl, rfl, rfl, rfl, rfl, trivial⟩
            have N7 : N [(28, .tuple #[.int .i64 (sumN (rowD m v 1)), .int .i64 (sumE (rowD m v 1))]), (27, .agg #[.int .i64 (v 0), .int .i64 (v 1), .int .i64 (v 2), .int .i64 (v 3)]), (26, .agg #[.int .i64 (m 4), .int .i64 (m 5), .int .i64 (m 6), .int .i64 (m 7)]), (25, .pointer (some ⟨u1, 4, none⟩)), (24, .int .i64 1), (7, .int .i64 1), (20, .int .i64 1), (6, .pointer (some ⟨u4, 0, none⟩)), (4, .pointer (some ⟨u3, 0, none⟩)), (3, .pointer (some ⟨u2, 0, none⟩)), (2, .pointer (some ⟨u1, 0, none⟩))] [(u4, .cells #[.int .i64 (sumN (rowD m v 0)), .int .i64 0, .int .i64 0, .int .i64 0] 23), (u3, .cells #[.int .i64 0, .int .i64 0, .int .i64 0, .int .i64 0] 23), (u2, .cells #[.int .i64 (v 0), .int .i64 (v 1), .int .i64 (v 2), .int .i64 (v 3)] 23), (u1, .cells #[.int .i64 (m 0), .int .i64 (m 1), .int .i64 (m 2), .int .i64 (m 3), .int .i64 (m 4), .int .i64 (m 5), .int .i64 (m 6), .int .i64 (m 7), .int .i64 (m 8), .int .i64 (m 9), .int .i64 (m 10), .int .i64 (m 11), .int .i64 (m 12), .int .i64 (m 13), .int .i64 (m 14), .int .i64 (m 15)] 25)] 5 #[true, true, true, true, true, false, false, false, false, false] := by
              refine (hN _ _ _ _).2 ?_
              refine Tr.take 5 (.tuple #[.int .i64 (sumN (rowD m v 1)), .int .i64 (sumE (rowD m v 1))]) rfl (by kernel_rfl) (by kernel_rfl) (by kernel_rfl) rfl rfl rfl rfl ?_
              exact ((hN _ _ _ _).1 (N8)).sub [0, 1, 2, 3] (by decide) rfl ⟨rfl, rfl, rfl, rfl, rfl, rfl, rfl, rfl, rfl, rfl, rfl, rfl, trivial⟩
            have N6 : N [(27, .agg #[.int .i64 (v 0), .int .i64 (v 1), .int .i64 (v 2), .int .i64 (v 3)]), (26, .agg #[.int .i64 (m 4), .int .i64 (m 5), .int .i64 (m 6), .int .i64 (m 7)]), (25, .pointer (some ⟨u1, 4, none⟩)), (24, .int .i64 1), (7, .int .i64 1), (20, .int .i64 1), (6, .pointer (some ⟨u4, 0, none⟩)), (4, .pointer (some ⟨u3, 0, none⟩)), (3, .pointer (some ⟨u2, 0, none⟩)), (2, .pointer (some ⟨u1, 0, none⟩))] [(u4, .cells #[.int .i64 (sumN (rowD m v 0)), .int .i64 0, .int .i64 0, .int .i64 0] 23), (u3, .cells #[.int .i64 0, .int .i64 0, .int .i64 0, .int .i64 0] 23), (u2, .cells #[.int .i64 (v 0), .int .i64 (v 1), .int .i64 (v 2), .int .i64 (v 3)] 23), (u1, .cells #[.int .i64 (m 0), .int .i64 (m 1), .int .i64 (m 2), .int .i64 (m 3), .int .i64 (m 4), .int .i64 (m 5), .int .i64 (m 6), .int .i64 (m 7), .int .i64 (m 8), .int .i64 (m 9), .int .i64 (m 10), .int .i64 (m 11), .int .i64 (m 12), .int .i64 (m 13), .int .i64 (m 14), .int .i64 (m 15)] 25)] 6 #[true, true, true, true, false, false, false, false, false, false] := by
              refine (hN _ _ _ _).2 ?_
              refine Tr.any 4 [] (by kernel_rfl) ⟨⟨_, rfl, ?_⟩, trivial⟩
              · skip
                refine Tr.one rfl (Tr.call (v := .tuple #[.int .i64 (sumN (rowD m v 1)), .int .i64 (sumE (rowD m v 1))]) F.en28 rfl (fun w hw => sum_n _ _ _ _ _ _ _ _ ⟨(ck_at (bd := 4611686018427387904) (m := m) (by assumption) 4 (by decide)), (ck_at (bd := 4611686018427387904) (m := m) (by assumption) 5 (by decide)), (ck_at (bd := 4611686018427387904) (m := m) (by assumption) 6 (by decide)), (ck_at (bd := 4611686018427387904) (m := m) (by assumption) 7 (by decide)), (ck_at (bd := 4611686018427387904) (m := vmat v) (by assumption) 0 (by decide)), (ck_at (bd := 4611686018427387904) (m := vmat v) (by assumption) 1 (by decide)), (ck_at (bd := 4611686018427387904) (m := vmat v) (by assumption) 2 (by decide)), (ck_at (bd := 4611686018427387904) (m := vmat v) (by assumption) 3 (by decide))⟩ w) rfl ?_)
                exact ((hN _ _ _ _).1 (N7)).sub [0, 1, 2, 3] (by decide) rfl ⟨rfl, rfl, rfl, rfl, rfl, rfl, rfl, rfl, rfl, rfl, rfl, trivial⟩
            have N5 : N [(27, .agg #[.int .i64 (v 0), .int .i64 (v 1), .int .i64 (v 2), .int .i64 (v 3)]), (25, .pointer (some ⟨u1, 4, none⟩)), (24, .int .i64 1), (7, .int .i64 1), (20, .int .i64 1), (6, .pointer (some ⟨u4, 0, none⟩)), (4, .pointer (some ⟨u3, 0, none⟩)), (3, .pointer (some ⟨u2, 0, none⟩)), (2, .pointer (some ⟨u1, 0, none⟩))] [(u4, .cells #[.int .i64 (sumN (rowD m v 0)), .int .i64 0, .int .i64 0, .int .i64 0] 23), (u3, .cells #[.int .i64 0, .int .i64 0, .int .i64 0, .int .i64 0] 23), (u2, .cells #[.int .i64 (v 0), .int .i64 (v 1), .int .i64 (v 2), .int .i64 (v 3)] 23), (u1, .cells #[.int .i64 (m 0), .int .i64 (m 1), .int .i64 (m 2), .int .i64 (m 3), .int .i64 (m 4), .int .i64 (m 5), .int .i64 (m 6), .int .i64 (m 7), .int .i64 (m 8), .int .i64 (m 9), .int .i64 (m 10), .int .i64 (m 11), .int .i64 (m 12), .int .i64 (m 13), .int .i64 (m 14), .int .i64 (m 15)] 25)] 7 #[true, true, false, true, false, false, false, false, false, false] := by
              refine (hN _ _ _ _).2 ?_
              refine Tr.any 2 [] (by kernel_rfl) ⟨⟨_, rfl, ?_⟩, trivial⟩
              · skip
                refine Tr.one rfl (Tr.loadN (vs := [.int .i64 (m 4), .int .i64 (m 5), .int .i64 (m 6), .int .i64 (m 7)]) F.ty23 rfl (Cells.own 3 4 rfl rfl) rfl rfl ?_)
                exact ((hN _ _ _ _).1 (N6)).sub [0, 1, 2, 3] (by decide) rfl ⟨rfl, rfl, rfl, rfl, rfl, rfl, rfl, rfl, rfl, rfl, trivial⟩
            have N4 : N [(26, .agg #[.int .i64 (m 4), .int .i64 (m 5), .int .i64 (m 6), .int .i64 (m 7)]), (25, .pointer (some ⟨u1, 4, none⟩)), (24, .int .i64 1), (7, .int .i64 1), (20, .int .i64 1), (6, .pointer (some ⟨u4, 0, none⟩)), (4, .pointer (some ⟨u3, 0, none⟩)), (3, .pointer (some ⟨u2, 0, none⟩)), (2, .pointer (some ⟨u1, 0, none⟩))] [(u4, .cells #[.int .i64 (sumN (rowD m v 0)), .int .i64 0, .int .i64 0, .int .i64 0] 23), (u3, .cells #[.int .i64 0, .int .i64 0, .int .i64 0, .int .i64 0] 23), (u2, .cells #[.int .i64 (v 0), .int .i64 (v 1), .int .i64 (v 2), .int .i64 (v 3)] 23), (u1, .cells #[.int .i64 (m 0), .int .i64 (m 1), .int .i64 (m 2), .int .i64 (m 3), .int .i64 (m 4), .int .i64 (m 5), .int .i64 (m 6), .int .i64 (m 7), .int .i64 (m 8), .int .i64 (m 9), .int .i64 (m 10), .int .i64 (m 11), .int .i64 (m 12), .int .i64 (m 13), .int .i64 (m 14), .int .i64 (m 15)] 25)] 7 #[true, true, true, false, false, false, false, false, false, false] := by
              refine (hN _ _ _ _).2 ?_
              refine Tr.any 3 [] (by kernel_rfl) ⟨⟨_, rfl, ?_⟩, trivial⟩
              · skip
                refine Tr.one rfl (Tr.loadN (vs := [.int .i64 (v 0), .int .i64 (v 1), .int .i64 (v 2), .int .i64 (v 3)]) F.ty23 rfl (Cells.own 2 4 rfl rfl) rfl rfl ?_)
                exact ((hN _ _ _ _).1 (N6)).sub [0, 1, 2, 3] (by decide) rfl ⟨rfl, rfl, rfl, rfl, rfl, rfl, rfl, rfl, rfl, rfl, trivial⟩
            have N3 : N [(27, .agg #[.int .i64 (v 0), .int .i64 (v 1), .int .i64 (v 2), .int .i64 (v 3)]), (24, .int .i64 1), (7, .int .i64 1), (20, .int .i64 1), (6, .pointer (some ⟨u4, 0, none⟩)), (4, .pointer (some ⟨u3, 0, none⟩)), (3, .pointer (some ⟨u2, 0, none⟩)), (2, .pointer (some ⟨u1, 0, none⟩))] [(u4, .cells #[.int .i64 (sumN (rowD m v 0)), .int .i64 0, .int .i64 0, .int .i64 0] 23), (u3, .cells #[.int .i64 0, .int .i64 0, .int .i64 0, .int .i64 0] 23), (u2, .cells #[.int .i64 (v 0), .int .i64 (v 1), .int .i64 (v 2), .int .i64 (v 3)] 23), (u1, .cells #[.int .i64 (m 0), .int .i64 (m 1), .int .i64 (m 2), .int .i64 (m 3), .int .i64 (m 4), .int .i64 (m 5), .int .i64 (m 6), .int .i64 (m 7), .int .i64 (m 8), .int .i64 (m 9), .int .i64 (m 10), .int .i64 (m 11), .int .i64 (m 12), .int .i64 (m 13), .int .i64 (m 14), .int .i64 (m 15)] 25)] 8 #[true, false, false, true, false, false, false, false, false, false] := by
              refine (hN _ _ _ _).2 ?_
              refine Tr.any 1 [] (by kernel_rfl) ⟨⟨_, rfl, ?_⟩, trivial⟩
              · skip
                refine Tr.one rfl (Tr.indexArr (o' := 4) F.arr25 rfl rfl (by decide) (by decide) (rfl) rfl ?_)
                exact ((hN _ _ _ _).1 (N5)).sub [0, 1, 2, 3] (by decide) rfl ⟨rfl, rfl, rfl, rfl, rfl, rfl, rfl, rfl, rfl, trivial⟩
            have N2 : N [(25, .pointer (some ⟨u1, 4, none⟩)), (24, .int .i64 1), (7, .int .i64 1), (20, .int .i64 1), (6, .pointer (some ⟨u4, 0, none⟩)), (4, .pointer (some ⟨u3, 0, none⟩)), (3, .pointer (some ⟨u2, 0, none⟩)), (2, .pointer (some ⟨u1, 0, none⟩))] [(u4, .cells #[.int .i64 (sumN (rowD m v 0)), .int .i64 0, .int .i64 0, .int .i64 0] 23), (u3, .cells #[.int .i64 0, .int .i64 0, .int .i64 0, .int .i64 0] 23), (u2, .cells #[.int .i64 (v 0), .int .i64 (v 1), .int .i64 (v 2), .int .i64 (v 3)] 23), (u1, .cells #[.int .i64 (m 0), .int .i64 (m 1), .int .i64 (m 2), .int .i64 (m 3), .int .i64 (m 4), .int .i64 (m 5), .int .i64 (m 6), .int .i64 (m 7), .int .i64 (m 8), .int .i64 (m 9), .int .i64 (m 10), .int .i64 (m 11), .int .i64 (m 12), .int .i64 (m 13), .int .i64 (m 14), .int .i64 (m 15)] 25)] 8 #[true, true, false, false, false, false, false, false, false, false] := by
              refine (hN _ _ _ _).2 ?_
              refine Tr.any 2 [3] (by kernel_rfl) ⟨⟨_, rfl, ?_⟩, ⟨_, rfl, ?_⟩, trivial⟩
              · skip
                refine Tr.one rfl (Tr.loadN (vs := [.int .i64 (m 4), .int .i64 (m 5), .int .i64 (m 6), .int .i64 (m 7)]) F.ty23 rfl (Cells.own 3 4 rfl rfl) rfl rfl ?_)
                exact ((hN _ _ _ _).1 (N4)).sub [0, 1, 2, 3] (by decide) rfl ⟨rfl, rfl, rfl, rfl, rfl, rfl, rfl, rfl, rfl, trivial⟩
              · skip
                refine Tr.one rfl (Tr.loadN (vs := [.int .i64 (v 0), .int .i64 (v 1), .int .i64 (v 2), .int .i64 (v 3)]) F.ty23 rfl (Cells.own 2 4 rfl rfl) rfl rfl ?_)
                exact ((hN _ _ _ _).1 (N5)).sub [0, 1, 2, 3] (by decide) rfl ⟨rfl, rfl, rfl, rfl, rfl, rfl, rfl, rfl, rfl, trivial⟩
            have N1 : N [(24, .int .i64 1), (7, .int .i64 1), (20, .int .i64 1), (6, .pointer (some ⟨u4, 0, none⟩)), (4, .pointer (some ⟨u3, 0, none⟩)), (3, .pointer (some ⟨u2, 0, none⟩)), (2, .pointer (some ⟨u1, 0, none⟩))] [(u4, .cells #[.int .i64 (sumN (rowD m v 0)), .int .i64 0, .int .i64 0, .int .i64 0] 23), (u3, .cells #[.int .i64 0, .int .i64 0, .int .i64 0, .int .i64 0] 23), (u2, .cells #[.int .i64 (v 0), .int .i64 (v 1), .int .i64 (v 2), .int .i64 (v 3)] 23), (u1, .cells #[.int .i64 (m 0), .int .i64 (m 1), .int .i64 (m 2), .int .i64 (m 3), .int .i64 (m 4), .int .i64 (m 5), .int .i64 (m 6), .int .i64 (m 7), .int .i64 (m 8), .int .i64 (m 9), .int .i64 (m 10), .int .i64 (m 11), .int .i64 (m 12), .int .i64 (m 13), .int .i64 (m 14), .int .i64 (m 15)] 25)] 9 #[true, false, false, false, false, false, false, false, false, false] := by
              refine (hN _ _ _ _).2 ?_
              refine Tr.any 1 [3] (by kernel_rfl) ⟨⟨_, rfl, ?_⟩, ⟨_, rfl, ?_⟩, trivial⟩
              · skip
                refine Tr.one rfl (Tr.indexArr (o' := 4) F.arr25 rfl rfl (by decide) (by decide) (rfl) rfl ?_)
                exact ((hN _ _ _ _).1 (N2)).sub [0, 1, 2, 3] (by decide) rfl ⟨rfl, rfl, rfl, rfl, rfl, rfl, rfl, rfl, trivial⟩
              · skip
                refine Tr.one rfl (Tr.loadN (vs := [.int .i64 (v 0), .int .i64 (v 1), .int .i64 (v 2), .int .i64 (v 3)]) F.ty23 rfl (Cells.own 2 4 rfl rfl) rfl rfl ?_)
                exact ((hN _ _ _ _).1 (N3)).sub [0, 1, 2, 3] (by decide) rfl ⟨rfl, rfl, rfl, rfl, rfl, rfl, rfl, rfl, trivial⟩
            have N0 : N [(7, .int .i64 1), (20, .int .i64 1), (6, .pointer (some ⟨u4, 0, none⟩)), (4, .pointer (some ⟨u3, 0, none⟩)), (3, .pointer (some ⟨u2, 0, none⟩)), (2, .pointer (some ⟨u1, 0, none⟩))] [(u4, .cells #[.int .i64 (sumN (rowD m v 0)), .int .i64 0, .int .i64 0, .int .i64 0] 23), (u3, .cells #[.int .i64 0, .int .i64 0, .int .i64 0, .int .i64 0] 23), (u2, .cells #[.int .i64 (v 0), .int .i64 (v 1), .int .i64 (v 2), .int .i64 (v 3)] 23), (u1, .cells #[.int .i64 (m 0), .int .i64 (m 1), .int .i64 (m 2), .int .i64 (m 3), .int .i64 (m 4), .int .i64 (m 5), .int .i64 (m 6), .int .i64 (m 7), .int .i64 (m 8), .int .i64 (m 9), .int .i64 (m 10), .int .i64 (m 11), .int .i64 (m 12), .int .i64 (m 13), .int .i64 (m 14), .int .i64 (m 15)] 25)] 10 #[false, false, false, false, false, false, false, false, false, false] := by
              refine (hN _ _ _ _).2 ?_
              refine Tr.take 0 (.int .i64 1) rfl (by kernel_rfl) (by kernel_rfl) (by kernel_rfl) rfl rfl rfl rfl ?_
              exact ((hN _ _ _ _).1 (N1)).sub [0, 1, 2, 3] (by decide) rfl ⟨rfl, rfl, rfl, rfl, rfl, rfl, rfl, trivial⟩
            exact (hN _ _ _ _).2 (((hN _ _ _ _).1 N0).sub [0, 1, 2, 3] (by decide) rfl ⟨rfl, rfl, rfl, rfl, rfl, rfl, trivial⟩)
          · rintro _
            refine Tr.thenN ?_
            refine Tr.seq ?_
            refine Tr.seq ?_
            refine Tr.region ?_
            refine Tr.step rfl (Tr.val rfl rfl ?_)
            refine Tr.step rfl (Tr.val rfl rfl ?_)
            refine Tr.nil ?_
            refine Tr.thenN ?_
            refine Tr.decide 32 rfl (fun h4 => ?_) (fun h4 => ?_)
            · replace h4 := nT h4
              refine Tr.yes rfl ?_
              refine Tr.seq ?_
              refine Tr.region ?_
              refine Tr.step rfl (Tr.buildA #[.int .i64 0, .int .i64 0, .int .i64 0, .int .i64 0] F.und23 F.ty23 F.ty2 rfl (by kernel_rfl) rfl ?_)
              refine Tr.step rfl (Tr.val rfl rfl ?_)
              refine Tr.step rfl (Tr.store 1 F.ty23 rfl rfl rfl rfl rfl rfl rfl rfl rfl rfl ?_)
              refine Tr.step rfl (Tr.val rfl rfl ?_)
              refine Tr.nil ?_
              refine Tr.thenN ?_
              refine Tr.ret ?_
              refine Tr.thenR ?_
              refine Tr.blockR ?_
              refine Tr.thenR ?_
              refine Tr.thenR ?_
              refine Tr.blockR ?_
              refine Tr.thenR ?_
              refine Tr.leave rfl rfl ?_
              refine Tr.res2 rfl (RsV.cellN (vs := [.int .i64 0, .int .i64 0, .int .i64 0, .int .i64 0]) rfl F.ty23 (Cells.own 1 4 rfl rfl) rfl) (RsV.tmp rfl) (fun w hw => ?_)
              exact ⟨by simp [applyN, applyE, *], hw.fm⟩
            · replace h4 := nF h4
              refine Tr.not rfl ?_
              refine Tr.skip ?_
              refine Tr.thenN ?_
              refine Tr.region ?_
              refine Tr.step rfl (Tr.val rfl rfl ?_)
              refine Tr.step rfl (Tr.val rfl rfl ?_)
              refine Tr.step rfl (Tr.indexArr (o' := 1) F.arr23 rfl rfl (by decide) (by decide) (rfl) rfl ?_)
              refine Tr.step rfl (Tr.store 0 F.ty2 rfl rfl rfl rfl rfl rfl rfl rfl rfl rfl ?_)
              refine Tr.nil ?_
              refine Tr.blockN ?_
              refine Tr.thenN ?_
              refine Tr.region ?_
              refine Tr.step rfl (Tr.valE (.int .i64 2) rfl (rfl) rfl ?_)
              refine Tr.step rfl (Tr.val rfl rfl ?_)
              refine Tr.nil ?_
              refine Tr.thenN ?_
              refine Tr.sub (l' := [(20, .int .i64 2), (6, .pointer (some ⟨u4, 0, none⟩)), (4, .pointer (some ⟨u3, 0, none⟩)), (3, .pointer (some ⟨u2, 0, none⟩)), (2, .pointer (some ⟨u1, 0, none⟩))]) (h' := [(u4, .cells #[.int .i64 (sumN (rowD m v 0)), .int .i64 (sumN (rowD m v 1)), .int .i64 0, .int .i64 0] 23), (u3, .cells #[.int .i64 0, .int .i64 0, .int .i64 0, .int .i64 0] 23), (u2, .cells #[.int .i64 (v 0), .int .i64 (v 1), .int .i64 (v 2), .int .i64 (v 3)] 23), (u1, .cells #[.int .i64 (m 0), .int .i64 (m 1), .int .i64 (m 2), .int .i64 (m 3), .int .i64 (m 4), .int .i64 (m 5), .int .i64 (m 6), .int .i64 (m 7), .int .i64 (m 8), .int .i64 (m 9), .int .i64 (m 10), .int .i64 (m 11), .int .i64 (m 12), .int .i64 (m 13), .int .i64 (m 14), .int .i64 (m 15)] 25)]) ?_ [0, 1, 2, 3] (by decide) rfl ⟨rfl, rfl, rfl, rfl, rfl, trivial⟩
              refine Tr.roundU ?_
              refine Tr.seq ?_
              refine Tr.region ?_
              refine Tr.step rfl (Tr.valE (.bool true) rfl rfl rfl ?_)
              refine Tr.nil ?_
              refine Tr.thenN ?_
              refine Tr.seq ?_
              refine Tr.yes rfl ?_
              refine Tr.skip ?_
              refine Tr.thenN ?_
              refine Tr.seq ?_
              refine Tr.block ?_
              refine Tr.seq ?_
              refine Tr.region ?_
              refine Tr.step rfl (Tr.val rfl rfl ?_)
              refine Tr.step rfl (Tr.val rfl rfl ?_)
              refine Tr.nil ?_
              refine Tr.thenN ?_
              refine Tr.seq ?_
              refine Tr.sub (l' := [(7, .int .i64 2), (20, .int .i64 2), (6, .pointer (some ⟨u4, 0, none⟩)), (4, .pointer (some ⟨u3, 0, none⟩)), (3, .pointer (some ⟨u2, 0, none⟩)), (2, .pointer (some ⟨u1, 0, none⟩))]) (h' := [(u4, .cells #[.int .i64 (sumN (rowD m v 0)), .int .i64 (sumN (rowD m v 1)), .int .i64 0, .int .i64 0] 23), (u3, .cells #[.int .i64 0, .int .i64 0, .int .i64 0, .int .i64 0] 23), (u2, .cells #[.int .i64 (v 0), .int .i64 (v 1), .int .i64 (v 2), .int .i64 (v 3)] 23), (u1, .cells #[.int .i64 (m 0), .int .i64 (m 1), .int .i64 (m 2), .int .i64 (m 3), .int .i64 (m 4), .int .i64 (m 5), .int .i64 (m 6), .int .i64 (m 7), .int .i64 (m 8), .int .i64 (m 9), .int .i64 (m 10), .int .i64 (m 11), .int .i64 (m 12), .int .i64 (m 13), .int .i64 (m 14), .int .i64 (m 15)] 25)]) ?_ [0, 1, 2, 3] (by decide) rfl ⟨rfl, rfl, rfl, rfl, rfl, rfl, trivial⟩
              refine Tr.drawG (Y := Unit) (fun _ => [(9, .int .i64 (sumE (rowD m v 2))), (8, .int .i64 (sumN (rowD m v 2))), (30, .int .i64 (sumE (rowD m v 2))), (29, .int .i64 (sumN (rowD m v 2))), (23, .tuple #[.int .i64 (sumN (rowD m v 2)), .int .i64 (sumE (rowD m v 2))]), (28, .tuple #[.int .i64 (sumN (rowD m v 2)), .int .i64 (sumE (rowD m v 2))]), (27, .agg #[.int .i64 (v 0), .int .i64 (v 1), .int .i64 (v 2), .int .i64 (v 3)]), (26, .agg #[.int .i64 (m 8), .int .i64 (m 9), .int .i64 (m 10), .int .i64 (m 11)]), (25, .pointer (some ⟨u1, 8, none⟩)), (24, .int .i64 2), (7, .int .i64 2), (20, .int .i64 2), (6, .pointer (some ⟨u4, 0, none⟩)), (4, .pointer (some ⟨u3, 0, none⟩)), (3, .pointer (some ⟨u2, 0, none⟩)), (2, .pointer (some ⟨u1, 0, none⟩))]) (fun _ => [(u4, .cells #[.int .i64 (sumN (rowD m v 0)), .int .i64 (sumN (rowD m v 1)), .int .i64 0, .int .i64 0] 23), (u3, .cells #[.int .i64 0, .int .i64 0, .int .i64 0, .int .i64 0] 23), (u2, .cells #[.int .i64 (v 0), .int .i64 (v 1), .int .i64 (v 2), .int .i64 (v 3)] 23), (u1, .cells #[.int .i64 (m 0), .int .i64 (m 1), .int .i64 (m 2), .int .i64 (m 3), .int .i64 (m 4), .int .i64 (m 5), .int .i64 (m 6), .int .i64 (m 7), .int .i64 (m 8), .int .i64 (m 9), .int .i64 (m 10), .int .i64 (m 11), .int .i64 (m 12), .int .i64 (m 13), .int .i64 (m 14), .int .i64 (m 15)] 25)]) F.mixed ?_ ?_
              · intro K N hN tE
                have N12 : N [(9, .int .i64 (sumE (rowD m v 2))), (8, .int .i64 (sumN (rowD m v 2))), (30, .int .i64 (sumE (rowD m v 2))), (29, .int .i64 (sumN (rowD m v 2))), (23, .tuple #[.int .i64 (sumN (rowD m v 2)), .int .i64 (sumE (rowD m v 2))]), (28, .tuple #[.int .i64 (sumN (rowD m v 2)), .int .i64 (sumE (rowD m v 2))]), (27, .agg #[.int .i64 (v 0), .int .i64 (v 1), .int .i64 (v 2), .int .i64 (v 3)]), (26, .agg #[.int .i64 (m 8), .int .i64 (m 9), .int .i64 (m 10), .int .i64 (m 11)]), (25, .pointer (some ⟨u1, 8, none⟩)), (24, .int .i64 2), (7, .int .i64 2), (20, .int .i64 2), (6, .pointer (some ⟨u4, 0, none⟩)), (4, .pointer (some ⟨u3, 0, none⟩)), (3, .pointer (some ⟨u2, 0, none⟩)), (2, .pointer (some ⟨u1, 0, none⟩))] [(u4, .cells #[.int .i64 (sumN (rowD m v 0)), .int .i64 (sumN (rowD m v 1)), .int .i64 0, .int .i64 0] 23), (u3, .cells #[.int .i64 0, .int .i64 0, .int .i64 0, .int .i64 0] 23), (u2, .cells #[.int .i64 (v 0), .int .i64 (v 1), .int .i64 (v 2), .int .i64 (v 3)] 23), (u1, .cells #[.int .i64 (m 0), .int .i64 (m 1), .int .i64 (m 2), .int .i64 (m 3), .int .i64 (m 4), .int .i64 (m 5), .int .i64 (m 6), .int .i64 (m 7), .int .i64 (m 8), .int .i64 (m 9), .int .i64 (m 10), .int .i64 (m 11), .int .i64 (m 12), .int .i64 (m 13), .int .i64 (m 14), .int .i64 (m 15)] 25)] 0 #[true, true, true, true, true, true, true, true, true, true] := by
                  refine (hN _ _ _ _).2 ?_
                  exact Tr.anyEnd (by kernel_rfl) (tE ())
                have N11 : N [(8, .int .i64 (sumN (rowD m v 2))), (30, .int .i64 (sumE (rowD m v 2))), (29, .int .i64 (sumN (rowD m v 2))), (23, .tuple #[.int .i64 (sumN (rowD m v 2)), .int .i64 (sumE (rowD m v 2))]), (28, .tuple #[.int .i64 (sumN (rowD m v 2)), .int .i64 (sumE (rowD m v 2))]), (27, .agg #[.int .i64 (v 0), .int .i64 (v 1), .int .i64 (v 2), .int .i64 (v 3)]), (26, .agg #[.int .i64 (m 8), .int .i64 (m 9), .int .i64 (m 10), .int .i64 (m 11)]), (25, .pointer (some ⟨u1, 8, none⟩)), (24, .int .i64 2), (7, .int .i64 2), (20, .int .i64 2), (6, .pointer (some ⟨u4, 0, none⟩)), (4, .pointer (some ⟨u3, 0, none⟩)), (3, .pointer (some ⟨u2, 0, none⟩)), (2, .pointer (some ⟨u1, 0, none⟩))] [(u4, .cells #[.int .i64 (sumN (rowD m v 0)), .int .i64 (sumN (rowD m v 1)), .int .i64 0, .int .i64 0] 23), (u3, .cells #[.int .i64 0, .int .i64 0, .int .i64 0, .int .i64 0] 23), (u2, .cells #[.int .i64 (v 0), .int .i64 (v 1), .int .i64 (v 2), .int .i64 (v 3)] 23), (u1, .cells #[.int .i64 (m 0), .int .i64 (m 1), .int .i64 (m 2), .int .i64 (m 3), .int .i64 (m 4), .int .i64 (m 5), .int .i64 (m 6), .int .i64 (m 7), .int .i64 (m 8), .int .i64 (m 9), .int .i64 (m 10), .int .i64 (m 11), .int .i64 (m 12), .int .i64 (m 13), .int .i64 (m 14), .int .i64 (m 15)] 25)] 1 #[true, true, true, true, true, true, true, true, true, false] := by
                  refine (hN _ _ _ _).2 ?_
                  refine Tr.take 9 (.int .i64 (sumE (rowD m v 2))) rfl (by kernel_rfl) (by kernel_rfl) (by kernel_rfl) rfl rfl rfl rfl ?_
                  exact ((hN _ _ _ _).1 (N12)).sub [0, 1, 2, 3] (by decide) rfl ⟨rfl, rfl, rfl, rfl, rfl, rfl, rfl, rfl, rfl, rfl, rfl, rfl, rfl, rfl, rfl, rfl, trivial⟩
                have N10 : N [(30, .int .i64 (sumE (rowD m v 2))), (29, .int .i64 (sumN (rowD m v 2))), (23, .tuple #[.int .i64 (sumN (rowD m v 2)), .int .i64 (sumE (rowD m v 2))]), (28, .tuple #[.int .i64 (sumN (rowD m v 2)), .int .i64 (sumE (rowD m v 2))]), (27, .agg #[.int .i64 (v 0), .int .i64 (v 1), .int .i64 (v 2), .int .i64 (v 3)]), (26, .agg #[.int .i64 (m 8), .int .i64 (m 9), .int .i64 (m 10), .int .i64 (m 11)]), (25, .pointer (some ⟨u1, 8, none⟩)), (24, .int .i64 2), (7, .int .i64 2), (20, .int .i64 2), (6, .pointer (some ⟨u4, 0, none⟩)), (4, .pointer (some ⟨u3, 0, none⟩)), (3, .pointer (some ⟨u2, 0, none⟩)), (2, .pointer (some ⟨u1, 0, none⟩))] [(u4, .cells #[.int .i64 (sumN (rowD m v 0)), .int .i64 (sumN (rowD m v 1)), .int .i64 0, .int .i64 0] 23), (u3, .cells #[.int .i64 0, .int .i64 0, .int .i64 0, .int .i64 0] 23), (u2, .cells #[.int .i64 (v 0), .int .i64 (v 1), .int .i64 (v 2), .int .i64 (v 3)] 23), (u1, .cells #[.int .i64 (m 0), .int .i64 (m 1), .int .i64 (m 2), .int .i64 (m 3), .int .i64 (m 4), .int .i64 (m 5), .int .i64 (m 6), .int .i64 (m 7), .int .i64 (m 8), .int .i64 (m 9), .int .i64 (m 10), .int .i64 (m 11), .int .i64 (m 12), .int .i64 (m 13), .int .i64 (m 14), .int .i64 (m 15)] 25)] 2 #[true, true, true, true, true, true, true, true, false, false] := by
                  refine (hN _ _ _ _).2 ?_
                  refine Tr.take 8 (.int .i64 (sumN (rowD m v 2))) rfl (by kernel_rfl) (by kernel_rfl) (by kernel_rfl) rfl rfl rfl rfl ?_
                  exact ((hN _ _ _ _).1 (N11)).sub [0, 1, 2, 3] (by decide) rfl ⟨rfl, rfl, rfl, rfl, rfl, rfl, rfl, rfl, rfl, rfl, rfl, rfl, rfl, rfl, rfl, trivial⟩
                have N9 : N [(29, .int .i64 (sumN (rowD m v 2))), (23, .tuple #[.int .i64 (sumN (rowD m v 2)), .int .i64 (sumE (rowD m v 2))]), (28, .tuple #[.int .i64 (sumN (rowD m v 2)), .int .i64 (sumE (rowD m v 2))]), (27, .agg #[.int .i64 (v 0), .int .i64 (v 1), .int .i64 (v 2), .int .i64 (v 3)]), (26, .agg #[.int .i64 (m 8), .int .i64 (m 9), .int .i64 (m 10), .int .i64 (m 11)]), (25, .pointer (some ⟨u1, 8, none⟩)), (24, .int .i64 2), (7, .int .i64 2), (20, .int .i64 2), (6, .pointer (some ⟨u4, 0, none⟩)), (4, .pointer (some ⟨u3, 0, none⟩)), (3, .pointer (some ⟨u2, 0, none⟩)), (2, .pointer (some ⟨u1, 0, none⟩))] [(u4, .cells #[.int .i64 (sumN (rowD m v 0)), .int .i64 (sumN (rowD m v 1)), .int .i64 0, .int .i64 0] 23), (u3, .cells #[.int .i64 0, .int .i64 0, .int .i64 0, .int .i64 0] 23), (u2, .cells #[.int .i64 (v 0), .int .i64 (v 1), .int .i64 (v 2), .int .i64 (v 3)] 23), (u1, .cells #[.int .i64 (m 0), .int .i64 (m 1), .int .i64 (m 2), .int .i64 (m 3), .int .i64 (m 4), .int .i64 (m 5), .int .i64 (m 6), .int .i64 (m 7), .int .i64 (m 8), .int .i64 (m 9), .int .i64 (m 10), .int .i64 (m 11), .int .i64 (m 12), .int .i64 (m 13), .int .i64 (m 14), .int .i64 (m 15)] 25)] 3 #[true, true, true, true, true, true, true, false, false, false] := by
                  refine (hN _ _ _ _).2 ?_
                  refine Tr.take 7 (.int .i64 (sumE (rowD m v 2))) rfl (by kernel_rfl) (by kernel_rfl) (by kernel_rfl) rfl rfl rfl rfl ?_
                  exact ((hN _ _ _ _).1 (N10)).sub [0, 1, 2, 3] (by decide) rfl ⟨rfl, rfl, rfl, rfl, rfl, rfl, rfl, rfl, rfl, rfl, rfl, rfl, rfl, rfl, trivial⟩
                have N8 : N [(23, .tuple #[.int .i64 (sumN (rowD m v 2)), .int .i64 (sumE (rowD m v 2))]), (28, .tuple #[.int .i64 (sumN (rowD m v 2)), .int .i64 (sumE (rowD m v 2))]), (27, .agg #[.int .i64 (v 0), .int .i64 (v 1), .int .i64 (v 2), .int .i64 (v 3)]), (26, .agg #[.int .i64 (m 8), .int .i64 (m 9), .int .i64 (m 10), .int .i64 (m 11)]), (25, .pointer (some ⟨u1, 8, none⟩)), (24, .int .i64 2), (7, .int .i64 2), (20, .int .i64 2), (6, .pointer (some ⟨u4, 0, none⟩)), (4, .pointer (some ⟨u3, 0, none⟩)), (3, .pointer (some ⟨u2, 0, none⟩)), (2, .pointer (some ⟨u1, 0, none⟩))] [(u4, .cells #[.int .i64 (sumN (rowD m v 0)), .int .i64 (sumN (rowD m v 1)), .int .i64 0, .int .i64 0] 23), (u3, .cells #[.int .i64 0, .int .i64 0, .int .i64 0, .int .i64 0] 23), (u2, .cells #[.int .i64 (v 0), .int .i64 (v 1), .int .i64 (v 2), .int .i64 (v 3)] 23), (u1, .cells #[.int .i64 (m 0), .int .i64 (m 1), .int .i64 (m 2), .int .i64 (m 3), .int .i64 (m 4), .int .i64 (m 5), .int .i64 (m 6), .int .i64 (m 7), .int .i64 (m 8), .int .i64 (m 9), .int .i64 (m 10), .int .i64 (m 11), .int .i64 (m 12), .int .i64 (m 13), .int .i64 (m 14), .int .i64 (m 15)] 25)] 4 #[true, true, true, true, true, true, false, false, false, false] := by
                  refine (hN _ _ _ _).2 ?_
                  refine Tr.take 6 (.int .i64 (sumN (rowD m v 2))) rfl (by kernel_rfl) (by kernel_rfl) (by kernel_rfl) rfl rfl rfl rfl ?_
                  exact ((hN _ _ _ _).1 (N9)).sub [0, 1, 2, 3] (by decide) rfl ⟨rfl, rfl, rfl, rfl, rfl, rfl, rfl, rfl, rfl, rfl, rfl, rfl, rfl, trivial⟩
                have N7 : N [(28, .tuple #[.int .i64 (sumN (rowD m v 2)), .int .i64 (sumE (rowD m v 2))]), (27, .agg #[.int .i64 (v 0), .int .i64 (v 1), .int .i64 (v 2), .int .i64 (v 3)]), (26, .agg #[.int .i64 (m 8), .int .i64 (m 9), .int .i64 (m 10), .int .i64 (m 11)]), (25, .pointer (some ⟨u1, 8, none⟩)), (24, .int .i64 2), (7, .int .i64 2), (20, .int .i64 2), (6, .pointer (some ⟨u4, 0, none⟩)), (4, .pointer (some ⟨u3, 0, none⟩)), (3, .pointer (some ⟨u2, 0, none⟩)), (2, .pointer (some ⟨u1, 0, none⟩))] [(u4, .cells #[.int .i64 (sumN (rowD m v 0)), .int .i64 (sumN (rowD m v 1)), .int .i64 0, .int .i64 0] 23), (u3, .cells #[.int .i64 0, .int .i64 0, .int .i64 0, .int .i64 0] 23), (u2, .cells #[.int .i64 (v 0), .int .i64 (v 1), .int .i64 (v 2), .int .i64 (v 3)] 23), (u1, .cells #[.int .i64 (m 0), .int .i64 (m 1), .int .i64 (m 2), .int .i64 (m 3), .int .i64 (m 4), .int .i64 (m 5), .int .i64 (m 6), .int .i64 (m 7), .int .i64 (m 8), .int .i64 (m 9), .int .i64 (m 10), .int .i64 (m 11), .int .i64 (m 12), .int .i64 (m 13), .int .i64 (m 14), .int .i64 (m 15)] 25)] 5 #[true, true, true, true, true, false, false, false, false, false] := by
                  refine (hN _ _ _ _).2 ?_
                  refine Tr.take 5 (.tuple #[.int .i64 (sumN (rowD m v 2)), .int .i64 (sumE (rowD m v 2))]) rfl (by kernel_rfl) (by kernel_rfl) (by kernel_rfl) rfl rfl rfl rfl ?_
                  exact ((hN _ _ _ _).1 (N8)).sub [0, 1, 2, 3] (by decide) rfl ⟨rfl, rfl, rfl, rfl, rfl, rfl, rfl, rfl, rfl, rfl, rfl, rfl, trivial⟩
                have N6 : N [(27, .agg #[.int .i64 (v 0), .int .i64 (v 1), .int .i64 (v 2), .int .i64 (v 3)]), (26, .agg #[.int .i64 (m 8), .int .i64 (m 9), .int .i64 (m 10), .int .i64 (m 11)]), (25, .pointer (some ⟨u1, 8, none⟩)), (24, .int .i64 2), (7, .int .i64 2), (20, .int .i64 2), (6, .pointer (some ⟨u4, 0, none⟩)), (4, .pointer (some ⟨u3, 0, none⟩)), (3, .pointer (some ⟨u2, 0, none⟩)), (2, .pointer (some ⟨u1, 0, none⟩))] [(u4, .cells #[.int .i64 (sumN (rowD m v 0)), .int .i64 (sumN (rowD m v 1)), .int .i64 0, .int .i64 0] 23), (u3, .cells #[.int .i64 0, .int .i64 0, .int .i64 0, .int .i64 0] 23), (u2, .cells #[.int .i64 (v 0), .int .i64 (v 1), .int .i64 (v 2), .int .i64 (v 3)] 23), (u1, .cells #[.int .i64 (m 0), .int .i64 (m 1), .int .i64 (m 2), .int .i64 (m 3), .int .i64 (m 4), .int .i64 (m 5), .int .i64 (m 6), .int .i64 (m 7), .int .i64 (m 8), .int .i64 (m 9), .int .i64 (m 10), .int .i64 (m 11), .int .i64 (m 12), .int .i64 (m 13), .int .i64 (m 14), .int .i64 (m 15)] 25)] 6 #[true, true, true, true, false, false, false, false, false, false] := by
                  refine (hN _ _ _ _).2 ?_
                  refine Tr.any 4 [] (by kernel_rfl) ⟨⟨_, rfl, ?_⟩, trivial⟩
                  · skip
                    refine Tr.one rfl (Tr.call (v := .tuple #[.int .i64 (sumN (rowD m v 2)), .int .i64 (sumE (rowD m v 2))]) F.en28 rfl (fun w hw => sum_n _ _ _ _ _ _ _ _ ⟨(ck_at (bd := 4611686018427387904) (m := m) (by assumption) 8 (by decide)), (ck_at (bd := 4611686018427387904) (m := m) (by assumption) 9 (by decide)), (ck_at (bd := 4611686018427387904) (m := m) (by assumption) 10 (by decide)), (ck_at (bd := 4611686018427387904) (m := m) (by assumption) 11 (by decide)), (ck_at (bd := 4611686018427387904) (m := vmat v) (by assumption) 0 (by decide)), (ck_at (bd := 4611686018427387904) (m := vmat v) (by assumption) 1 (by decide)), (ck_at (bd := 4611686018427387904) (m := vmat v) (by assumption) 2 (by decide)), (ck_at (bd := 4611686018427387904) (m := vmat v) (by assumption) 3 (by decide))⟩ w) rfl ?_)
                    exact ((hN _ _ _ _).1 (N7)).sub [0, 1, 2, 3] (by decide) rfl ⟨rfl, rfl, rfl, rfl, rfl, rfl, rfl, rfl, rfl, rfl, rfl, trivial⟩
                have N5 : N [(27, .agg #[.int .i64 (v 0), .int .i64 (v 1), .int .i64 (v 2), .int .i64 (v 3)]), (25, .pointer (some ⟨u1, 8, none⟩)), (24, .int .i64 2), (7, .int .i64 2), (20, .int .i64 2), (6, .pointer (some ⟨u4, 0, none⟩)), (4, .pointer (some ⟨u3, 0, none⟩)), (3, .pointer (some ⟨u2, 0, none⟩)), (2, .pointer (some ⟨u1, 0, none⟩))] [(u4, .cells #[.int .i64 (sumN (rowD m v 0)), .int .i64 (sumN (rowD m v 1)), .int .i64 0, .int .i64 0] 23), (u3, .cells #[.int .i64 0, .int .i64 0, .int .i64 0, .int .i64 0] 23), (u2, .cells #[.int .i64 (v 0), .int .i64 (v 1), .int .i64 (v 2), .int .i64 (v 3)] 23), (u1, .cells #[.int .i64 (m 0), .int .i64 (m 1), .int .i64 (m 2), .int .i64 (m 3), .int .i64 (m 4), .int .i64 (m 5), .int .i64 (m 6), .int .i64 (m 7), .int .i64 (m 8), .int .i64 (m 9), .int .i64 (m 10), .int .i64 (m 11), .int .i64 (m 12), .int .i64 (m 13), .int .i64 (m 14), .int .i64 (m 15)] 25)] 7 #[true, true, false, true, false, false, false, false, false, false] := by
                  refine (hN _ _ _ _).2 ?_
                  refine Tr.any 2 [] (by kernel_rfl) ⟨⟨_, rfl, ?_⟩, trivial⟩
                  · skip
                    refine Tr.one rfl (Tr.loadN (vs := [.int .i64 (m 8), .int .i64 (m 9), .int .i64 (m 10), .int .i64 (m 11)]) F.ty23 rfl (Cells.own 3 4 rfl rfl) rfl rfl ?_)
                    exact ((hN _ _ _ _).1 (N6)).sub [0, 1, 2, 3] (by decide) rfl ⟨rfl, rfl, rfl, rfl, rfl, rfl, rfl, rfl, rfl, rfl, trivial⟩
                have N4 : N [(26, .agg #[.int .i64 (m 8), .int .i64 (m 9), .int .i64 (m 10), .int .i64 (m 11)]), (25, .pointer (some ⟨u1, 8, none⟩)), (24, .int .i64 2), (7, .int .i64 2), (20, .int .i64 2), (6, .pointer (some ⟨u4, 0, none⟩)), (4, .pointer (some ⟨u3, 0, none⟩)), (3, .pointer (some ⟨u2, 0, none⟩)), (2, .pointer (some ⟨u1, 0, none⟩))] [(u4, .cells #[.int .i64 (sumN (rowD m v 0)), .int .i64 (sumN (rowD m v 1)), .int .i64 0, .int .i64 0] 23), (u3, .cells #[.int .i64 0, .int .i64 0, .int .i64 0, .int .i64 0] 23), (u2, .cells #[.int .i64 (v 0), .int .i64 (v 1), .int .i64 (v 2), .int .i64 (v 3)] 23), (u1, .cells #[.int .i64 (m 0), .int .i64 (m 1), .int .i64 (m 2), .int .i64 (m 3), .int .i64 (m 4), .int .i64 (m 5), .int .i64 (m 6), .int .i64 (m 7), .int .i64 (m 8), .int .i64 (m 9), .int .i64 (m 10), .int .i64 (m 11), .int .i64 (m 12), .int .i64 (m 13), .int .i64 (m 14), .int .i64 (m 15)] 25)] 7 #[true, true, true, false, false, false, false, false, false, false] := by
                  refine (hN _ _ _ _).2 ?_
                  refine Tr.any 3 [] (by kernel_rfl) ⟨⟨_, rfl, ?_⟩, trivial⟩
                  · skip
                    refine Tr.one rfl (Tr.loadN (vs := [.int .i64 (v 0), .int .i64 (v 1), .int .i64 (v 2), .int .i64 (v 3)]) F.ty23 rfl (Cells.own 2 4 rfl rfl) rfl rfl ?_)
                    exact ((hN _ _ _ _).1 (N6)).sub [0, 1, 2, 3] (by decide) rfl ⟨rfl, rfl, rfl, rfl, rfl, rfl, rfl, rfl, rfl, rfl, trivial⟩
                have N3 : N [(27, .agg #[.int .i64 (v 0), .int .i64 (v 1), .int .i64 (v 2), .int .i64 (v 3)]), (24, .int .i64 2), (7, .int .i64 2), (20, .int .i64 2), (6, .pointer (some ⟨u4, 0, none⟩)), (4, .pointer (some ⟨u3, 0, none⟩)), (3, .pointer (some ⟨u2, 0, none⟩)), (2, .pointer (some ⟨u1, 0, none⟩))] [(u4, .cells #[.int .i64 (sumN (rowD m v 0)), .int .i64 (sumN (rowD m v 1)), .int .i64 0, .int .i64 0] 23), (u3, .cells #[.int .i64 0, .int .i64 0, .int .i64 0, .int .i64 0] 23), (u2, .cells #[.int .i64 (v 0), .int .i64 (v 1), .int .i64 (v 2), .int .i64 (v 3)] 23), (u1, .cells #[.int .i64 (m 0), .int .i64 (m 1), .int .i64 (m 2), .int .i64 (m 3), .int .i64 (m 4), .int .i64 (m 5), .int .i64 (m 6), .int .i64 (m 7), .int .i64 (m 8), .int .i64 (m 9), .int .i64 (m 10), .int .i64 (m 11), .int .i64 (m 12), .int .i64 (m 13), .int .i64 (m 14), .int .i64 (m 15)] 25)] 8 #[true, false, false, true, false, false, false, false, false, false] := by
                  refine (hN _ _ _ _).2 ?_
                  refine Tr.any 1 [] (by kernel_rfl) ⟨⟨_, rfl, ?_⟩, trivial⟩
                  · skip
                    refine Tr.one rfl (Tr.indexArr (o' := 8) F.arr25 rfl rfl (by decide) (by decide) (rfl) rfl ?_)
                    exact ((hN _ _ _ _).1 (N5)).sub [0, 1, 2, 3] (by decide) rfl ⟨rfl, rfl, rfl, rfl, rfl, rfl, rfl, rfl, rfl, trivial⟩
                have N2 : N [(25, .pointer (some ⟨u1, 8, none⟩)), (24, .int .i64 2), (7, .int .i64 2), (20, .int .i64 2), (6, .pointer (some ⟨u4, 0, none⟩)), (4, .pointer (some ⟨u3, 0, none⟩)), (3, .pointer (some ⟨u2, 0, none⟩)), (2, .pointer (some ⟨u1, 0, none⟩))] [(u4, .cells #[.int .i64 (sumN (rowD m v 0)), .int .i64 (sumN (rowD m v 1)), .int .i64 0, .int .i64 0] 23), (u3, .cells #[.int .i64 0, .int .i64 0, .int .i64 0, .int .i64 0] 23), (u2, .cells #[.int .i64 (v 0), .int .i64 (v 1), .int .i64 (v 2), .int .i64 (v 3)] 23), (u1, .cells #[.int .i64 (m 0), .int .i64 (m 1), .int .i64 (m 2), .int .i64 (m 3), .int .i64 (m 4), .int .i64 (m 5), .int .i64 (m 6), .int .i64 (m 7), .int .i64 (m 8), .int .i64 (m 9), .int .i64 (m 10), .int .i64 (m 11), .int .i64 (m 12), .int .i64 (m 13), .int .i64 (m 14), .int .i64 (m 15)] 25)] 8 #[true, true, false, false, false, false, false, false, false, false] := by
                  refine (hN _ _ _ _).2 ?_
                  refine Tr.any 2 [3] (by kernel_rfl) ⟨⟨_, rfl, ?_⟩, ⟨_, rfl, ?_⟩, trivial⟩
                  · skip
                    refine Tr.one rfl (Tr.loadN (vs := [.int .i64 (m 8), .int .i64 (m 9), .int .i64 (m 10), .int .i64 (m 11)]) F.ty23 rfl (Cells.own 3 4 rfl rfl) rfl rfl ?_)
                    exact ((hN _ _ _ _).1 (N4)).sub [0, 1, 2, 3] (by decide) rfl ⟨rfl, rfl, rfl, rfl, rfl, rfl, rfl, rfl, rfl, trivial⟩
                  · skip
                    refine Tr.one rfl (Tr.loadN (vs := [.int .i64 (v 0), .int .i64 (v 1), .int .i64 (v 2), .int .i64 (v 3)]) F.ty23 rfl (Cells.own 2 4 rfl rfl) rfl rfl ?_)
                    exact ((hN _ _ _ _).1 (N5)).sub [0, 1, 2, 3] (by decide) rfl ⟨rfl, rfl, rfl, rfl, rfl, rfl, rfl, rfl, rfl, trivial⟩
                have N1 : N [(24, .int .i64 2), (7, .int .i64 2), (20, .int .i64 2), (6, .pointer (some ⟨u4, 0, none⟩)), (4, .pointer (some ⟨u3, 0, none⟩)), (3, .pointer (some ⟨u2, 0, none⟩)), (2, .pointer (some ⟨u1, 0, none⟩))] [(u4, .cells #[.int .i64 (sumN (rowD m v 0)), .int .i64 (sumN (rowD m v 1)), .int .i64 0, .int .i64 0] 23), (u3, .cells #[.int .i64 0, .int .i64 0, .int .i64 0, .int .i64 0] 23), (u2, .cells #[.int .i64 (v 0), .int .i64 (v 1), .int .i64 (v 2), .int .i64 (v 3)] 23), (u1, .cells #[.int .i64 (m 0), .int .i64 (m 1), .int .i64 (m 2), .int .i64 (m 3), .int .i64 (m 4), .int .i64 (m 5), .int .i64 (m 6), .int .i64 (m 7), .int .i64 (m 8), .int .i64 (m 9), .int .i64 (m 10), .int .i64 (m 11), .int .i64 (m 12), .int .i64 (m 13), .int .i64 (m 14), .int .i64 (m 15)] 25)] 9 #[true, false, false, false, false, false, false, false, false, false] := by
                  refine (hN _ _ _ _).2 ?_
                  refine Tr.any 1 [3] (by kernel_rfl) ⟨⟨_, rfl, ?_⟩, ⟨_, rfl, ?_⟩, trivial⟩
                  · skip
                    refine Tr.one rfl (Tr.indexArr (o' := 8) F.arr25 rfl rfl (by decide) (by decide) (rfl) rfl ?_)
                    exact ((hN _ _ _ _).1 (N2)).sub [0, 1, 2, 3] (by decide) rfl ⟨rfl, rfl, rfl, rfl, rfl, rfl, rfl, rfl, trivial⟩
                  · skip
                    refine Tr.one rfl (Tr.loadN (vs := [.int .i64 (v 0), .int .i64 (v 1), .int .i64 (v 2), .int .i64 (v 3)]) F.ty23 rfl (Cells.own 2 4 rfl rfl) rfl rfl ?_)
                    exact ((hN _ _ _ _).1 (N3)).sub [0, 1, 2, 3] (by decide) rfl ⟨rfl, rfl, rfl, rfl, rfl, rfl, rfl, rfl, trivial⟩
                have N0 : N [(7, .int .i64 2), (20, .int .i64 2), (6, .pointer (some ⟨u4, 0, none⟩)), (4, .pointer (some ⟨u3, 0, none⟩)), (3, .pointer (some ⟨u2, 0, none⟩)), (2, .pointer (some ⟨u1, 0, none⟩))] [(u4, .cells #[.int .i64 (sumN (rowD m v 0)), .int .i64 (sumN (rowD m v 1)), .int .i64 0, .int .i64 0] 23), (u3, .cells #[.int .i64 0, .int .i64 0, .int .i64 0, .int .i64 0] 23), (u2, .cells #[.int .i64 (v 0), .int .i64 (v 1), .int .i64 (v 2), .int .i64 (v 3)] 23), (u1, .cells #[.int .i64 (m 0), .int .i64 (m 1), .int .i64 (m 2), .int .i64 (m 3), .int .i64 (m 4), .int .i64 (m 5), .int .i64 (m 6), .int .i64 (m 7), .int .i64 (m 8), .int .i64 (m 9), .int .i64 (m 10), .int .i64 (m 11), .int .i64 (m 12), .int .i64 (m 13), .int .i64 (m 14), .int .i64 (m 15)] 25)] 10 #[false, false, false, false, false, false, false, false, false, false] := by
                  refine (hN _ _ _ _).2 ?_
                  refine Tr.take 0 (.int .i64 2) rfl (by kernel_rfl) (by kernel_rfl) (by kernel_rfl) rfl rfl rfl rfl ?_
                  exact ((hN _ _ _ _).1 (N1)).sub [0, 1, 2, 3] (by decide) rfl ⟨rfl, rfl, rfl, rfl, rfl, rfl, rfl, trivial⟩
                exact (hN _ _ _ _).2 (((hN _ _ _ _).1 N0).sub [0, 1, 2, 3] (by decide) rfl ⟨rfl, rfl, rfl, rfl, rfl, rfl, trivial⟩)
              · rintro _
                refine Tr.thenN ?_
                refine Tr.seq ?_
                refine Tr.seq ?_
                refine Tr.region ?_
                refine Tr.step rfl (Tr.val rfl rfl ?_)
                refine Tr.step rfl (Tr.val rfl rfl ?_)
                refine Tr.nil ?_
                refine Tr.thenN ?_
                refine Tr.decide 32 rfl (fun h5 => ?_) (fun h5 => ?_)
                · replace h5 := nT h5
                  refine Tr.yes rfl ?_
                  refine Tr.seq ?_
                  refine Tr.region ?_
                  refine Tr.step rfl (Tr.buildA #[.int .i64 0, .int .i64 0, .int .i64 0, .int .i64 0] F.und23 F.ty23 F.ty2 rfl (by kernel_rfl) rfl ?_)
                  refine Tr.step rfl (Tr.val rfl rfl ?_)
                  refine Tr.step rfl (Tr.store 1 F.ty23 rfl rfl rfl rfl rfl rfl rfl rfl rfl rfl ?_)
                  refine Tr.step rfl (Tr.val rfl rfl ?_)
                  refine Tr.nil ?_
                  refine Tr.thenN ?_
                  refine Tr.ret ?_
                  refine Tr.thenR ?_
                  refine Tr.blockR ?_
                  refine Tr.thenR ?_
                  refine Tr.thenR ?_
                  refine Tr.blockR ?_
                  refine Tr.thenR ?_
                  refine Tr.leave rfl rfl ?_
                  refine Tr.res2 rfl (RsV.cellN (vs := [.int .i64 0, .int .i64 0, .int .i64 0, .int .i64 0]) rfl F.ty23 (Cells.own 1 4 rfl rfl) rfl) (RsV.tmp rfl) (fun w hw => ?_)
                  exact ⟨by simp [applyN, applyE, *], hw.fm⟩
                · replace h5 := nF h5
                  refine Tr.not rfl ?_
                  refine Tr.skip ?_
                  refine Tr.thenN ?_
                  refine Tr.region ?_
                  refine Tr.step rfl (Tr.val rfl rfl ?_)
                  refine Tr.step rfl (Tr.val rfl rfl ?_)
                  refine Tr.step rfl (Tr.indexArr (o' := 2) F.arr23 rfl rfl (by decide) (by decide) (rfl) rfl ?_)
                  refine Tr.step rfl (Tr.store 0 F.ty2 rfl rfl rfl rfl rfl rfl rfl rfl rfl rfl ?_)
                  refine Tr.nil ?_
                  refine Tr.blockN ?_
                  refine Tr.thenN ?_
                  refine Tr.region ?_
                  refine Tr.step rfl (Tr.valE (.int .i64 3) rfl (rfl) rfl ?_)
                  refine Tr.step rfl (Tr.val rfl rfl ?_)
                  refine Tr.nil ?_
                  refine Tr.thenN ?_
                  refine Tr.sub (l' := [(20, .int .i64 3), (6, .pointer (some ⟨u4, 0, none⟩)), (4, .pointer (some ⟨u3, 0, none⟩)), (3, .pointer (some ⟨u2, 0, none⟩)), (2, .pointer (some ⟨u1, 0, none⟩))]) (h' := [(u4, .cells #[.int .i64 (sumN (rowD m v 0)), .int .i64 (sumN (rowD m v 1)), .int .i64 (sumN (rowD m v 2)), .int .i64 0] 23), (u3, .cells #[.int .i64 0, .int .i64 0, .int .i64 0, .int .i64 0] 23), (u2, .cells #[.int .i64 (v 0), .int .i64 (v 1), .int .i64 (v 2), .int .i64 (v 3)] 23), (u1, .cells #[.int .i64 (m 0), .int .i64 (m 1), .int .i64 (m 2), .int .i64 (m 3), .int .i64 (m 4), .int .i64 (m 5), .int .i64 (m 6), .int .i64 (m 7), .int .i64 (m 8), .int .i64 (m 9), .int .i64 (m 10), .int .i64 (m 11), .int .i64 (m 12), .int .i64 (m 13), .int .i64 (m 14), .int .i64 (m 15)] 25)]) ?_ [0, 1, 2, 3] (by decide) rfl ⟨rfl, rfl, rfl, rfl, rfl, trivial⟩
                  refine Tr.roundU ?_
                  refine Tr.seq ?_
                  refine Tr.region ?_
                  refine Tr.step rfl (Tr.valE (.bool true) rfl rfl rfl ?_)
                  refine Tr.nil ?_
                  refine Tr.thenN ?_
                  refine Tr.seq ?_
                  refine Tr.yes rfl ?_
                  refine Tr.skip ?_
                  refine Tr.thenN ?_
                  refine Tr.seq ?_
                  refine Tr.block ?_
                  refine Tr.seq ?_
                  refine Tr.region ?_
                  refine Tr.step rfl (Tr.val rfl rfl ?_)
                  refine Tr.step rfl (Tr.val rfl rfl ?_)
                  refine Tr.nil ?_
                  refine Tr.thenN ?_
                  refine Tr.seq ?_
                  refine Tr.sub (l' := [(7, .int .i64 3), (20, .int .i64 3), (6, .pointer (some ⟨u4, 0, none⟩)), (4, .pointer (some ⟨u3, 0, none⟩)), (3, .pointer (some ⟨u2, 0, none⟩)), (2, .pointer (some ⟨u1, 0, none⟩))]) (h' := [(u4, .cells #[.int .i64 (sumN (rowD m v 0)), .int .i64 (sumN (rowD m v 1)), .int .i64 (sumN (rowD m v 2)), .int .i64 0] 23), (u3, .cells #[.int .i64 0, .int .i64 0, .int .i64 0, .int .i64 0] 23), (u2, .cells #[.int .i64 (v 0), .int .i64 (v 1), .int .i64 (v 2), .int .i64 (v 3)] 23), (u1, .cells #[.int .i64 (m 0), .int .i64 (m 1), .int .i64 (m 2), .int .i64 (m 3), .int .i64 (m 4), .int .i64 (m 5), .int .i64 (m 6), .int .i64 (m 7), .int .i64 (m 8), .int .i64 (m 9), .int .i64 (m 10), .int .i64 (m 11), .int .i64 (m 12), .int .i64 (m 13), .int .i64 (m 14), .int .i64 (m 15)] 25)]) ?_ [0, 1, 2, 3] (by decide) rfl ⟨rfl, rfl, rfl, rfl, rfl, rfl, trivial⟩
                  refine Tr.drawG (Y := Unit) (fun _ => [(9, .int .i64 (sumE (rowD m v 3))), (8, .int .i64 (sumN (rowD m v 3))), (30, .int .i64 (sumE (rowD m v 3))), (29, .int .i64 (sumN (rowD m v 3))), (23, .tuple #[.int .i64 (sumN (rowD m v 3)), .int .i64 (sumE (rowD m v 3))]), (28, .tuple #[.int .i64 (sumN (rowD m v 3)), .int .i64 (sumE (rowD m v 3))]), (27, .agg #[.int .i64 (v 0), .int .i64 (v 1), .int .i64 (v 2), .int .i64 (v 3)]), (26, .agg #[.int .i64 (m 12), .int .i64 (m 13), .int .i64 (m 14), .int .i64 (m 15)]), (25, .pointer (some ⟨u1, 12, none⟩)), (24, .int .i64 3), (7, .int .i64 3), (20, .int .i64 3), (6, .pointer (some ⟨u4, 0, none⟩)), (4, .pointer (some ⟨u3, 0, none⟩)), (3, .pointer (some ⟨u2, 0, none⟩)), (2, .pointer (some ⟨u1, 0, none⟩))]) (fun _ => [(u4, .cells #[.int .i64 (sumN (rowD m v 0)), .int .i64 (sumN (rowD m v 1)), .int .i64 (sumN (rowD m v 2)), .int .i64 0] 23), (u3, .cells #[.int .i64 0, .int .i64 0, .int .i64 0, .int .i64 0] 23), (u2, .cells #[.int .i64 (v 0), .int .i64 (v 1), .int .i64 (v 2), .int .i64 (v 3)] 23), (u1, .cells #[.int .i64 (m 0), .int .i64 (m 1), .int .i64 (m 2), .int .i64 (m 3), .int .i64 (m 4), .int .i64 (m 5), .int .i64 (m 6), .int .i64 (m 7), .int .i64 (m 8), .int .i64 (m 9), .int .i64 (m 10), .int .i64 (m 11), .int .i64 (m 12), .int .i64 (m 13), .int .i64 (m 14), .int .i64 (m 15)] 25)]) F.mixed ?_ ?_
                  · intro K N hN tE
                    have N12 : N [(9, .int .i64 (sumE (rowD m v 3))), (8, .int .i64 (sumN (rowD m v 3))), (30, .int .i64 (sumE (rowD m v 3))), (29, .int .i64 (sumN (rowD m v 3))), (23, .tuple #[.int .i64 (sumN (rowD m v 3)), .int .i64 (sumE (rowD m v 3))]), (28, .tuple #[.int .i64 (sumN (rowD m v 3)), .int .i64 (sumE (rowD m v 3))]), (27, .agg #[.int .i64 (v 0), .int .i64 (v 1), .int .i64 (v 2), .int .i64 (v 3)]), (26, .agg #[.int .i64 (m 12), .int .i64 (m 13), .int .i64 (m 14), .int .i64 (m 15)]), (25, .pointer (some ⟨u1, 12, none⟩)), (24, .int .i64 3), (7, .int .i64 3), (20, .int .i64 3), (6, .pointer (some ⟨u4, 0, none⟩)), (4, .pointer (some ⟨u3, 0, none⟩)), (3, .pointer (some ⟨u2, 0, none⟩)), (2, .pointer (some ⟨u1, 0, none⟩))] [(u4, .cells #[.int .i64 (sumN (rowD m v 0)), .int .i64 (sumN (rowD m v 1)), .int .i64 (sumN (rowD m v 2)), .int .i64 0] 23), (u3, .cells #[.int .i64 0, .int .i64 0, .int .i64 0, .int .i64 0] 23), (u2, .cells #[.int .i64 (v 0), .int .i64 (v 1), .int .i64 (v 2), .int .i64 (v 3)] 23), (u1, .cells #[.int .i64 (m 0), .int .i64 (m 1), .int .i64 (m 2), .int .i64 (m 3), .int .i64 (m 4), .int .i64 (m 5), .int .i64 (m 6), .int .i64 (m 7), .int .i64 (m 8), .int .i64 (m 9), .int .i64 (m 10), .int .i64 (m 11), .int .i64 (m 12), .int .i64 (m 13), .int .i64 (m 14), .int .i64 (m 15)] 25)] 0 #[true, true, true, true, true, true, true, true, true, true] := by
                      refine (hN _ _ _ _).2 ?_
                      exact Tr.anyEnd (by kernel_rfl) (tE ())
                    have N11 : N [(8, .int .i64 (sumN (rowD m v 3))), (30, .int .i64 (sumE (rowD m v 3))), (29, .int .i64 (sumN (rowD m v 3))), (23, .tuple #[.int .i64 (sumN (rowD m v 3)), .int .i64 (sumE (rowD m v 3))]), (28, .tuple #[.int .i64 (sumN (rowD m v 3)), .int .i64 (sumE (rowD m v 3))]), (27, .agg #[.int .i64 (v 0), .int .i64 (v 1), .int .i64 (v 2), .int .i64 (v 3)]), (26, .agg #[.int .i64 (m 12), .int .i64 (m 13), .int .i64 (m 14), .int .i64 (m 15)]), (25, .pointer (some ⟨u1, 12, none⟩)), (24, .int .i64 3), (7, .int .i64 3), (20, .int .i64 3), (6, .pointer (some ⟨u4, 0, none⟩)), (4, .pointer (some ⟨u3, 0, none⟩)), (3, .pointer (some ⟨u2, 0, none⟩)), (2, .pointer (some ⟨u1, 0, none⟩))] [(u4, .cells #[.int .i64 (sumN (rowD m v 0)), .int .i64 (sumN (rowD m v 1)), .int .i64 (sumN (rowD m v 2)), .int .i64 0] 23), (u3, .cells #[.int .i64 0, .int .i64 0, .int .i64 0, .int .i64 0] 23), (u2, .cells #[.int .i64 (v 0), .int .i64 (v 1), .int .i64 (v 2), .int .i64 (v 3)] 23), (u1, .cells #[.int .i64 (m 0), .int .i64 (m 1), .int .i64 (m 2), .int .i64 (m 3), .int .i64 (m 4), .int .i64 (m 5), .int .i64 (m 6), .int .i64 (m 7), .int .i64 (m 8), .int .i64 (m 9), .int .i64 (m 10), .int .i64 (m 11), .int .i64 (m 12), .int .i64 (m 13), .int .i64 (m 14), .int .i64 (m 15)] 25)] 1 #[true, true, true, true, true, true, true, true, true, false] := by
                      refine (hN _ _ _ _).2 ?_
                      refine Tr.take 9 (.int .i64 (sumE (rowD m v 3))) rfl (by kernel_rfl) (by kernel_rfl) (by kernel_rfl) rfl rfl rfl rfl ?_
                      exact ((hN _ _ _ _).1 (N12)).sub [0, 1, 2, 3] (by decide) rfl ⟨rfl, rfl, rfl, rfl, rfl, rfl, rfl, rfl, rfl, rfl, rfl, rfl, rfl, rfl, rfl, rfl, trivial⟩
                    have N10 : N [(30, .int .i64 (sumE (rowD m v 3))), (29, .int .i64 (sumN (rowD m v 3))), (23, .tuple #[.int .i64 (sumN (rowD m v 3)), .int .i64 (sumE (rowD m v 3))]), (28, .tuple #[.int .i64 (sumN (rowD m v 3)), .int .i64 (sumE (rowD m v 3))]), (27, .agg #[.int .i64 (v 0), .int .i64 (v 1), .int .i64 (v 2), .int .i64 (v 3)]), (26, .agg #[.int .i64 (m 12), .int .i64 (m 13), .int .i64 (m 14), .int .i64 (m 15)]), (25, .pointer (some ⟨u1, 12, none⟩)), (24, .int .i64 3), (7, .int .i64 3), (20, .int .i64 3), (6, .pointer (some ⟨u4, 0, none⟩)), (4, .pointer (some ⟨u3, 0, none⟩)), (3, .pointer (some ⟨u2, 0, none⟩)), (2, .pointer (some ⟨u1, 0, none⟩))] [(u4, .cells #[.int .i64 (sumN (rowD m v 0)), .int .i64 (sumN (rowD m v 1)), .int .i64 (sumN (rowD m v 2)), .int .i64 0] 23), (u3, .cells #[.int .i64 0, .int .i64 0, .int .i64 0, .int .i64 0] 23), (u2, .cells #[.int .i64 (v 0), .int .i64 (v 1), .int .i64 (v 2), .int .i64 (v 3)] 23), (u1, .cells #[.int .i64 (m 0), .int .i64 (m 1), .int .i64 (m 2), .int .i64 (m 3), .int .i64 (m 4), .int .i64 (m 5), .int .i64 (m 6), .int .i64 (m 7), .int .i64 (m 8), .int .i64 (m 9), .int .i64 (m 10), .int .i64 (m 11), .int .i64 (m 12), .int .i64 (m 13), .int .i64 (m 14), .int .i64 (m 15)] 25)] 2 #[true, true, true, true, true, true, true, true, false, false] := by
                      refine (hN _ _ _ _).2 ?_
                      refine Tr.take 8 (.int .i64 (sumN (rowD m v 3))) rfl (by kernel_rfl) (by kernel_rfl) (by kernel_rfl) rfl rfl rfl rfl ?_
                      exact ((hN _ _ _ _).1 (N11)).sub [0, 1, 2, 3] (by decide) rfl ⟨rfl, rfl, rfl, rfl, rfl, rfl, rfl, rfl, rfl, rfl, rfl, rfl, rfl, rfl, rfl, trivial⟩
                    have N9 : N [(29, .int .i64 (sumN (rowD m v 3))), (23, .tuple #[.int .i64 (sumN (rowD m v 3)), .int .i64 (sumE (rowD m v 3))]), (28, .tuple #[.int .i64 (sumN (rowD m v 3)), .int .i64 (sumE (rowD m v 3))]), (27, .agg #[.int .i64 (v 0), .int .i64 (v 1), .int .i64 (v 2), .int .i64 (v 3)]), (26, .agg #[.int .i64 (m 12), .int .i64 (m 13), .int .i64 (m 14), .int .i64 (m 15)]), (25, .pointer (some ⟨u1, 12, none⟩)), (24, .int .i64 3), (7, .int .i64 3), (20, .int .i64 3), (6, .pointer (some ⟨u4, 0, none⟩)), (4, .pointer (some ⟨u3, 0, none⟩)), (3, .pointer (some ⟨u2, 0, none⟩)), (2, .pointer (some ⟨u1, 0, none⟩))] [(u4, .cells #[.int .i64 (sumN (rowD m v 0)), .int .i64 (sumN (rowD m v 1)), .int .i64 (sumN (rowD m v 2)), .int .i64 0] 23), (u3, .cells #[.int .i64 0, .int .i64 0, .int .i64 0, .int .i64 0] 23), (u2, .cells #[.int .i64 (v 0), .int .i64 (v 1), .int .i64 (v 2), .int .i64 (v 3)] 23), (u1, .cells #[.int .i64 (m 0), .int .i64 (m 1), .int .i64 (m 2), .int .i64 (m 3), .int .i64 (m 4), .int .i64 (m 5), .int .i64 (m 6), .int .i64 (m 7), .int .i64 (m 8), .int .i64 (m 9), .int .i64 (m 10), .int .i64 (m 11), .int .i64 (m 12), .int .i64 (m 13), .int .i64 (m 14), .int .i64 (m 15)] 25)] 3 #[true, true, true, true, true, true, true, false, false, false] := by
                      refine (hN _ _ _ _).2 ?_
                      refine Tr.take 7 (.int .i64 (sumE (rowD m v 3))) rfl (by kernel_rfl) (by kernel_rfl) (by kernel_rfl) rfl rfl rfl rfl ?_
                      exact ((hN _ _ _ _).1 (N10)).sub [0, 1, 2, 3] (by decide) rfl ⟨rfl, rfl, rfl, rfl, rfl, rfl, rfl, rfl, rfl, rfl, rfl, rfl, rfl, rfl, trivial⟩
                    have N8 : N [(23, .tuple #[.int .i64 (sumN (rowD m v 3)), .int .i64 (sumE (rowD m v 3))]), (28, .tuple #[.int .i64 (sumN (rowD m v 3)), .int .i64 (sumE (rowD m v 3))]), (27, .agg #[.int .i64 (v 0), .int .i64 (v 1), .int .i64 (v 2), .int .i64 (v 3)]), (26, .agg #[.int .i64 (m 12), .int .i64 (m 13), .int .i64 (m 14), .int .i64 (m 15)]), (25, .pointer (some ⟨u1, 12, none⟩)), (24, .int .i64 3), (7, .int .i64 3), (20, .int .i64 3), (6, .pointer (some ⟨u4, 0, none⟩)), (4, .pointer (some ⟨u3, 0, none⟩)), (3, .pointer (some ⟨u2, 0, none⟩)), (2, .pointer (some ⟨u1, 0, none⟩))] [(u4, .cells #[.int .i64 (sumN (rowD m v 0)), .int .i64 (sumN (rowD m v 1)), .int .i64 (sumN (rowD m v 2)), .int .i64 0] 23), (u3, .cells #[.int .i64 0, .int .i64 0, .int .i64 0, .int .i64 0] 23), (u2, .cells #[.int .i64 (v 0), .int .i64 (v 1), .int .i64 (v 2), .int .i64 (v 3)] 23), (u1, .cells #[.int .i64 (m 0), .int .i64 (m 1), .int .i64 (m 2), .int .i64 (m 3), .int .i64 (m 4), .int .i64 (m 5), .int .i64 (m 6), .int .i64 (m 7), .int .i64 (m 8), .int .i64 (m 9), .int .i64 (m 10), .int .i64 (m 11), .int .i64 (m 12), .int .i64 (m 13), .int .i64 (m 14), .int .i64 (m 15)] 25)] 4 #[true, true, true, true, true, true, false, false, false, false] := by
                      refine (hN _ _ _ _).2 ?_
                      refine Tr.take 6 (.int .i64 (sumN (rowD m v 3))) rfl (by kernel_rfl) (by kernel_rfl) (by kernel_rfl) rfl rfl rfl rfl ?_
                      exact ((hN _ _ _ _).1 (N9)).sub [0, 1, 2, 3] (by decide) rfl ⟨rfl, rfl, rfl, rfl, rfl, rfl, rfl, rfl, rfl, rfl, rfl, rfl, rfl, trivial⟩
                    have N7 : N [(28, .tuple #[.int .i64 (sumN (rowD m v 3)), .int .i64 (sumE (rowD m v 3))]), (27, .agg #[.int .i64 (v 0), .int .i64 (v 1), .int .i64 (v 2), .int .i64 (v 3)]), (26, .agg #[.int .i64 (m 12), .int .i64 (m 13), .int .i64 (m 14), .int .i64 (m 15)]), (25, .pointer (some ⟨u1, 12, none⟩)), (24, .int .i64 3), (7, .int .i64 3), (20, .int .i64 3), (6, .pointer (some ⟨u4, 0, none⟩)), (4, .pointer (some ⟨u3, 0, none⟩)), (3, .pointer (some ⟨u2, 0, none⟩)), (2, .pointer (some ⟨u1, 0, none⟩))] [(u4, .cells #[.int .i64 (sumN (rowD m v 0)), .int .i64 (sumN (rowD m v 1)), .int .i64 (sumN (rowD m v 2)), .int .i64 0] 23), (u3, .cells #[.int .i64 0, .int .i64 0, .int .i64 0, .int .i64 0] 23), (u2, .cells #[.int .i64 (v 0), .int .i64 (v 1), .int .i64 (v 2), .int .i64 (v 3)] 23), (u1, .cells #[.int .i64 (m 0), .int .i64 (m 1), .int .i64 (m 2), .int .i64 (m 3), .int .i64 (m 4), .int .i64 (m 5), .int .i64 (m 6), .int .i64 (m 7), .int .i64 (m 8), .int .i64 (m 9), .int .i64 (m 10), .int .i64 (m 11), .int .i64 (m 12), .int .i64 (m 13), .int .i64 (m 14), .int .i64 (m 15)] 25)] 5 #[true, true, true, true, true, false, false, false, false, false] := by
                      refine (hN _ _ _ _).2 ?_
                      refine Tr.take 5 (.tuple #[.int .i64 (sumN (rowD m v 3)), .int .i64 (sumE (rowD m v 3))]) rfl (by kernel_rfl) (by kernel_rfl) (by kernel_rfl) rfl rfl rfl rfl ?_
                      exact ((hN _ _ _ _).1 (N8)).sub [0, 1, 2, 3] (by decide) rfl ⟨rfl, rfl, rfl, rfl, rfl, rfl, rfl, rfl, rfl, rfl, rfl, rfl, trivial⟩
                    have N6 : N [(27, .agg #[.int .i64 (v 0), .int .i64 (v 1), .int .i64 (v 2), .int .i64 (v 3)]), (26, .agg #[.int .i64 (m 12), .int .i64 (m 13), .int .i64 (m 14), .int .i64 (m 15)]), (25, .pointer (some ⟨u1, 12, none⟩)), (24, .int .i64 3), (7, .int .i64 3), (20, .int .i64 3), (6, .pointer (some ⟨u4, 0, none⟩)), (4, .pointer (some ⟨u3, 0, none⟩)), (3, .pointer (some ⟨u2, 0, none⟩)), (2, .pointer (some ⟨u1, 0, none⟩))] [(u4, .cells #[.int .i64 (sumN (rowD m v 0)), .int .i64 (sumN (rowD m v 1)), .int .i64 (sumN (rowD m v 2)), .int .i64 0] 23), (u3, .cells #[.int .i64 0, .int .i64 0, .int .i64 0, .int .i64 0] 23), (u2, .cells #[.int .i64 (v 0), .int .i64 (v 1), .int .i64 (v 2), .int .i64 (v 3)] 23), (u1, .cells #[.int .i64 (m 0), .int .i64 (m 1), .int .i64 (m 2), .int .i64 (m 3), .int .i64 (m 4), .int .i64 (m 5), .int .i64 (m 6), .int .i64 (m 7), .int .i64 (m 8), .int .i64 (m 9), .int .i64 (m 10), .int .i64 (m 11), .int .i64 (m 12), .int .i64 (m 13), .int .i64 (m 14), .int .i64 (m 15)] 25)] 6 #[true, true, true, true, false, false, false, false, false, false] := by
                      refine (hN _ _ _ _).2 ?_
                      refine Tr.any 4 [] (by kernel_rfl) ⟨⟨_, rfl, ?_⟩, trivial⟩
                      · skip
                        refine Tr.one rfl (Tr.call (v := .tuple #[.int .i64 (sumN (rowD m v 3)), .int .i64 (sumE (rowD m v 3))]) F.en28 rfl (fun w hw => sum_n _ _ _ _ _ _ _ _ ⟨(ck_at (bd := 4611686018427387904) (m := m) (by assumption) 12 (by decide)), (ck_at (bd := 4611686018427387904) (m := m) (by assumption) 13 (by decide)), (ck_at (bd := 4611686018427387904) (m := m) (by assumption) 14 (by decide)), (ck_at (bd := 4611686018427387904) (m := m) (by assumption) 15 (by decide)), (ck_at (bd := 4611686018427387904) (m := vmat v) (by assumption) 0 (by decide)), (ck_at (bd := 4611686018427387904) (m := vmat v) (by assumption) 1 (by decide)), (ck_at (bd := 4611686018427387904) (m := vmat v) (by assumption) 2 (by decide)), (ck_at (bd := 4611686018427387904) (m := vmat v) (by assumption) 3 (by decide))⟩ w) rfl ?_)
                        exact ((hN _ _ _ _).1 (N7)).sub [0, 1, 2, 3] (by decide) rfl ⟨rfl, rfl, rfl, rfl, rfl, rfl, rfl, rfl, rfl, rfl, rfl, trivial⟩
                    have N5 : N [(27, .agg #[.int .i64 (v 0), .int .i64 (v 1), .int .i64 (v 2), .int .i64 (v 3)]), (25, .pointer (some ⟨u1, 12, none⟩)), (24, .int .i64 3), (7, .int .i64 3), (20, .int .i64 3), (6, .pointer (some ⟨u4, 0, none⟩)), (4, .pointer (some ⟨u3, 0, none⟩)), (3, .pointer (some ⟨u2, 0, none⟩)), (2, .pointer (some ⟨u1, 0, none⟩))] [(u4, .cells #[.int .i64 (sumN (rowD m v 0)), .int .i64 (sumN (rowD m v 1)), .int .i64 (sumN (rowD m v 2)), .int .i64 0] 23), (u3, .cells #[.int .i64 0, .int .i64 0, .int .i64 0, .int .i64 0] 23), (u2, .cells #[.int .i64 (v 0), .int .i64 (v 1), .int .i64 (v 2), .int .i64 (v 3)] 23), (u1, .cells #[.int .i64 (m 0), .int .i64 (m 1), .int .i64 (m 2), .int .i64 (m 3), .int .i64 (m 4), .int .i64 (m 5), .int .i64 (m 6), .int .i64 (m 7), .int .i64 (m 8), .int .i64 (m 9), .int .i64 (m 10), .int .i64 (m 11), .int .i64 (m 12), .int .i64 (m 13), .int .i64 (m 14), .int .i64 (m 15)] 25)] 7 #[true, true, false, true, false, false, false, false, false, false] := by
                      refine (hN _ _ _ _).2 ?_
                      refine Tr.any 2 [] (by kernel_rfl) ⟨⟨_, rfl, ?_⟩, trivial⟩
                      · skip
                        refine Tr.one rfl (Tr.loadN (vs := [.int .i64 (m 12), .int .i64 (m 13), .int .i64 (m 14), .int .i64 (m 15)]) F.ty23 rfl (Cells.own 3 4 rfl rfl) rfl rfl ?_)
                        exact ((hN _ _ _ _).1 (N6)).sub [0, 1, 2, 3] (by decide) rfl ⟨rfl, rfl, rfl, rfl, rfl, rfl, rfl, rfl, rfl, rfl, trivial⟩
                    have N4 : N [(26, .agg #[.int .i64 (m 12), .int .i64 (m 13), .int .i64 (m 14), .int .i64 (m 15)]), (25, .pointer (some ⟨u1, 12, none⟩)), (24, .int .i64 3), (7, .int .i64 3), (20, .int .i64 3), (6, .pointer (some ⟨u4, 0, none⟩)), (4, .pointer (some ⟨u3, 0, none⟩)), (3, .pointer (some ⟨u2, 0, none⟩)), (2, .pointer (some ⟨u1, 0, none⟩))] [(u4, .cells #[.int .i64 (sumN (rowD m v 0)), .int .i64 (sumN (rowD m v 1)), .int .i64 (sumN (rowD m v 2)), .int .i64 0] 23), (u3, .cells #[.int .i64 0, .int .i64 0, .int .i64 0, .int .i64 0] 23), (u2, .cells #[.int .i64 (v 0), .int .i64 (v 1), .int .i64 (v 2), .int .i64 (v 3)] 23), (u1, .cells #[.int .i64 (m 0), .int .i64 (m 1), .int .i64 (m 2), .int .i64 (m 3), .int .i64 (m 4), .int .i64 (m 5), .int .i64 (m 6), .int .i64 (m 7), .int .i64 (m 8), .int .i64 (m 9), .int .i64 (m 10), .int .i64 (m 11), .int .i64 (m 12), .int .i64 (m 13), .int .i64 (m 14), .int .i64 (m 15)] 25)] 7 #[true, true, true, false, false, false, false, false, false, false] := by
                      refine (hN _ _ _ _).2 ?_
                      refine Tr.any 3 [] (by kernel_rfl) ⟨⟨_, rfl, ?_⟩, trivial⟩
                      · skip
                        refine Tr.one rfl (Tr.loadN (vs := [.int .i64 (v 0), .int .i64 (v 1), .int .i64 (v 2), .int .i64 (v 3)]) F.ty23 rfl (Cells.own 2 4 rfl rfl) rfl rfl ?_)
                        exact ((hN _ _ _ _).1 (N6)).sub [0, 1, 2, 3] (by decide) rfl ⟨rfl, rfl, rfl, rfl, rfl, rfl, rfl, rfl, rfl, rfl, trivial⟩
                    have N3 : N [(27, .agg #[.int .i64 (v 0), .int .i64 (v 1), .int .i64 (v 2), .int .i64 (v 3)]), (24, .int .i64 3), (7, .int .i64 3), (20, .int .i64 3), (6, .pointer (some ⟨u4, 0, none⟩)), (4, .pointer (some ⟨u3, 0, none⟩)), (3, .pointer (some ⟨u2, 0, none⟩)), (2, .pointer (some ⟨u1, 0, none⟩))] [(u4, .cells #[.int .i64 (sumN (rowD m v 0)), .int .i64 (sumN (rowD m v 1)), .int .i64 (sumN (rowD m v 2)), .int .i64 0] 23), (u3, .cells #[.int .i64 0, .int .i64 0, .int .i64 0, .int .i64 0] 23), (u2, .cells #[.int .i64 (v 0), .int .i64 (v 1), .int .i64 (v 2), .int .i64 (v 3)] 23), (u1, .cells #[.int .i64 (m 0), .int .i64 (m 1), .int .i64 (m 2), .int .i64 (m 3), .int .i64 (m 4), .int .i64 (m 5), .int .i64 (m 6), .int .i64 (m 7), .int .i64 (m 8), .int .i64 (m 9), .int .i64 (m 10), .int .i64 (m 11), .int .i64 (m 12), .int .i64 (m 13), .int .i64 (m 14), .int .i64 (m 15)] 25)] 8 #[true, false, false, true, false, false, false, false, false, false] := by
                      refine (hN _ _ _ _).2 ?_
                      refine Tr.any 1 [] (by kernel_rfl) ⟨⟨_, rfl, ?_⟩, trivial⟩
                      · skip
                        refine Tr.one rfl (Tr.indexArr (o' := 12) F.arr25 rfl rfl (by decide) (by decide) (rfl) rfl ?_)
                        exact ((hN _ _ _ _).1 (N5)).sub [0, 1, 2, 3] (by decide) rfl ⟨rfl, rfl, rfl, rfl, rfl, rfl, rfl, rfl, rfl, trivial⟩
                    have N2 : N [(25, .pointer (some ⟨u1, 12, none⟩)), (24, .int .i64 3), (7, .int .i64 3), (20, .int .i64 3), (6, .pointer (some ⟨u4, 0, none⟩)), (4, .pointer (some ⟨u3, 0, none⟩)), (3, .pointer (some ⟨u2, 0, none⟩)), (2, .pointer (some ⟨u1, 0, none⟩))] [(u4, .cells #[.int .i64 (sumN (rowD m v 0)), .int .i64 (sumN (rowD m v 1)), .int .i64 (sumN (rowD m v 2)), .int .i64 0] 23), (u3, .cells #[.int .i64 0, .int .i64 0, .int .i64 0, .int .i64 0] 23), (u2, .cells #[.int .i64 (v 0), .int .i64 (v 1), .int .i64 (v 2), .int .i64 (v 3)] 23), (u1, .cells #[.int .i64 (m 0), .int .i64 (m 1), .int .i64 (m 2), .int .i64 (m 3), .int .i64 (m 4), .int .i64 (m 5), .int .i64 (m 6), .int .i64 (m 7), .int .i64 (m 8), .int .i64 (m 9), .int .i64 (m 10), .int .i64 (m 11), .int .i64 (m 12), .int .i64 (m 13), .int .i64 (m 14), .int .i64 (m 15)] 25)] 8 #[true, true, false, false, false, false, false, false, false, false] := by
                      refine (hN _ _ _ _).2 ?_
                      refine Tr.any 2 [3] (by kernel_rfl) ⟨⟨_, rfl, ?_⟩, ⟨_, rfl, ?_⟩, trivial⟩
                      · skip
                        refine Tr.one rfl (Tr.loadN (vs := [.int .i64 (m 12), .int .i64 (m 13), .int .i64 (m 14), .int .i64 (m 15)]) F.ty23 rfl (Cells.own 3 4 rfl rfl) rfl rfl ?_)
                        exact ((hN _ _ _ _).1 (N4)).sub [0, 1, 2, 3] (by decide) rfl ⟨rfl, rfl, rfl, rfl, rfl, rfl, rfl, rfl, rfl, trivial⟩
                      · skip
                        refine Tr.one rfl (Tr.loadN (vs := [.int .i64 (v 0), .int .i64 (v 1), .int .i64 (v 2), .int .i64 (v 3)]) F.ty23 rfl (Cells.own 2 4 rfl rfl) rfl rfl ?_)
                        exact ((hN _ _ _ _).1 (N5)).sub [0, 1, 2, 3] (by decide) rfl ⟨rfl, rfl, rfl, rfl, rfl, rfl, rfl, rfl, rfl, trivial⟩
                    have N1 : N [(24, .int .i64 3), (7, .int .i64 3), (20, .int .i64 3), (6, .pointer (some ⟨u4, 0, none⟩)), (4, .pointer (some ⟨u3, 0, none⟩)), (3, .pointer (some ⟨u2, 0, none⟩)), (2, .pointer (some ⟨u1, 0, none⟩))] [(u4, .cells #[.int .i64 (sumN (rowD m v 0)), .int .i64 (sumN (rowD m v 1)), .int .i64 (sumN (rowD m v 2)), .int .i64 0] 23), (u3, .cells #[.int .i64 0, .int .i64 0, .int .i64 0, .int .i64 0] 23), (u2, .cells #[.int .i64 (v 0), .int .i64 (v 1), .int .i64 (v 2), .int .i64 (v 3)] 23), (u1, .cells #[.int .i64 (m 0), .int .i64 (m 1), .int .i64 (m 2), .int .i64 (m 3), .int .i64 (m 4), .int .i64 (m 5), .int .i64 (m 6), .int .i64 (m 7), .int .i64 (m 8), .int .i64 (m 9), .int .i64 (m 10), .int .i64 (m 11), .int .i64 (m 12), .int .i64 (m 13), .int .i64 (m 14), .int .i64 (m 15)] 25)] 9 #[true, false, false, false, false, false, false, false, false, false] := by
                      refine (hN _ _ _ _).2 ?_
                      refine Tr.any 1 [3] (by kernel_rfl) ⟨⟨_, rfl, ?_⟩, ⟨_, rfl, ?_⟩, trivial⟩
                      · skip
                        refine Tr.one rfl (Tr.indexArr (o' := 12) F.arr25 rfl rfl (by decide) (by decide) (rfl) rfl ?_)
                        exact ((hN _ _ _ _).1 (N2)).sub [0, 1, 2, 3] (by decide) rfl ⟨rfl, rfl, rfl, rfl, rfl, rfl, rfl, rfl, trivial⟩
                      · skip
                        refine Tr.one rfl (Tr.loadN (vs := [.int .i64 (v 0), .int .i64 (v 1), .int .i64 (v 2), .int .i64 (v 3)]) F.ty23 rfl (Cells.own 2 4 rfl rfl) rfl rfl ?_)
                        exact ((hN _ _ _ _).1 (N3)).sub [0, 1, 2, 3] (by decide) rfl ⟨rfl, rfl, rfl, rfl, rfl, rfl, rfl, rfl, trivial⟩
                    have N0 : N [(7, .int .i64 3), (20, .int .i64 3), (6, .pointer (some ⟨u4, 0, none⟩)), (4, .pointer (some ⟨u3, 0, none⟩)), (3, .pointer (some ⟨u2, 0, none⟩)), (2, .pointer (some ⟨u1, 0, none⟩))] [(u4, .cells #[.int .i64 (sumN (rowD m v 0)), .int .i64 (sumN (rowD m v 1)), .int .i64 (sumN (rowD m v 2)), .int .i64 0] 23), (u3, .cells #[.int .i64 0, .int .i64 0, .int .i64 0, .int .i64 0] 23), (u2, .cells #[.int .i64 (v 0), .int .i64 (v 1), .int .i64 (v 2), .int .i64 (v 3)] 23), (u1, .cells #[.int .i64 (m 0), .int .i64 (m 1), .int .i64 (m 2), .int .i64 (m 3), .int .i64 (m 4), .int .i64 (m 5), .int .i64 (m 6), .int .i64 (m 7), .int .i64 (m 8), .int .i64 (m 9), .int .i64 (m 10), .int .i64 (m 11), .int .i64 (m 12), .int .i64 (m 13), .int .i64 (m 14), .int .i64 (m 15)] 25)] 10 #[false, false, false, false, false, false, false, false, false, false] := by
                      refine (hN _ _ _ _).2 ?_
                      refine Tr.take 0 (.int .i64 3) rfl (by kernel_rfl) (by kernel_rfl) (by kernel_rfl) rfl rfl rfl rfl ?_
                      exact ((hN _ _ _ _).1 (N1)).sub [0, 1, 2, 3] (by decide) rfl ⟨rfl, rfl, rfl, rfl, rfl, rfl, rfl, trivial⟩
                    exact (hN _ _ _ _).2 (((hN _ _ _ _).1 N0).sub [0, 1, 2, 3] (by decide) rfl ⟨rfl, rfl, rfl, rfl, rfl, rfl, trivial⟩)
                  · rintro _
                    refine Tr.thenN ?_
                    refine Tr.seq ?_
                    refine Tr.seq ?_
                    refine Tr.region ?_
                    refine Tr.step rfl (Tr.val rfl rfl ?_)
                    refine Tr.step rfl (Tr.val rfl rfl ?_)
                    refine Tr.nil ?_
                    refine Tr.thenN ?_
                    refine Tr.decide 32 rfl (fun h6 => ?_) (fun h6 => ?_)
                    · replace h6 := nT h6
                      refine Tr.yes rfl ?_
                      refine Tr.seq ?_
                      refine Tr.region ?_
                      refine Tr.step rfl (Tr.buildA #[.int .i64 0, .int .i64 0, .int .i64 0, .int .i64 0] F.und23 F.ty23 F.ty2 rfl (by kernel_rfl) rfl ?_)
                      refine Tr.step rfl (Tr.val rfl rfl ?_)
                      refine Tr.step rfl (Tr.store 1 F.ty23 rfl rfl rfl rfl rfl rfl rfl rfl rfl rfl ?_)
                      refine Tr.step rfl (Tr.val rfl rfl ?_)
                      refine Tr.nil ?_
                      refine Tr.thenN ?_
                      refine Tr.ret ?_
                      refine Tr.thenR ?_
                      refine Tr.blockR ?_
                      refine Tr.thenR ?_
                      refine Tr.thenR ?_
                      refine Tr.blockR ?_
                      refine Tr.thenR ?_
                      refine Tr.leave rfl rfl ?_
                      refine Tr.res2 rfl (RsV.cellN (vs := [.int .i64 0, .int .i64 0, .int .i64 0, .int .i64 0]) rfl F.ty23 (Cells.own 1 4 rfl rfl) rfl) (RsV.tmp rfl) (fun w hw => ?_)
                      exact ⟨by simp [applyN, applyE, *], hw.fm⟩
                    · replace h6 := nF h6
                      refine Tr.not rfl ?_
                      refine Tr.skip ?_
                      refine Tr.thenN ?_
                      refine Tr.region ?_
                      refine Tr.step rfl (Tr.val rfl rfl ?_)
                      refine Tr.step rfl (Tr.val rfl rfl ?_)
                      refine Tr.step rfl (Tr.indexArr (o' := 3) F.arr23 rfl rfl (by decide) (by decide) (rfl) rfl ?_)
                      refine Tr.step rfl (Tr.store 0 F.ty2 rfl rfl rfl rfl rfl rfl rfl rfl rfl rfl ?_)
                      refine Tr.nil ?_
                      refine Tr.blockN ?_
                      refine Tr.thenN ?_
                      refine Tr.region ?_
                      refine Tr.step rfl (Tr.valE (.int .i64 4) rfl (rfl) rfl ?_)
                      refine Tr.step rfl (Tr.val rfl rfl ?_)
                      refine Tr.nil ?_
                      refine Tr.thenN ?_
                      refine Tr.sub (l' := [(20, .int .i64 4), (6, .pointer (some ⟨u4, 0, none⟩)), (4, .pointer (some ⟨u3, 0, none⟩)), (3, .pointer (some ⟨u2, 0, none⟩)), (2, .pointer (some ⟨u1, 0, none⟩))]) (h' := [(u4, .cells #[.int .i64 (sumN (rowD m v 0)), .int .i64 (sumN (rowD m v 1)), .int .i64 (sumN (rowD m v 2)), .int .i64 (sumN (rowD m v 3))] 23), (u3, .cells #[.int .i64 0, .int .i64 0, .int .i64 0, .int .i64 0] 23), (u2, .cells #[.int .i64 (v 0), .int .i64 (v 1), .int .i64 (v 2), .int .i64 (v 3)] 23), (u1, .cells #[.int .i64 (m 0), .int .i64 (m 1), .int .i64 (m 2), .int .i64 (m 3), .int .i64 (m 4), .int .i64 (m 5), .int .i64 (m 6), .int .i64 (m 7), .int .i64 (m 8), .int .i64 (m 9), .int .i64 (m 10), .int .i64 (m 11), .int .i64 (m 12), .int .i64 (m 13), .int .i64 (m 14), .int .i64 (m 15)] 25)]) ?_ [0, 1, 2, 3] (by decide) rfl ⟨rfl, rfl, rfl, rfl, rfl, trivial⟩
                      refine Tr.roundU ?_
                      refine Tr.seq ?_
                      refine Tr.region ?_
                      refine Tr.step rfl (Tr.valE (.bool false) rfl rfl rfl ?_)
                      refine Tr.nil ?_
                      refine Tr.thenN ?_
                      refine Tr.seq ?_
                      refine Tr.not rfl ?_
                      refine Tr.exit ?_
                      refine Tr.thenE ?_
                      refine Tr.thenE ?_
                      refine Tr.blockHit ?_
                      refine Tr.thenN ?_
                      refine Tr.seq ?_
                      refine Tr.region ?_
                      refine Tr.step rfl (Tr.loadN (vs := [.int .i64 (sumN (rowD m v 0)), .int .i64 (sumN (rowD m v 1)), .int .i64 (sumN (rowD m v 2)), .int .i64 (sumN (rowD m v 3))]) F.ty23 rfl (Cells.own 0 4 rfl rfl) rfl rfl ?_)
                      refine Tr.step rfl (Tr.store 1 F.ty23 rfl rfl rfl rfl rfl rfl rfl rfl rfl rfl ?_)
                      refine Tr.step rfl (Tr.val rfl rfl ?_)
                      refine Tr.nil ?_
                      refine Tr.thenN ?_
                      refine Tr.ret ?_
                      refine Tr.leave rfl rfl ?_
                      refine Tr.res2 rfl (RsV.cellN (vs := [.int .i64 (sumN (rowD m v 0)), .int .i64 (sumN (rowD m v 1)), .int .i64 (sumN (rowD m v 2)), .int .i64 (sumN (rowD m v 3))]) rfl F.ty23 (Cells.own 1 4 rfl rfl) rfl) (RsV.tmp rfl) (fun w hw => ?_)
                      exact ⟨by simp [applyN, applyE, *], hw.fm⟩

set_option maxRecDepth 100000 in
set_option maxHeartbeats 4000000 in
theorem mul_m (a b : Nat → Int) (w : World) : Calls Tryd.prog 15 #[mv a, mv b] w (Gives (.tuple #[.agg #[.int .i64 (mulN a b 0), .int .i64 (mulN a b 1), .int .i64 (mulN a b 2), .int .i64 (mulN a b 3), .int .i64 (mulN a b 4), .int .i64 (mulN a b 5), .int .i64 (mulN a b 6), .int .i64 (mulN a b 7), .int .i64 (mulN a b 8), .int .i64 (mulN a b 9), .int .i64 (mulN a b 10), .int .i64 (mulN a b 11), .int .i64 (mulN a b 12), .int .i64 (mulN a b 13), .int .i64 (mulN a b 14), .int .i64 (mulN a b 15)], .int .i64 (mulE a b)]) w) := by
  refine calls_enter No Tryd.func15 rfl rfl rfl rfl ?_
  refine Tr.seq ?_
  refine Tr.region ?_
  refine Tr.step rfl (Tr.box rfl rfl rfl ?_)
  rintro u1
  refine Tr.step rfl (Tr.box rfl rfl rfl ?_)
  rintro u2
  refine Tr.step rfl (Tr.alloc F.ty25 rfl rfl ?_)
  rintro u3
  refine Tr.step rfl (Tr.val rfl rfl ?_)
  refine Tr.nil ?_
  refine Tr.thenN ?_
  refine Tr.seq ?_
  refine Tr.region ?_
  refine Tr.step rfl (Tr.alloc F.ty25 rfl rfl ?_)
  rintro u4
  refine Tr.nil ?_
  refine Tr.thenN ?_
  refine Tr.seq ?_
  refine Tr.seq ?_
  refine Tr.region ?_
  refine Tr.step rfl (Tr.loadN (vs := [.int .i64 (b 0), .int .i64 (b 1), .int .i64 (b 2), .int .i64 (b 3), .int .i64 (b 4), .int .i64 (b 5), .int .i64 (b 6), .int .i64 (b 7), .int .i64 (b 8), .int .i64 (b 9), .int .i64 (b 10), .int .i64 (b 11), .int .i64 (b 12), .int .i64 (b 13), .int .i64 (b 14), .int .i64 (b 15)]) F.ty25 rfl (Cells.own 2 16 rfl rfl) rfl rfl ?_)
  refine Tr.step rfl (Tr.call (v := .agg #[.int .i64 (b 0), .int .i64 (b 4), .int .i64 (b 8), .int .i64 (b 12), .int .i64 (b 1), .int .i64 (b 5), .int .i64 (b 9), .int .i64 (b 13), .int .i64 (b 2), .int .i64 (b 6), .int .i64 (b 10), .int .i64 (b 14), .int .i64 (b 3), .int .i64 (b 7), .int .i64 (b 11), .int .i64 (b 15)]) F.en21 rfl (fun w hw => across_n b w) rfl ?_)
  refine Tr.step rfl (Tr.val rfl rfl ?_)
  refine Tr.nil ?_
  refine Tr.thenN ?_
  refine Tr.block ?_
  refine Tr.loopU ?_
  refine Tr.sub (l' := [(13, .int .i64 0), (12, .agg #[.int .i64 (b 0), .int .i64 (b 4), .int .i64 (b 8), .int .i64 (b 12), .int .i64 (b 1), .int .i64 (b 5), .int .i64 (b 9), .int .i64 (b 13), .int .i64 (b 2), .int .i64 (b 6), .int .i64 (b 10), .int .i64 (b 14), .int .i64 (b 3), .int .i64 (b 7), .int .i64 (b 11), .int .i64 (b 15)]), (6, .pointer (some ⟨u4, 0, none⟩)), (4, .pointer (some ⟨u3, 0, none⟩)), (2, .pointer (some ⟨u1, 0, none⟩))]) (h' := [(u4, .cells #[.int .i64 0, .int .i64 0, .int .i64 0, .int .i64 0, .int .i64 0, .int .i64 0, .int .i64 0, .int .i64 0, .int .i64 0, .int .i64 0, .int .i64 0, .int .i64 0, .int .i64 0, .int .i64 0, .int .i64 0, .int .i64 0] 25), (u3, .cells #[.int .i64 0, .int .i64 0, .int .i64 0, .int .i64 0, .int .i64 0, .int .i64 0, .int .i64 0, .int .i64 0, .int .i64 0, .int .i64 0, .int .i64 0, .int .i64 0, .int .i64 0, .int .i64 0, .int .i64 0, .int .i64 0] 25), (u2, .cells #[.int .i64 (b 0), .int .i64 (b 1), .int .i64 (b 2), .int .i64 (b 3), .int .i64 (b 4), .int .i64 (b 5), .int .i64 (b 6), .int .i64 (b 7), .int .i64 (b 8), .int .i64 (b 9), .int .i64 (b 10), .int .i64 (b 11), .int .i64 (b 12), .int .i64 (b 13), .int .i64 (b 14), .int .i64 (b 15)] 25), (u1, .cells #[.int .i64 (a 0), .int .i64 (a 1), .int .i64 (a 2), .int .i64 (a 3), .int .i64 (a 4), .int .i64 (a 5), .int .i64 (a 6), .int .i64 (a 7), .int .i64 (a 8), .int .i64 (a 9), .int .i64 (a 10), .int .i64 (a 11), .int .i64 (a 12), .int .i64 (a 13), .int .i64 (a 14), .int .i64 (a 15)] 25)]) ?_ [0, 1, 2, 3] (by decide) rfl ⟨rfl, rfl, rfl, rfl, rfl, trivial⟩
  refine Tr.roundU ?_
  refine Tr.seq ?_
  refine Tr.region ?_
  refine Tr.step rfl (Tr.valE (.bool true) rfl rfl rfl ?_)
  refine Tr.nil ?_
  refine Tr.thenN ?_
  refine Tr.seq ?_
  refine Tr.yes rfl ?_
  refine Tr.skip ?_
  refine Tr.thenN ?_
  refine Tr.seq ?_
  refine Tr.block ?_
  refine Tr.seq ?_
  refine Tr.region ?_
  refine Tr.step rfl (Tr.val rfl rfl ?_)
  refine Tr.step rfl (Tr.indexValN (us := [.int .i64 (b 0), .int .i64 (b 4), .int .i64 (b 8), .int .i64 (b 12)]) F.und25 F.ty23 rfl rfl (by decide) (by decide) rfl rfl ?_)
  refine Tr.step rfl (Tr.alloc F.ty23 rfl rfl ?_)
  rintro u5
  refine Tr.step rfl (Tr.val rfl rfl ?_)
  refine Tr.step rfl (Tr.store 0 F.ty23 rfl rfl rfl rfl rfl rfl rfl rfl rfl rfl ?_)
  refine Tr.nil ?_
  refine Tr.thenN ?_
  refine Tr.seq ?_
  refine Tr.region ?_
  refine Tr.step rfl (Tr.loadN (vs := [.int .i64 (a 0), .int .i64 (a 1), .int .i64 (a 2), .int .i64 (a 3), .int .i64 (a 4), .int .i64 (a 5), .int .i64 (a 6), .int .i64 (a 7), .int .i64 (a 8), .int .i64 (a 9), .int .i64 (a 10), .int .i64 (a 11), .int .i64 (a 12), .int .i64 (a 13), .int .i64 (a 14), .int .i64 (a 15)]) F.ty25 rfl (Cells.own 4 16 rfl rfl) rfl rfl ?_)
  refine Tr.step rfl (Tr.loadN (vs := [.int .i64 (b 0), .int .i64 (b 4), .int .i64 (b 8), .int .i64 (b 12)]) F.ty23 rfl (Cells.own 0 4 rfl rfl) rfl rfl ?_)
  refine Tr.step rfl (Tr.call (v := .tuple #[.agg #[.int .i64 (applyN a (col b 0) 0), .int .i64 (applyN a (col b 0) 1), .int .i64 (applyN a (col b 0) 2), .int .i64 (applyN a (col b 0) 3)], .int .i64 (applyE a (col b 0))]) F.en22 rfl (fun w hw => apply_n a (col b 0) w) rfl ?_)
  refine Tr.step rfl (Tr.val rfl rfl ?_)
  refine Tr.step rfl (Tr.val rfl rfl ?_)
  refine Tr.step rfl (Tr.val rfl rfl ?_)
  refine Tr.step rfl (Tr.alloc F.ty23 rfl rfl ?_)
  rintro u6
  refine Tr.step rfl (Tr.store 0 F.ty23 rfl rfl rfl rfl rfl rfl rfl rfl rfl rfl ?_)
  refine Tr.step rfl (Tr.val rfl rfl ?_)
  refine Tr.nil ?_
  refine Tr.thenN ?_
  refine Tr.seq ?_
  refine Tr.seq ?_
  refine Tr.region ?_
  refine Tr.step rfl (Tr.val rfl rfl ?_)
  refine Tr.step rfl (Tr.val rfl rfl ?_)
  refine Tr.nil ?_
  refine Tr.thenN ?_
  refine Tr.decide 24 rfl (fun h1 => ?_) (fun h1 => ?_)
  · replace h1 := nT h1
    refine Tr.yes rfl ?_
    refine Tr.seq ?_
    refine Tr.region ?_
    refine Tr.step rfl (Tr.buildA #[.int .i64 0, .int .i64 0, .int .i64 0, .int .i64 0, .int .i64 0, .int .i64 0, .int .i64 0, .int .i64 0, .int .i64 0, .int .i64 0, .int .i64 0, .int .i64 0, .int .i64 0, .int .i64 0, .int .i64 0, .int .i64 0] F.und25 F.ty25 F.ty23 rfl (by kernel_rfl) rfl ?_)
    refine Tr.step rfl (Tr.val rfl rfl ?_)
    refine Tr.step rfl (Tr.store 3 F.ty25 rfl rfl rfl rfl rfl rfl rfl rfl rfl rfl ?_)
    refine Tr.step rfl (Tr.val rfl rfl ?_)
    refine Tr.nil ?_
    refine Tr.thenN ?_
    refine Tr.ret ?_
    refine Tr.thenR ?_
    refine Tr.blockR ?_
    refine Tr.thenR ?_
    refine Tr.thenR ?_
    refine Tr.blockR ?_
    refine Tr.thenR ?_
    refine Tr.leave rfl rfl ?_
    refine Tr.res2 rfl (RsV.cellN (vs := [.int .i64 0, .int .i64 0, .int .i64 0, .int .i64 0, .int .i64 0, .int .i64 0, .int .i64 0, .int .i64 0, .int .i64 0, .int .i64 0, .int .i64 0, .int .i64 0, .int .i64 0, .int .i64 0, .int .i64 0, .int .i64 0]) rfl F.ty25 (Cells.own 3 16 rfl rfl) rfl) (RsV.tmp rfl) (fun w hw => ?_)
    exact ⟨by simp [mulN, mulE, *], hw.fm⟩
  · replace h1 := nF h1
    refine Tr.not rfl ?_
    refine Tr.skip ?_
    refine Tr.thenN ?_
    refine Tr.region ?_
    refine Tr.step rfl (Tr.val rfl rfl ?_)
    refine Tr.step rfl (Tr.loadN (vs := [.int .i64 (applyN a (col b 0) 0), .int .i64 (applyN a (col b 0) 1), .int .i64 (applyN a (col b 0) 2), .int .i64 (applyN a (col b 0) 3)]) F.ty23 rfl (Cells.own 0 4 rfl rfl) rfl rfl ?_)
    refine Tr.step rfl (Tr.indexArr (o' := 0) F.arr25 rfl rfl (by decide) (by decide) (rfl) rfl ?_)
    refine Tr.step rfl (Tr.store 2 F.ty23 rfl rfl rfl rfl rfl rfl rfl rfl rfl rfl ?_)
    refine Tr.nil ?_
    refine Tr.blockN ?_
    refine Tr.thenN ?_
    refine Tr.region ?_
    refine Tr.step rfl (Tr.valE (.int .i64 1) rfl (rfl) rfl ?_)
    refine Tr.step rfl (Tr.val rfl rfl ?_)
    refine Tr.nil ?_
    refine Tr.thenN ?_
    refine Tr.sub (l' := [(13, .int .i64 1), (12, .agg #[.int .i64 (b 0), .int .i64 (b 4), .int .i64 (b 8), .int .i64 (b 12), .int .i64 (b 1), .int .i64 (b 5), .int .i64 (b 9), .int .i64 (b 13), .int .i64 (b 2), .int .i64 (b 6), .int .i64 (b 10), .int .i64 (b 14), .int .i64 (b 3), .int .i64 (b 7), .int .i64 (b 11), .int .i64 (b 15)]), (6, .pointer (some ⟨u4, 0, none⟩)), (4, .pointer (some ⟨u3, 0, none⟩)), (2, .pointer (some ⟨u1, 0, none⟩))]) (h' := [(u6, .cells #[.int .i64 (applyN a (col b 0) 0), .int .i64 (applyN a (col b 0) 1), .int .i64 (applyN a (col b 0) 2), .int .i64 (applyN a (col b 0) 3)] 23), (u5, .cells #[.int .i64 (b 0), .int .i64 (b 4), .int .i64 (b 8), .int .i64 (b 12)] 23), (u4, .cells #[.int .i64 (applyN a (col b 0) 0), .int .i64 (applyN a (col b 0) 1), .int .i64 (applyN a (col b 0) 2), .int .i64 (applyN a (col b 0) 3), .int .i64 0, .int .i64 0, .int .i64 0, .int .i64 0, .int .i64 0, .int .i64 0, .int .i64 0, .int .i64 0, .int .i64 0, .int .i64 0, .int .i64 0, .int .i64 0] 25), (u3, .cells #[.int .i64 0, .int .i64 0, .int .i64 0, .int .i64 0, .int .i64 0, .int .i64 0, .int .i64 0, .int .i64 0, .int .i64 0, .int .i64 0, .int .i64 0, .int .i64 0, .int .i64 0, .int .i64 0, .int .i64 0, .int .i64 0] 25), (u2, .cells #[.int .i64 (b 0), .int .i64 (b 1), .int .i64 (b 2), .int .i64 (b 3), .int .i64 (b 4), .int .i64 (b 5), .int .i64 (b 6), .int .i64 (b 7), .int .i64 (b 8), .int .i64 (b 9), .int .i64 (b 10), .int .i64 (b 11), .int .i64 (b 12), .int .i64 (b 13), .int .i64 (b 14), .int .i64 (b 15)] 25), (u1, .cells #[.int .i64 (a 0), .int .i64 (a 1), .int .i64 (a 2), .int .i64 (a 3), .int .i64 (a 4), .int .i64 (a 5), .int .i64 (a 6), .int .i64 (a 7), .int .i64 (a 8), .int .i64 (a 9), .int .i64 (a 10), .int .i64 (a 11), .int .i64 (a 12), .int .i64 (a 13), .int .i64 (a 14), .int .i64 (a 15)] 25)]) ?_ [0, 1, 2, 3, 4, 5] (by decide) rfl ⟨rfl, rfl, rfl, rfl, rfl, trivial⟩
    refine Tr.roundU ?_
    refine Tr.seq ?_
    refine Tr.region ?_
    refine Tr.step rfl (Tr.valE (.bool true) rfl rfl rfl ?_)
    refine Tr.nil ?_
    refine Tr.thenN ?_
    refine Tr.seq ?_
    refine Tr.yes rfl ?_
    refine Tr.skip ?_
    refine Tr.thenN ?_
    refine Tr.seq ?_
    refine Tr.block ?_
    refine Tr.seq ?_
    refine Tr.region ?_
    refine Tr.step rfl (Tr.val rfl rfl ?_)
    refine Tr.step rfl (Tr.indexValN (us := [.int .i64 (b 1), .int .i64 (b 5), .int .i64 (b 9), .int .i64 (b 13)]) F.und25 F.ty23 rfl rfl (by decide) (by decide) rfl rfl ?_)
    refine Tr.step rfl (Tr.alloc F.ty23 rfl rfl ?_)
    rintro u7
    refine Tr.step rfl (Tr.val rfl rfl ?_)
    refine Tr.step rfl (Tr.store 0 F.ty23 rfl rfl rfl rfl rfl rfl rfl rfl rfl rfl ?_)
    refine Tr.nil ?_
    refine Tr.thenN ?_
    refine Tr.seq ?_
    refine Tr.region ?_
    refine Tr.step rfl (Tr.loadN (vs := [.int .i64 (a 0), .int .i64 (a 1), .int .i64 (a 2), .int .i64 (a 3), .int .i64 (a 4), .int .i64 (a 5), .int .i64 (a 6), .int .i64 (a 7), .int .i64 (a 8), .int .i64 (a 9), .int .i64 (a 10), .int .i64 (a 11), .int .i64 (a 12), .int .i64 (a 13), .int .i64 (a 14), .int .i64 (a 15)]) F.ty25 rfl (Cells.own 6 16 rfl rfl) rfl rfl ?_)
    refine Tr.step rfl (Tr.loadN (vs := [.int .i64 (b 1), .int .i64 (b 5), .int .i64 (b 9), .int .i64 (b 13)]) F.ty23 rfl (Cells.own 0 4 rfl rfl) rfl rfl ?_)
    refine Tr.step rfl (Tr.call (v := .tuple #[.agg #[.int .i64 (applyN a (col b 1) 0), .int .i64 (applyN a (col b 1) 1), .int .i64 (applyN a (col b 1) 2), .int .i64 (applyN a (col b 1) 3)], .int .i64 (applyE a (col b 1))]) F.en22 rfl (fun w hw => apply_n a (col b 1) w) rfl ?_)
    refine Tr.step rfl (Tr.val rfl rfl ?_)
    refine Tr.step rfl (Tr.val rfl rfl ?_)
    refine Tr.step rfl (Tr.val rfl rfl ?_)
    refine Tr.step rfl (Tr.alloc F.ty23 rfl rfl ?_)
    rintro u8
    refine Tr.step rfl (Tr.store 0 F.ty23 rfl rfl rfl rfl rfl rfl rfl rfl rfl rfl ?_)
    refine Tr.step rfl (Tr.val rfl rfl ?_)
    refine Tr.nil ?_
    refine Tr.thenN ?_
    refine Tr.seq ?_
    refine Tr.seq ?_
    refine Tr.region ?_
    refine Tr.step rfl (Tr.val rfl rfl ?_)
    refine Tr.step rfl (Tr.val rfl rfl ?_)
    refine Tr.nil ?_
    refine Tr.thenN ?_
    refine Tr.decide 24 rfl (fun h2 => ?_) (fun h2 => ?_)
    · replace h2 := nT h2
      refine Tr.yes rfl ?_
      refine Tr.seq ?_
      refine Tr.region ?_
      refine Tr.step rfl (Tr.buildA #[.int .i64 0, .int .i64 0, .int .i64 0, .int .i64 0, .int .i64 0, .int .i64 0, .int .i64 0, .int .i64 0, .int .i64 0, .int .i64 0, .int .i64 0, .int .i64 0, .int .i64 0, .int .i64 0, .int .i64 0, .int .i64 0] F.und25 F.ty25 F.ty23 rfl (by kernel_rfl) rfl ?_)
      refine Tr.step rfl (Tr.val rfl rfl ?_)
      refine Tr.step rfl (Tr.store 5 F.ty25 rfl rfl rfl rfl rfl rfl rfl rfl rfl rfl ?_)
      refine Tr.step rfl (Tr.val rfl rfl ?_)
      refine Tr.nil ?_
      refine Tr.thenN ?_
      refine Tr.ret ?_
      refine Tr.thenR ?_
      refine Tr.blockR ?_
      refine Tr.thenR ?_
      refine Tr.thenR ?_
      refine Tr.blockR ?_
      refine Tr.thenR ?_
      refine Tr.leave rfl rfl ?_
      refine Tr.res2 rfl (RsV.cellN (vs := [.int .i64 0, .int .i64 0, .int .i64 0, .int .i64 0, .int .i64 0, .int .i64 0, .int .i64 0, .int .i64 0, .int .i64 0, .int .i64 0, .int .i64 0, .int .i64 0, .int .i64 0, .int .i64 0, .int .i64 0, .int .i64 0]) rfl F.ty25 (Cells.own 5 16 rfl rfl) rfl) (RsV.tmp rfl) (fun w hw => ?_)
      exact ⟨by simp [mulN, mulE, *], hw.fm⟩
    · replace h2 := nF h2
      refine Tr.not rfl ?_
      refine Tr.skip ?_
      refine Tr.thenN ?_
      refine Tr.region ?_
      refine Tr.step rfl (Tr.val rfl rfl ?_)
      refine Tr.step rfl (Tr.loadN (vs := [.int .i64 (applyN a (col b 1) 0), .int .i64 (applyN a (col b 1) 1), .int .i64 (applyN a (col b 1) 2), .int .i64 (applyN a (col b 1) 3)]) F.ty23 rfl (Cells.own 0 4 rfl rfl) rfl rfl ?_)
      refine Tr.step rfl (Tr.indexArr (o' := 4) F.arr25 rfl rfl (by decide) (by decide) (rfl) rfl ?_)
      refine Tr.step rfl (Tr.store 4 F.ty23 rfl rfl rfl rfl rfl rfl rfl rfl rfl rfl ?_)
      refine Tr.nil ?_
      refine Tr.blockN ?_
      refine Tr.thenN ?_
      refine Tr.region ?_
      refine Tr.step rfl (Tr.valE (.int .i64 2) rfl (rfl) rfl ?_)
      refine Tr.step rfl (Tr.val rfl rfl ?_)
      refine Tr.nil ?_
      refine Tr.thenN ?_
      refine Tr.sub (l' := [(13, .int .i64 2), (12, .agg #[.int .i64 (b 0), .int .i64 (b 4), .int .i64 (b 8), .int .i64 (b 12), .int .i64 (b 1), .int .i64 (b 5), .int .i64 (b 9), .int .i64 (b 13), .int .i64 (b 2), .int .i64 (b 6), .int .i64 (b 10), .int .i64 (b 14), .int .i64 (b 3), .int .i64 (b 7), .int .i64 (b 11), .int .i64 (b 15)]), (6, .pointer (some ⟨u4, 0, none⟩)), (4, .pointer (some ⟨u3, 0, none⟩)), (2, .pointer (some ⟨u1, 0, none⟩))]) (h' := [(u8, .cells #[.int .i64 (applyN a (col b 1) 0), .int .i64 (applyN a (col b 1) 1), .int .i64 (applyN a (col b 1) 2), .int .i64 (applyN a (col b 1) 3)] 23), (u7, .cells #[.int .i64 (b 1), .int .i64 (b 5), .int .i64 (b 9), .int .i64 (b 13)] 23), (u6, .cells #[.int .i64 (applyN a (col b 0) 0), .int .i64 (applyN a (col b 0) 1), .int .i64 (applyN a (col b 0) 2), .int .i64 (applyN a (col b 0) 3)] 23), (u5, .cells #[.int .i64 (b 0), .int .i64 (b 4), .int .i64 (b 8), .int .i64 (b 12)] 23), (u4, .cells #[.int .i64 (applyN a (col b 0) 0), .int .i64 (applyN a (col b 0) 1), .int .i64 (applyN a (col b 0) 2), .int .i64 (applyN a (col b 0) 3), .int .i64 (applyN a (col b 1) 0), .int .i64 (applyN a (col b 1) 1), .int .i64 (applyN a (col b 1) 2), .int .i64 (applyN a (col b 1) 3), .int .i64 0, .int .i64 0, .int .i64 0, .int .i64 0, .int .i64 0, .int .i64 0, .int .i64 0, .int .i64 0] 25), (u3, .cells #[.int .i64 0, .int .i64 0, .int .i64 0, .int .i64 0, .int .i64 0, .int .i64 0, .int .i64 0, .int .i64 0, .int .i64 0, .int .i64 0, .int .i64 0, .int .i64 0, .int .i64 0, .int .i64 0, .int .i64 0, .int .i64 0] 25), (u2, .cells #[.int .i64 (b 0), .int .i64 (b 1), .int .i64 (b 2), .int .i64 (b 3), .int .i64 (b 4), .int .i64 (b 5), .int .i64 (b 6), .int .i64 (b 7), .int .i64 (b 8), .int .i64 (b 9), .int .i64 (b 10), .int .i64 (b 11), .int .i64 (b 12), .int .i64 (b 13), .int .i64 (b 14), .int .i64 (b 15)] 25), (u1, .cells #[.int .i64 (a 0), .int .i64 (a 1), .int .i64 (a 2), .int .i64 (a 3), .int .i64 (a 4), .int .i64 (a 5), .int .i64 (a 6), .int .i64 (a 7), .int .i64 (a 8), .int .i64 (a 9), .int .i64 (a 10), .int .i64 (a 11), .int .i64 (a 12), .int .i64 (a 13), .int .i64 (a 14), .int .i64 (a 15)] 25)]) ?_ [0, 1, 2, 3, 4, 5, 6, 7] (by decide) rfl ⟨rfl, rfl, rfl, rfl, rfl, trivial⟩
      refine Tr.roundU ?_
      refine Tr.seq ?_
      refine Tr.region ?_
      refine Tr.step rfl (Tr.valE (.bool true) rfl rfl rfl ?_)
      refine Tr.nil ?_
      refine Tr.thenN ?_
      refine Tr.seq ?_
      refine Tr.yes rfl ?_
      refine Tr.skip ?_
      refine Tr.thenN ?_
      refine Tr.seq ?_
      refine Tr.block ?_
      refine Tr.seq ?_
      refine Tr.region ?_
      refine Tr.step rfl (Tr.val rfl rfl ?_)
      refine Tr.step rfl (Tr.indexValN (us := [.int .i64 (b 2), .int .i64 (b 6), .int .i64 (b 10), .int .i64 (b 14)]) F.und25 F.ty23 rfl rfl (by decide) (by decide) rfl rfl ?_)
      refine Tr.step rfl (Tr.alloc F.ty23 rfl rfl ?_)
      rintro u9
      refine Tr.step rfl (Tr.val rfl rfl ?_)
      refine Tr.step rfl (Tr.store 0 F.ty23 rfl rfl rfl rfl rfl rfl rfl rfl rfl rfl ?_)
      refine Tr.nil ?_
      refine Tr.thenN ?_
      refine Tr.seq ?_
      refine Tr.region ?_
      refine Tr.step rfl (Tr.loadN (vs := [.int .i64 (a 0), .int .i64 (a 1), .int .i64 (a 2), .int .i64 (a 3), .int .i64 (a 4), .int .i64 (a 5), .int .i64 (a 6), .int .i64 (a 7), .int .i64 (a 8), .int .i64 (a 9), .int .i64 (a 10), .int .i64 (a 11), .int .i64 (a 12), .int .i64 (a 13), .int .i64 (a 14), .int .i64 (a 15)]) F.ty25 rfl (Cells.own 8 16 rfl rfl) rfl rfl ?_)
      refine Tr.step rfl (Tr.loadN (vs := [.int .i64 (b 2), .int .i64 (b 6), .int .i64 (b 10), .int .i64 (b 14)]) F.ty23 rfl (Cells.own 0 4 rfl rfl) rfl rfl ?_)
      refine Tr.step rfl (Tr.call (v := .tuple #[.agg #[.int .i64 (applyN a (col b 2) 0), .int .i64 (applyN a (col b 2) 1), .int .i64 (applyN a (col b 2) 2), .int .i64 (applyN a (col b 2) 3)], .int .i64 (applyE a (col b 2))]) F.en22 rfl (fun w hw => apply_n a (col b 2) w) rfl ?_)
      refine Tr.step rfl (Tr.val rfl rfl ?_)
      refine Tr.step rfl (Tr.val rfl rfl ?_)
      refine Tr.step rfl (Tr.val rfl rfl ?_)
      refine Tr.step rfl (Tr.alloc F.ty23 rfl rfl ?_)
      rintro u10
      refine Tr.step rfl (Tr.store 0 F.ty23 rfl rfl rfl rfl rfl rfl rfl rfl rfl rfl ?_)
      refine Tr.step rfl (Tr.val rfl rfl ?_)
      refine Tr.nil ?_
      refine Tr.thenN ?_
      refine Tr.seq ?_
      refine Tr.seq ?_
      refine Tr.region ?_
      refine Tr.step rfl (Tr.val rfl rfl ?_)
      refine Tr.step rfl (Tr.val rfl rfl ?_)
      refine Tr.nil ?_
      refine Tr.thenN ?_
      refine Tr.decide 24 rfl (fun h3 => ?_) (fun h3 => ?_)
      · replace h3 := nT h3
        refine Tr.yes rfl ?_
        refine Tr.seq ?_
        refine Tr.region ?_
        refine Tr.step rfl (Tr.buildA #[.int .i64 0, .int .i64 0, .int .i64 0, .int .i64 0, .int .i64 0, .int .i64 0, .int .i64 0, .int .i64 0, .int .i64 0, .int .i64 0, .int .i64 0, .int .i64 0, .int .i64 0, .int .i64 0, .int .i64 0, .int .i64 0] F.und25 F.ty25 F.ty23 rfl (by kernel_rfl) rfl ?_)
        refine Tr.step rfl (Tr.val rfl rfl ?_)
        refine Tr.step rfl (Tr.store 7 F.ty25 rfl rfl rfl rfl rfl rfl rfl rfl rfl rfl ?_)
        refine Tr.step rfl (Tr.val rfl rfl ?_)
        refine Tr.nil ?_
        refine Tr.thenN ?_
        refine Tr.ret ?_
        refine Tr.thenR ?_
        refine Tr.blockR ?_
        refine Tr.thenR ?_
        refine Tr.thenR ?_
        refine Tr.blockR ?_
        refine Tr.thenR ?_
        refine Tr.leave rfl rfl ?_
        refine Tr.res2 rfl (RsV.cellN (vs := [.int .i64 0, .int .i64 0, .int .i64 0, .int .i64 0, .int .i64 0, .int .i64 0, .int .i64 0, .int .i64 0, .int .i64 0, .int .i64 0, .int .i64 0, .int .i64 0, .int .i64 0, .int .i64 0, .int .i64 0, .int .i64 0]) rfl F.ty25 (Cells.own 7 16 rfl rfl) rfl) (RsV.tmp rfl) (fun w hw => ?_)
        exact ⟨by simp [mulN, mulE, *], hw.fm⟩
      · replace h3 := nF h3
        refine Tr.not rfl ?_
        refine Tr.skip ?_
        refine Tr.thenN ?_
        refine Tr.region ?_
        refine Tr.step rfl (Tr.val rfl rfl ?_)
        refine Tr.step rfl (Tr.loadN (vs := [.int .i64 (applyN a (col b 2) 0), .int .i64 (applyN a (col b 2) 1), .int .i64 (applyN a (col b 2) 2), .int .i64 (applyN a (col b 2) 3)]) F.ty23 rfl (Cells.own 0 4 rfl rfl) rfl rfl ?_)
        refine Tr.step rfl (Tr.indexArr (o' := 8) F.arr25 rfl rfl (by decide) (by decide) (rfl) rfl ?_)
        refine Tr.step rfl (Tr.store 6 F.ty23 rfl rfl rfl rfl rfl rfl rfl rfl rfl rfl ?_)
        refine Tr.nil ?_
        refine Tr.blockN ?_
        refine Tr.thenN ?_
        refine Tr.region ?_
        refine Tr.step rfl (Tr.valE (.int .i64 3) rfl (rfl) rfl ?_)
        refine Tr.step rfl (Tr.val rfl rfl ?_)
        refine Tr.nil ?_
        refine Tr.thenN ?_
        refine Tr.sub (l' := [(13, .int .i64 3), (12, .agg #[.int .i64 (b 0), .int .i64 (b 4), .int .i64 (b 8), .int .i64 (b 12), .int .i64 (b 1), .int .i64 (b 5), .int .i64 (b 9), .int .i64 (b 13), .int .i64 (b 2), .int .i64 (b 6), .int .i64 (b 10), .int .i64 (b 14), .int .i64 (b 3), .int .i64 (b 7), .int .i64 (b 11), .int .i64 (b 15)]), (6, .pointer (some ⟨u4, 0, none⟩)), (4, .pointer (some ⟨u3, 0, none⟩)), (2, .pointer (some ⟨u1, 0, none⟩))]) (h' := [(u10, .cells #[.int .i64 (applyN a (col b 2) 0), .int .i64 (applyN a (col b 2) 1), .int .i64 (applyN a (col b 2) 2), .int .i64 (applyN a (col b 2) 3)] 23), (u9, .cells #[.int .i64 (b 2), .int .i64 (b 6), .int .i64 (b 10), .int .i64 (b 14)] 23), (u8, .cells #[.int .i64 (applyN a (col b 1) 0), .int .i64 (applyN a (col b 1) 1), .int .i64 (applyN a (col b 1) 2), .int .i64 (applyN a (col b 1) 3)] 23), (u7, .cells #[.int .i64 (b 1), .int .i64 (b 5), .int .i64 (b 9), .int .i64 (b 13)] 23), (u6, .cells #[.int .i64 (applyN a (col b 0) 0), .int .i64 (applyN a (col b 0) 1), .int .i64 (applyN a (col b 0) 2), .int .i64 (applyN a (col b 0) 3)] 23), (u5, .cells #[.int .i64 (b 0), .int .i64 (b 4), .int .i64 (b 8), .int .i64 (b 12)] 23), (u4, .cells #[.int .i64 (applyN a (col b 0) 0), .int .i64 (applyN a (col b 0) 1), .int .i64 (applyN a (col b 0) 2), .int .i64 (applyN a (col b 0) 3), .int .i64 (applyN a (col b 1) 0), .int .i64 (applyN a (col b 1) 1), .int .i64 (applyN a (col b 1) 2), .int .i64 (applyN a (col b 1) 3), .int .i64 (applyN a (col b 2) 0), .int .i64 (applyN a (col b 2) 1), .int .i64 (applyN a (col b 2) 2), .int .i64 (applyN a (col b 2) 3), .int .i64 0, .int .i64 0, .int .i64 0, .int .i64 0] 25), (u3, .cells #[.int .i64 0, .int .i64 0, .int .i64 0, .int .i64 0, .int .i64 0, .int .i64 0, .int .i64 0, .int .i64 0, .int .i64 0, .int .i64 0, .int .i64 0, .int .i64 0, .int .i64 0, .int .i64 0, .int .i64 0, .int .i64 0] 25), (u2, .cells #[.int .i64 (b 0), .int .i64 (b 1), .int .i64 (b 2), .int .i64 (b 3), .int .i64 (b 4), .int .i64 (b 5), .int .i64 (b 6), .int .i64 (b 7), .int .i64 (b 8), .int .i64 (b 9), .int .i64 (b 10), .int .i64 (b 11), .int .i64 (b 12), .int .i64 (b 13), .int .i64 (b 14), .int .i64 (b 15)] 25), (u1, .cells #[.int .i64 (a 0), .int .i64 (a 1), .int .i64 (a 2), .int .i64 (a 3), .int .i64 (a 4), .int .i64 (a 5), .int .i64 (a 6), .int .i64 (a 7), .int .i64 (a 8), .int .i64 (a 9), .int .i64 (a 10), .int .i64 (a 11), .int .i64 (a 12), .int .i64 (a 13), .int .i64 (a 14), .int .i64 (a 15)] 25)]) ?_ [0, 1, 2, 3, 4, 5, 6, 7, 8, 9] (by decide) rfl ⟨rfl, rfl, rfl, rfl, rfl, trivial⟩
        refine Tr.roundU ?_
        refine Tr.seq ?_
        refine Tr.region ?_
        refine Tr.step rfl (Tr.valE (.bool true) rfl rfl rfl ?_)
        refine Tr.nil ?_
        refine Tr.thenN ?_
        refine Tr.seq ?_
        refine Tr.yes rfl ?_
        refine Tr.skip ?_
        refine Tr.thenN ?_
        refine Tr.seq ?_
        refine Tr.block ?_
        refine Tr.seq ?_
        refine Tr.region ?_
        refine Tr.step rfl (Tr.val rfl rfl ?_)
        refine Tr.step rfl (Tr.indexValN (us := [.int .i64 (b 3), .int .i64 (b 7), .int .i64 (b 11), .int .i64 (b 15)]) F.und25 F.ty23 rfl rfl (by decide) (by decide) rfl rfl ?_)
        refine Tr.step rfl (Tr.alloc F.ty23 rfl rfl ?_)
        rintro u11
        refine Tr.step rfl (Tr.val rfl rfl ?_)
        refine Tr.step rfl (Tr.store 0 F.ty23 rfl rfl rfl rfl rfl rfl rfl rfl rfl rfl ?_)
        refine Tr.nil ?_
        refine Tr.thenN ?_
        refine Tr.seq ?_
        refine Tr.region ?_
        refine Tr.step rfl (Tr.loadN (vs := [.int .i64 (a 0), .int .i64 (a 1), .int .i64 (a 2), .int .i64 (a 3), .int .i64 (a 4), .int .i64 (a 5), .int .i64 (a 6), .int .i64 (a 7), .int .i64 (a 8), .int .i64 (a 9), .int .i64 (a 10), .int .i64 (a 11), .int .i64 (a 12), .int .i64 (a 13), .int .i64 (a 14), .int .i64 (a 15)]) F.ty25 rfl (Cells.own 10 16 rfl rfl) rfl rfl ?_)
        refine Tr.step rfl (Tr.loadN (vs := [.int .i64 (b 3), .int .i64 (b 7), .int .i64 (b 11), .int .i64 (b 15)]) F.ty23 rfl (Cells.own 0 4 rfl rfl) rfl rfl ?_)
        refine Tr.step rfl (Tr.call (v := .tuple #[.agg #[.int .i64 (applyN a (col b 3) 0), .int .i64 (applyN a (col b 3) 1), .int .i64 (applyN a (col b 3) 2), .int .i64 (applyN a (col b 3) 3)], .int .i64 (applyE a (col b 3))]) F.en22 rfl (fun w hw => apply_n a (col b 3) w) rfl ?_)
        refine Tr.step rfl (Tr.val rfl rfl ?_)
        refine Tr.step rfl (Tr.val rfl rfl ?_)
        refine Tr.step rfl (Tr.val rfl rfl ?_)
        refine Tr.step rfl (Tr.alloc F.ty23 rfl rfl ?_)
        rintro u12
        refine Tr.step rfl (Tr.store 0 F.ty23 rfl rfl rfl rfl rfl rfl rfl rfl rfl rfl ?_)
        refine Tr.step rfl (Tr.val rfl rfl ?_)
        refine Tr.nil ?_
        refine Tr.thenN ?_
        refine Tr.seq ?_
        refine Tr.seq ?_
        refine Tr.region ?_
        refine Tr.step rfl (Tr.val rfl rfl ?_)
        refine Tr.step rfl (Tr.val rfl rfl ?_)
        refine Tr.nil ?_
        refine Tr.thenN ?_
        refine Tr.decide 24 rfl (fun h4 => ?_) (fun h4 => ?_)
        · replace h4 := nT h4
          refine Tr.yes rfl ?_
          refine Tr.seq ?_
          refine Tr.region ?_
          refine Tr.step rfl (Tr.buildA #[.int .i64 0, .int .i64 0, .int .i64 0, .int .i64 0, .int .i64 0, .int .i64 0, .int .i64 0, .int .i64 0, .int .i64 0, .int .i64 0, .int .i64 0, .int .i64 0, .int .i64 0, .int .i64 0, .int .i64 0, .int .i64 0] F.und25 F.ty25 F.ty23 rfl (by kernel_rfl) rfl ?_)
          refine Tr.step rfl (Tr.val rfl rfl ?_)
          refine Tr.step rfl (Tr.store 9 F.ty25 rfl rfl rfl rfl rfl rfl rfl rfl rfl rfl ?_)
          refine Tr.step rfl (Tr.val rfl rfl ?_)
          refine Tr.nil ?_
          refine Tr.thenN ?_
          refine Tr.ret ?_
          refine Tr.thenR ?_
          refine Tr.blockR ?_
          refine Tr.thenR ?_
          refine Tr.thenR ?_
          refine Tr.blockR ?_
          refine Tr.thenR ?_
          refine Tr.leave rfl rfl ?_
          refine Tr.res2 rfl (RsV.cellN (vs := [.int .i64 0, .int .i64 0, .int .i64 0, .int .i64 0, .int .i64 0, .int .i64 0, .int .i64 0, .int .i64 0, .int .i64 0, .int .i64 0, .int .i64 0, .int .i64 0, .int .i64 0, .int .i64 0, .int .i64 0, .int .i64 0]) rfl F.ty25 (Cells.own 9 16 rfl rfl) rfl) (RsV.tmp rfl) (fun w hw => ?_)
          exact ⟨by simp [mulN, mulE, *], hw.fm⟩
        · replace h4 := nF h4
          refine Tr.not rfl ?_
          refine Tr.skip ?_
          refine Tr.thenN ?_
          refine Tr.region ?_
          refine Tr.step rfl (Tr.val rfl rfl ?_)
          refine Tr.step rfl (Tr.loadN (vs := [.int .i64 (applyN a (col b 3) 0), .int .i64 (applyN a (col b 3) 1), .int .i64 (applyN a (col b 3) 2), .int .i64 (applyN a (col b 3) 3)]) F.ty23 rfl (Cells.own 0 4 rfl rfl) rfl rfl ?_)
          refine Tr.step rfl (Tr.indexArr (o' := 12) F.arr25 rfl rfl (by decide) (by decide) (rfl) rfl ?_)
          refine Tr.step rfl (Tr.store 8 F.ty23 rfl rfl rfl rfl rfl rfl rfl rfl rfl rfl ?_)
          refine Tr.nil ?_
          refine Tr.blockN ?_
          refine Tr.thenN ?_
          refine Tr.region ?_
          refine Tr.step rfl (Tr.valE (.int .i64 4) rfl (rfl) rfl ?_)
          refine Tr.step rfl (Tr.val rfl rfl ?_)
          refine Tr.nil ?_
          refine Tr.thenN ?_
          refine Tr.sub (l' := [(13, .int .i64 4), (12, .agg #[.int .i64 (b 0), .int .i64 (b 4), .int .i64 (b 8), .int .i64 (b 12), .int .i64 (b 1), .int .i64 (b 5), .int .i64 (b 9), .int .i64 (b 13), .int .i64 (b 2), .int .i64 (b 6), .int .i64 (b 10), .int .i64 (b 14), .int .i64 (b 3), .int .i64 (b 7), .int .i64 (b 11), .int .i64 (b 15)]), (6, .pointer (some ⟨u4, 0, none⟩)), (4, .pointer (some ⟨u3, 0, none⟩)), (2, .pointer (some ⟨u1, 0, none⟩))]) (h' := [(u12, .cells #[.int .i64 (applyN a (col b 3) 0), .int .i64 (applyN a (col b 3) 1), .int .i64 (applyN a (col b 3) 2), .int .i64 (applyN a (col b 3) 3)] 23), (u11, .cells #[.int .i64 (b 3), .int .i64 (b 7), .int .i64 (b 11), .int .i64 (b 15)] 23), (u10, .cells #[.int .i64 (applyN a (col b 2) 0), .int .i64 (applyN a (col b 2) 1), .int .i64 (applyN a (col b 2) 2), .int .i64 (applyN a (col b 2) 3)] 23), (u9, .cells #[.int .i64 (b 2), .int .i64 (b 6), .int .i64 (b 10), .int .i64 (b 14)] 23), (u8, .cells #[.int .i64 (applyN a (col b 1) 0), .int .i64 (applyN a (col b 1) 1), .int .i64 (applyN a (col b 1) 2), .int .i64 (applyN a (col b 1) 3)] 23), (u7, .cells #[.int .i64 (b 1), .int .i64 (b 5), .int .i64 (b 9), .int .i64 (b 13)] 23), (u6, .cells #[.int .i64 (applyN a (col b 0) 0), .int .i64 (applyN a (col b 0) 1), .int .i64 (applyN a (col b 0) 2), .int .i64 (applyN a (col b 0) 3)] 23), (u5, .cells #[.int .i64 (b 0), .int .i64 (b 4), .int .i64 (b 8), .int .i64 (b 12)] 23), (u4, .cells #[.int .i64 (applyN a (col b 0) 0), .int .i64 (applyN a (col b 0) 1), .int .i64 (applyN a (col b 0) 2), .int .i64 (applyN a (col b 0) 3), .int .i64 (applyN a (col b 1) 0), .int .i64 (applyN a (col b 1) 1), .int .i64 (applyN a (col b 1) 2), .int .i64 (applyN a (col b 1) 3), .int .i64 (applyN a (col b 2) 0), .int .i64 (applyN a (col b 2) 1), .int .i64 (applyN a (col b 2) 2), .int .i64 (applyN a (col b 2) 3), .int .i64 (applyN a (col b 3) 0), .int .i64 (applyN a (col b 3) 1), .int .i64 (applyN a (col b 3) 2), .int .i64 (applyN a (col b 3) 3)] 25), (u3, .cells #[.int .i64 0, .int .i64 0, .int .i64 0, .int .i64 0, .int .i64 0, .int .i64 0, .int .i64 0, .int .i64 0, .int .i64 0, .int .i64 0, .int .i64 0, .int .i64 0, .int .i64 0, .int .i64 0, .int .i64 0, .int .i64 0] 25), (u2, .cells #[.int .i64 (b 0), .int .i64 (b 1), .int .i64 (b 2), .int .i64 (b 3), .int .i64 (b 4), .int .i64 (b 5), .int .i64 (b 6), .int .i64 (b 7), .int .i64 (b 8), .int .i64 (b 9), .int .i64 (b 10), .int .i64 (b 11), .int .i64 (b 12), .int .i64 (b 13), .int .i64 (b 14), .int .i64 (b 15)] 25), (u1, .cells #[.int .i64 (a 0), .int .i64 (a 1), .int .i64 (a 2), .int .i64 (a 3), .int .i64 (a 4), .int .i64 (a 5), .int .i64 (a 6), .int .i64 (a 7), .int .i64 (a 8), .int .i64 (a 9), .int .i64 (a 10), .int .i64 (a 11), .int .i64 (a 12), .int .i64 (a 13), .int .i64 (a 14), .int .i64 (a 15)] 25)]) ?_ [0, 1, 2, 3, 4, 5, 6, 7, 8, 9, 10, 11] (by decide) rfl ⟨rfl, rfl, rfl, rfl, rfl, trivial⟩
          refine Tr.roundU ?_
          refine Tr.seq ?_
          refine Tr.region ?_
          refine Tr.step rfl (Tr.valE (.bool false) rfl rfl rfl ?_)
          refine Tr.nil ?_
          refine Tr.thenN ?_
          refine Tr.seq ?_
          refine Tr.not rfl ?_
          refine Tr.exit ?_
          refine Tr.thenE ?_
          refine Tr.thenE ?_
          refine Tr.blockHit ?_
          refine Tr.thenN ?_
          refine Tr.seq ?_
          refine Tr.region ?_
          refine Tr.step rfl (Tr.loadN (vs := [.int .i64 (applyN a (col b 0) 0), .int .i64 (applyN a (col b 0) 1), .int .i64 (applyN a (col b 0) 2), .int .i64 (applyN a (col b 0) 3), .int .i64 (applyN a (col b 1) 0), .int .i64 (applyN a (col b 1) 1), .int .i64 (applyN a (col b 1) 2), .int .i64 (applyN a (col b 1) 3), .int .i64 (applyN a (col b 2) 0), .int .i64 (applyN a (col b 2) 1), .int .i64 (applyN a (col b 2) 2), .int .i64 (applyN a (col b 2) 3), .int .i64 (applyN a (col b 3) 0), .int .i64 (applyN a (col b 3) 1), .int .i64 (applyN a (col b 3) 2), .int .i64 (applyN a (col b 3) 3)]) F.ty25 rfl (Cells.own 8 16 rfl rfl) rfl rfl ?_)
          refine Tr.step rfl (Tr.call (v := .agg #[.int .i64 (applyN a (col b 0) 0), .int .i64 (applyN a (col b 1) 0), .int .i64 (applyN a (col b 2) 0), .int .i64 (applyN a (col b 3) 0), .int .i64 (applyN a (col b 0) 1), .int .i64 (applyN a (col b 1) 1), .int .i64 (applyN a (col b 2) 1), .int .i64 (applyN a (col b 3) 1), .int .i64 (applyN a (col b 0) 2), .int .i64 (applyN a (col b 1) 2), .int .i64 (applyN a (col b 2) 2), .int .i64 (applyN a (col b 3) 2), .int .i64 (applyN a (col b 0) 3), .int .i64 (applyN a (col b 1) 3), .int .i64 (applyN a (col b 2) 3), .int .i64 (applyN a (col b 3) 3)]) F.en21 rfl (fun w hw => across_n (fun i => applyN a (col b (i / 4)) (i % 4)) w) rfl ?_)
          refine Tr.step rfl (Tr.store 9 F.ty25 rfl rfl rfl rfl rfl rfl rfl rfl rfl rfl ?_)
          refine Tr.step rfl (Tr.val rfl rfl ?_)
          refine Tr.nil ?_
          refine Tr.thenN ?_
          refine Tr.ret ?_
          refine Tr.leave rfl rfl ?_
          refine Tr.res2 rfl (RsV.cellN (vs := [.int .i64 (applyN a (col b 0) 0), .int .i64 (applyN a (col b 1) 0), .int .i64 (applyN a (col b 2) 0), .int .i64 (applyN a (col b 3) 0), .int .i64 (applyN a (col b 0) 1), .int .i64 (applyN a (col b 1) 1), .int .i64 (applyN a (col b 2) 1), .int .i64 (applyN a (col b 3) 1), .int .i64 (applyN a (col b 0) 2), .int .i64 (applyN a (col b 1) 2), .int .i64 (applyN a (col b 2) 2), .int .i64 (applyN a (col b 3) 2), .int .i64 (applyN a (col b 0) 3), .int .i64 (applyN a (col b 1) 3), .int .i64 (applyN a (col b 2) 3), .int .i64 (applyN a (col b 3) 3)]) rfl F.ty25 (Cells.own 9 16 rfl rfl) rfl) (RsV.tmp rfl) (fun w hw => ?_)
          exact ⟨by simp [mulN, mulE, *], hw.fm⟩

set_option maxRecDepth 100000 in
set_option maxHeartbeats 4000000 in
theorem scale_n (x y z : Int) (w : World) : Calls Tryd.prog 5 #[.int .i64 x, .int .i64 y, .int .i64 z] w (Gives (.agg #[.int .i64 x, .int .i64 0, .int .i64 0, .int .i64 0, .int .i64 0, .int .i64 y, .int .i64 0, .int .i64 0, .int .i64 0, .int .i64 0, .int .i64 z, .int .i64 0, .int .i64 0, .int .i64 0, .int .i64 0, .int .i64 65536]) w) := by
  refine calls_enter No Tryd.func5 rfl rfl rfl rfl ?_
  refine Tr.seq ?_
  refine Tr.region ?_
  refine Tr.step rfl (Tr.alloc F.ty25 rfl rfl ?_)
  rintro u1
  refine Tr.nil ?_
  refine Tr.thenN ?_
  refine Tr.seq ?_
  refine Tr.region ?_
  refine Tr.step rfl (Tr.alloc F.ty25 rfl rfl ?_)
  rintro u2
  refine Tr.nil ?_
  refine Tr.thenN ?_
  refine Tr.seq ?_
  refine Tr.region ?_
  refine Tr.step rfl (Tr.val rfl rfl ?_)
  refine Tr.step rfl (Tr.val rfl rfl ?_)
  refine Tr.step rfl (Tr.val rfl rfl ?_)
  refine Tr.step rfl (Tr.indexArr (o' := 0) F.arr25 rfl rfl (by decide) (by decide) (rfl) rfl ?_)
  refine Tr.step rfl (Tr.indexArr (o' := 0) F.arr23 rfl rfl (by decide) (by decide) (rfl) rfl ?_)
  refine Tr.step rfl (Tr.store 0 F.ty2 rfl rfl rfl rfl rfl rfl rfl rfl rfl rfl ?_)
  refine Tr.step rfl (Tr.indexArr (o' := 4) F.arr25 rfl rfl (by decide) (by decide) (rfl) rfl ?_)
  refine Tr.step rfl (Tr.indexArr (o' := 5) F.arr23 rfl rfl (by decide) (by decide) (rfl) rfl ?_)
  refine Tr.step rfl (Tr.store 0 F.ty2 rfl rfl rfl rfl rfl rfl rfl rfl rfl rfl ?_)
  refine Tr.step rfl (Tr.indexArr (o' := 8) F.arr25 rfl rfl (by decide) (by decide) (rfl) rfl ?_)
  refine Tr.step rfl (Tr.indexArr (o' := 10) F.arr23 rfl rfl (by decide) (by decide) (rfl) rfl ?_)
  refine Tr.step rfl (Tr.store 0 F.ty2 rfl rfl rfl rfl rfl rfl rfl rfl rfl rfl ?_)
  refine Tr.step rfl (Tr.indexArr (o' := 12) F.arr25 rfl rfl (by decide) (by decide) (rfl) rfl ?_)
  refine Tr.step rfl (Tr.indexArr (o' := 15) F.arr23 rfl rfl (by decide) (by decide) (rfl) rfl ?_)
  refine Tr.step rfl (Tr.store 0 F.ty2 rfl rfl rfl rfl rfl rfl rfl rfl rfl rfl ?_)
  refine Tr.nil ?_
  refine Tr.thenN ?_
  refine Tr.seq ?_
  refine Tr.region ?_
  refine Tr.step rfl (Tr.loadN (vs := [.int .i64 x, .int .i64 0, .int .i64 0, .int .i64 0, .int .i64 0, .int .i64 y, .int .i64 0, .int .i64 0, .int .i64 0, .int .i64 0, .int .i64 z, .int .i64 0, .int .i64 0, .int .i64 0, .int .i64 0, .int .i64 65536]) F.ty25 rfl (Cells.own 0 16 rfl rfl) rfl rfl ?_)
  refine Tr.step rfl (Tr.store 1 F.ty25 rfl rfl rfl rfl rfl rfl rfl rfl rfl rfl ?_)
  refine Tr.nil ?_
  refine Tr.thenN ?_
  refine Tr.ret ?_
  refine Tr.leave rfl rfl ?_
  refine Tr.res1 rfl (RsV.cellN (vs := [.int .i64 x, .int .i64 0, .int .i64 0, .int .i64 0, .int .i64 0, .int .i64 y, .int .i64 0, .int .i64 0, .int .i64 0, .int .i64 0, .int .i64 z, .int .i64 0, .int .i64 0, .int .i64 0, .int .i64 0, .int .i64 65536]) rfl F.ty25 (Cells.own 1 16 rfl rfl) rfl) (fun w hw => ?_)
  exact ⟨rfl, hw.fm⟩

set_option maxRecDepth 100000 in
set_option maxHeartbeats 4000000 in
theorem identity_n (w : World) : Calls Tryd.prog 12 #[] w (Gives (.agg #[.int .i64 65536, .int .i64 0, .int .i64 0, .int .i64 0, .int .i64 0, .int .i64 65536, .int .i64 0, .int .i64 0, .int .i64 0, .int .i64 0, .int .i64 65536, .int .i64 0, .int .i64 0, .int .i64 0, .int .i64 0, .int .i64 65536]) w) := by
  refine calls_enter No Tryd.func12 rfl rfl rfl rfl ?_
  refine Tr.seq ?_
  refine Tr.region ?_
  refine Tr.step rfl (Tr.alloc F.ty25 rfl rfl ?_)
  rintro u1
  refine Tr.nil ?_
  refine Tr.thenN ?_
  refine Tr.seq ?_
  refine Tr.region ?_
  refine Tr.step rfl (Tr.call (v := .agg #[.int .i64 65536, .int .i64 0, .int .i64 0, .int .i64 0, .int .i64 0, .int .i64 65536, .int .i64 0, .int .i64 0, .int .i64 0, .int .i64 0, .int .i64 65536, .int .i64 0, .int .i64 0, .int .i64 0, .int .i64 0, .int .i64 65536]) F.en5 rfl (fun w hw => scale_n 65536 65536 65536 w) rfl ?_)
  refine Tr.step rfl (Tr.store 0 F.ty25 rfl rfl rfl rfl rfl rfl rfl rfl rfl rfl ?_)
  refine Tr.nil ?_
  refine Tr.thenN ?_
  refine Tr.ret ?_
  refine Tr.leave rfl rfl ?_
  refine Tr.res1 rfl (RsV.cellN (vs := [.int .i64 65536, .int .i64 0, .int .i64 0, .int .i64 0, .int .i64 0, .int .i64 65536, .int .i64 0, .int .i64 0, .int .i64 0, .int .i64 0, .int .i64 65536, .int .i64 0, .int .i64 0, .int .i64 0, .int .i64 0, .int .i64 65536]) rfl F.ty25 (Cells.own 0 16 rfl rfl) rfl) (fun w hw => ?_)
  exact ⟨rfl, hw.fm⟩

end Go.Proofs.YtfcbdjjpmgmpoaaDoor

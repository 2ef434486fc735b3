/- Contracts of wide's and matrix' sums. -/
import Derived.Test.YtfcbdjjpmgmpoaaDoorWx
import Derived.Test.YtfcbdjjpmgmpoaaDoorK6
namespace Go.Proofs.YtfcbdjjpmgmpoaaDoor
open Go.RowKit Go.Mat Go.Ka Go.Proofs
attribute [local irreducible] Tr

/-- Two numbers of fixed. -/
abbrev BP := { x : Int × Int // -4611686018427387904 ≤ x.1 ∧ x.1 ≤ 4611686018427387904 ∧ -4611686018427387904 ≤ x.2 ∧ x.2 ≤ 4611686018427387904 }
def dot : List BP → Int
  | [] => 0
  | x :: l => x.1.1 * x.1.2 + dot l
theorem dot_snoc (l : List BP) (x : BP) : dot (l ++ [x]) = dot l + x.1.1 * x.1.2 := by
  induction l with
  | nil => simp [dot]
  | cons y l ih => simp only [List.cons_append, dot, ih]; omega
theorem mul_bd (x : BP) : -21267647932558653966460912964485513216 ≤ x.1.1 * x.1.2 ∧ x.1.1 * x.1.2 ≤ 21267647932558653966460912964485513216 := by
  obtain ⟨⟨a, b⟩, h1, h2, h3, h4⟩ := x
  simp only at h1 h2 h3 h4 ⊢
  have h : (a * b).natAbs ≤ 4611686018427387904 * 4611686018427387904 := by
    rw [Int.natAbs_mul]; exact Nat.mul_le_mul (by omega) (by omega)
  omega
theorem dot_bd (l : List BP) : -(l.length * 21267647932558653966460912964485513216) ≤ dot l ∧ dot l ≤ l.length * 21267647932558653966460912964485513216 := by
  induction l with
  | nil => simp [dot]
  | cons y l ih => have := mul_bd y; simp only [dot, List.length_cons]; omega
theorem dot_128 (l : List BP) (h : l.length ≤ 4) : is128 (dot l) := by have := dot_bd l; unfold is128; omega
theorem mul_128 (x : BP) : is128 (x.1.1 * x.1.2) := by have := mul_bd x; unfold is128; omega

theorem F.ty86 : tyv Tryd.prog 86 = some (.slice none 0 0, 1, false) := by kernel_rfl
theorem F.und86 : Tryd.prog.underlying 86 = some (.slice 2) := by kernel_rfl
theorem F.sli86 : sli Tryd.prog 86 = some (2, 1) := by kernel_rfl
theorem F.ty2 : tyv Tryd.prog 2 = some (.int .i64 0, 1, false) := by kernel_rfl
theorem F.mixed : Tryd.prog.follows .mixedOrders = true := by kernel_rfl
theorem F.ty83 : tyv Tryd.prog 83 = some (.agg #[.int .i64 0, .int .u64 0], 2, true) := by kernel_rfl
theorem F.ty42 : tyv Tryd.prog 42 = some (.int .i64 0, 1, false) := by kernel_rfl
theorem F.en43 : Enters Tryd.prog 43 := enters_of Tryd.func43 (by kernel_rfl) rfl
theorem F.en51 : Enters Tryd.prog 51 := enters_of Tryd.func51 (by kernel_rfl) rfl
theorem F.en45 : Enters Tryd.prog 45 := enters_of Tryd.func45 (by kernel_rfl) rfl
theorem F.en44 : Enters Tryd.prog 44 := enters_of Tryd.func44 (by kernel_rfl) rfl
set_option maxRecDepth 100000 in
set_option maxHeartbeats 4000000 in
theorem clamp_in (n : Int) (h0 : -4611686018427387904 ≤ n) (h1 : n ≤ 4611686018427387904) (w : World) : Calls Tryd.prog 40 #[.int .i64 n, .int .i64 (-4611686018427387904), .int .i64 4611686018427387904] w (Gives (.int .i64 n) w) := by
  refine calls_enter No Tryd.func40 rfl rfl rfl rfl ?_
  refine Tr.seq ?_
  refine Tr.region ?_
  refine Tr.step rfl (Tr.val rfl rfl ?_)
  refine Tr.nil ?_
  refine Tr.thenN ?_
  refine Tr.seq ?_
  refine Tr.seq ?_
  refine Tr.region ?_
  refine Tr.step rfl (Tr.val rfl rfl ?_)
  refine Tr.step rfl (Tr.val rfl rfl ?_)
  refine Tr.step rfl (Tr.val rfl rfl ?_)
  refine Tr.nil ?_
  refine Tr.thenN ?_
  refine Tr.decide 9 rfl (fun h1 => ?_) (fun h1 => ?_)
  · replace h1 := dT h1
    exfalso; omega
  · replace h1 := dF h1
    refine Tr.not rfl ?_
    refine Tr.skip ?_
    refine Tr.thenN ?_
    refine Tr.seq ?_
    refine Tr.region ?_
    refine Tr.step rfl (Tr.val rfl rfl ?_)
    refine Tr.step rfl (Tr.val rfl rfl ?_)
    refine Tr.step rfl (Tr.blt (v := .int .i64 (min n 4611686018427387904)) rfl (fun _ _ => blt_min _ _ _ _ _ _) rfl ?_)
    refine Tr.step rfl (Tr.val rfl rfl ?_)
    refine Tr.nil ?_
    refine Tr.thenN ?_
    refine Tr.ret ?_
    refine Tr.leave rfl rfl ?_
    refine Tr.res1 rfl (RsV.tmp rfl) (fun w hw => ?_)
    exact ⟨by rw [show min n 4611686018427387904 = n from by omega], hw.fm⟩

set_option maxRecDepth 100000 in
set_option maxHeartbeats 4000000 in
theorem clamp_out (n : Int) (h0 : ¬ (-4611686018427387904 ≤ n ∧ n ≤ 4611686018427387904)) (w : World) : Calls Tryd.prog 40 #[.int .i64 n, .int .i64 (-4611686018427387904), .int .i64 4611686018427387904] w fun e w' => ∃ m : Int, m ≠ n ∧ Gives (.int .i64 m) w e w' := by
  refine calls_enter No Tryd.func40 rfl rfl rfl rfl ?_
  refine Tr.seq ?_
  refine Tr.region ?_
  refine Tr.step rfl (Tr.val rfl rfl ?_)
  refine Tr.nil ?_
  refine Tr.thenN ?_
  refine Tr.seq ?_
  refine Tr.seq ?_
  refine Tr.region ?_
  refine Tr.step rfl (Tr.val rfl rfl ?_)
  refine Tr.step rfl (Tr.val rfl rfl ?_)
  refine Tr.step rfl (Tr.val rfl rfl ?_)
  refine Tr.nil ?_
  refine Tr.thenN ?_
  refine Tr.decide 9 rfl (fun h1 => ?_) (fun h1 => ?_)
  · replace h1 := dT h1
    refine Tr.yes rfl ?_
    refine Tr.seq ?_
    refine Tr.region ?_
    refine Tr.step rfl (Tr.val rfl rfl ?_)
    refine Tr.step rfl (Tr.val rfl rfl ?_)
    refine Tr.nil ?_
    refine Tr.thenN ?_
    refine Tr.ret ?_
    refine Tr.thenR ?_
    refine Tr.leave rfl rfl ?_
    refine Tr.res1 rfl (RsV.tmp rfl) (fun w hw => ?_)
    exact ⟨(-4611686018427387904), by omega, rfl, hw.fm⟩
  · replace h1 := dF h1
    refine Tr.not rfl ?_
    refine Tr.skip ?_
    refine Tr.thenN ?_
    refine Tr.seq ?_
    refine Tr.region ?_
    refine Tr.step rfl (Tr.val rfl rfl ?_)
    refine Tr.step rfl (Tr.val rfl rfl ?_)
    refine Tr.step rfl (Tr.blt (v := .int .i64 (min n 4611686018427387904)) rfl (fun _ _ => blt_min _ _ _ _ _ _) rfl ?_)
    refine Tr.step rfl (Tr.val rfl rfl ?_)
    refine Tr.nil ?_
    refine Tr.thenN ?_
    refine Tr.ret ?_
    refine Tr.leave rfl rfl ?_
    refine Tr.res1 rfl (RsV.tmp rfl) (fun w hw => ?_)
    exact ⟨(min n 4611686018427387904), by omega, rfl, hw.fm⟩

set_option maxRecDepth 100000 in
set_option maxHeartbeats 4000000 in
theorem pairs_any (a b : Addr) (n m k q : Nat) (w : World) : Calls Tryd.prog 43 #[.slice (some a) n m, .slice (some b) k q] w fun e w' => ∃ x : Nat × Nat, e = .returned (.func (.func 51) #[] #[.pointer (some ⟨x.1, 0, none⟩), .pointer (some ⟨x.2, 0, none⟩)]) ∧ Fm No w w' ∧ New w w' [(x.1, .cells #[.slice (some a) n m] 86), (x.2, .cells #[.slice (some b) k q] 86)] := by
  refine calls_enter No Tryd.func43 rfl rfl rfl rfl ?_
  refine Tr.seq ?_
  refine Tr.region ?_
  refine Tr.step rfl (Tr.box rfl rfl rfl ?_)
  rintro u1
  refine Tr.step rfl (Tr.box rfl rfl rfl ?_)
  rintro u2
  refine Tr.step rfl (Tr.val rfl rfl ?_)
  refine Tr.nil ?_
  refine Tr.thenN ?_
  refine Tr.seq ?_
  refine Tr.region ?_
  refine Tr.step rfl (Tr.val rfl rfl ?_)
  refine Tr.step rfl (Tr.val rfl rfl ?_)
  refine Tr.nil ?_
  refine Tr.thenN ?_
  refine Tr.ret ?_
  refine Tr.leave rfl rfl ?_
  refine Tr.res1 rfl (RsV.tmp rfl) (fun w hw => ?_)
  exact ⟨(u1, u2), rfl, hw.fm, hw.new rfl [1, 0] (by decide) rfl⟩

set_option maxRecDepth 100000 in
set_option maxHeartbeats 4000000 in
theorem pairs_iter (b1 b2 ba oa bb ob : Nat) (x0 x1 x2 x3 : BP) (w : World) (Keep : Nat → Prop) (hlt : ∀ b, Keep b → b < w.heap.size) (k1 : Keep b1) (k2 : Keep b2) (k3 : Keep ba) (k4 : Keep bb)
    (h1 : w.heap[b1]? = some (.cells #[.slice (some ⟨ba, oa, none⟩) 4 4] 86)) (h2 : w.heap[b2]? = some (.cells #[.slice (some ⟨bb, ob, none⟩) 4 4] 86))
    (ra : Row w ba oa [.int .i64 x0.1.1, .int .i64 x1.1.1, .int .i64 x2.1.1, .int .i64 x3.1.1]) (rb : Row w bb ob [.int .i64 x0.1.2, .int .i64 x1.1.2, .int .i64 x2.1.2, .int .i64 x3.1.2]) :
    Iter Tryd.prog 51 #[.pointer (some ⟨b1, 0, none⟩), .pointer (some ⟨b2, 0, none⟩)] (fun x : BP => #[.int .i64 x.1.1, .int .i64 x.1.2]) Keep [x0, x1, x2, x3] w := by
  refine iter_enter Tryd.func51 rfl rfl rfl rfl hlt ?_
  rintro lp J Jx hJ hJx W hW hY
  have q1 : Row W b1 0 [.slice (some ⟨ba, oa, none⟩) 4 4] := Row.block (n := 1) ((hW b1 k1).trans h1) rfl
  have q2 : Row W b2 0 [.slice (some ⟨bb, ob, none⟩) 4 4] := Row.block (n := 1) ((hW b2 k2).trans h2) rfl
  have q3 := ra.keep (hW ba k3)
  have q4 := rb.keep (hW bb k4)
  refine Tr.seq ?_
  refine Tr.region ?_
  refine Tr.step rfl (Tr.load1 F.ty86 rfl (q1.toCell (fun h => h k1) (show [.slice (some ⟨ba, oa, none⟩) 4 4][0]? = some _ from rfl) rfl) rfl ?_)
  refine Tr.step rfl (Tr.blt (v := .int .i64 4) rfl (fun _ _ => blt_lenSlice F.und86 _ _ _ _ _ _) rfl ?_)
  refine Tr.step rfl (Tr.load1 F.ty86 rfl (q2.toCell (fun h => h k2) (show [.slice (some ⟨bb, ob, none⟩) 4 4][0]? = some _ from rfl) rfl) rfl ?_)
  refine Tr.step rfl (Tr.blt (v := .int .i64 4) rfl (fun _ _ => blt_lenSlice F.und86 _ _ _ _ _ _) rfl ?_)
  refine Tr.step rfl (Tr.blt (v := .int .i64 4) rfl (fun _ _ => blt_min _ _ _ _ _ _) rfl ?_)
  refine Tr.step rfl (Tr.val rfl rfl ?_)
  refine Tr.nil ?_
  refine Tr.thenN ?_
  refine Tr.block ?_
  refine Tr.loopU ?_
  refine Tr.sub (l' := [(10, .int .i64 0), (9, .int .i64 4), (0, .func (.yield lp) #[] #[]), (1, .pointer (some ⟨b1, 0, none⟩)), (2, .pointer (some ⟨b2, 0, none⟩))]) (h' := []) ?_ [] (by decide) rfl ⟨rfl, rfl, rfl, rfl, rfl, trivial⟩
  refine Tr.roundU ?_
  refine Tr.seq ?_
  refine Tr.region ?_
  refine Tr.step rfl (Tr.valE (.bool true) rfl rfl rfl ?_)
  refine Tr.nil ?_
  refine Tr.thenN ?_
  refine Tr.seq ?_
  refine Tr.yes rfl ?_
  refine Tr.skip ?_
  refine Tr.thenN ?_
  refine Tr.seq ?_
  refine Tr.block ?_
  refine Tr.seq ?_
  refine Tr.region ?_
  refine Tr.step rfl (Tr.val rfl rfl ?_)
  refine Tr.step rfl (Tr.val rfl rfl ?_)
  refine Tr.nil ?_
  refine Tr.thenN ?_
  refine Tr.seq ?_
  refine Tr.sub (l' := [(4, .int .i64 0), (10, .int .i64 0), (9, .int .i64 4), (0, .func (.yield lp) #[] #[]), (1, .pointer (some ⟨b1, 0, none⟩)), (2, .pointer (some ⟨b2, 0, none⟩))]) (h' := []) ?_ [] (by decide) rfl ⟨rfl, rfl, rfl, rfl, rfl, rfl, trivial⟩
  refine Tr.drawY (Y := Option World) (fun y => match y with | none => Cx.it Tryd.prog 25 Keep W (J ([] ++ [x0])) (hJ _) | some w' => Cx.over Tryd.prog 25 w' (Jx ([] ++ [x0])) (hJx _)) (fun y => match y with | none => [(23, .bool false), (22, .bool true), (21, .int .i64 x0.1.2), (20, .pointer (some ⟨bb, ob, none⟩)), (19, .int .i64 0), (18, .slice (some ⟨bb, ob, none⟩) 4 4), (17, .int .i64 x0.1.1), (16, .pointer (some ⟨ba, oa, none⟩)), (15, .int .i64 0), (14, .slice (some ⟨ba, oa, none⟩) 4 4), (13, .func (.yield lp) #[] #[]), (4, .int .i64 0), (10, .int .i64 0), (9, .int .i64 4), (0, .func (.yield lp) #[] #[]), (1, .pointer (some ⟨b1, 0, none⟩)), (2, .pointer (some ⟨b2, 0, none⟩))] | some _ => [(23, .bool true), (22, .bool false), (21, .int .i64 x0.1.2), (20, .pointer (some ⟨bb, ob, none⟩)), (19, .int .i64 0), (18, .slice (some ⟨bb, ob, none⟩) 4 4), (17, .int .i64 x0.1.1), (16, .pointer (some ⟨ba, oa, none⟩)), (15, .int .i64 0), (14, .slice (some ⟨ba, oa, none⟩) 4 4), (13, .func (.yield lp) #[] #[]), (4, .int .i64 0), (10, .int .i64 0), (9, .int .i64 4), (0, .func (.yield lp) #[] #[]), (1, .pointer (some ⟨b1, 0, none⟩)), (2, .pointer (some ⟨b2, 0, none⟩))]) (fun _ => []) F.mixed ?_ ?_
  · intro K N hN tE
    have N18 : N (Cx.it Tryd.prog 25 Keep W (J []) (hJ _)) [(21, .int .i64 x0.1.2), (20, .pointer (some ⟨bb, ob, none⟩)), (19, .int .i64 0), (18, .slice (some ⟨bb, ob, none⟩) 4 4), (17, .int .i64 x0.1.1), (16, .pointer (some ⟨ba, oa, none⟩)), (15, .int .i64 0), (14, .slice (some ⟨ba, oa, none⟩) 4 4), (13, .func (.yield lp) #[] #[]), (4, .int .i64 0), (10, .int .i64 0), (9, .int .i64 4), (0, .func (.yield lp) #[] #[]), (1, .pointer (some ⟨b1, 0, none⟩)), (2, .pointer (some ⟨b2, 0, none⟩))] [] 2 #[true, true, true, true, true, true, true, true, true, false, false] := by
      refine (hN _ _ _ _ _).2 ?_
      refine Tr.any 9 [] (by kernel_rfl) ⟨⟨_, rfl, ?_⟩, trivial⟩
      · skip
        refine Tr.one rfl (Tr.yield (J' := J ([] ++ [x0])) (Jx' := Jx ([] ++ [x0])) (hJ _) (hJx _) rfl rfl rfl (fun w hw => hY [] x0 w hw (by simp)) ?_ (fun w' => ?_))
        · skip
          refine Tr.any 10 [] (by kernel_rfl) ⟨⟨_, rfl, ?_⟩, trivial⟩
          refine Tr.one rfl (Tr.valE (.bool false) rfl rfl rfl ?_)
          exact Tr.anyEnd (by kernel_rfl) (Tr.sub (tE none) [] (by decide) rfl ⟨rfl, rfl, rfl, rfl, rfl, rfl, rfl, rfl, rfl, rfl, rfl, rfl, rfl, rfl, rfl, rfl, rfl, trivial⟩)
        · skip
          refine Tr.any 10 [] (by kernel_rfl) ⟨⟨_, rfl, ?_⟩, trivial⟩
          refine Tr.one rfl (Tr.valE (.bool true) rfl rfl rfl ?_)
          exact Tr.anyEnd (by kernel_rfl) (Tr.sub (tE (some w')) [] (by decide) rfl ⟨rfl, rfl, rfl, rfl, rfl, rfl, rfl, rfl, rfl, rfl, rfl, rfl, rfl, rfl, rfl, rfl, rfl, trivial⟩)
    have N17 : N (Cx.it Tryd.prog 25 Keep W (J []) (hJ _)) [(21, .int .i64 x0.1.2), (20, .pointer (some ⟨bb, ob, none⟩)), (19, .int .i64 0), (18, .slice (some ⟨bb, ob, none⟩) 4 4), (16, .pointer (some ⟨ba, oa, none⟩)), (15, .int .i64 0), (14, .slice (some ⟨ba, oa, none⟩) 4 4), (13, .func (.yield lp) #[] #[]), (4, .int .i64 0), (10, .int .i64 0), (9, .int .i64 4), (0, .func (.yield lp) #[] #[]), (1, .pointer (some ⟨b1, 0, none⟩)), (2, .pointer (some ⟨b2, 0, none⟩))] [] 3 #[true, true, true, true, false, true, true, true, true, false, false] := by
      refine (hN _ _ _ _ _).2 ?_
      refine Tr.any 4 [] (by kernel_rfl) ⟨⟨_, rfl, ?_⟩, trivial⟩
      · skip
        refine Tr.one rfl (Tr.load1 F.ty2 rfl (q3.toCell (fun h => h k3) (show [.int .i64 x0.1.1, .int .i64 x1.1.1, .int .i64 x2.1.1, .int .i64 x3.1.1][0]? = some _ from rfl) rfl) rfl ?_)
        exact ((hN _ _ _ _ _).1 N18).sub [] (by decide) rfl ⟨rfl, rfl, rfl, rfl, rfl, rfl, rfl, rfl, rfl, rfl, rfl, rfl, rfl, rfl, rfl, trivial⟩
    have N16 : N (Cx.it Tryd.prog 25 Keep W (J []) (hJ _)) [(20, .pointer (some ⟨bb, ob, none⟩)), (19, .int .i64 0), (18, .slice (some ⟨bb, ob, none⟩) 4 4), (17, .int .i64 x0.1.1), (16, .pointer (some ⟨ba, oa, none⟩)), (15, .int .i64 0), (14, .slice (some ⟨ba, oa, none⟩) 4 4), (13, .func (.yield lp) #[] #[]), (4, .int .i64 0), (10, .int .i64 0), (9, .int .i64 4), (0, .func (.yield lp) #[] #[]), (1, .pointer (some ⟨b1, 0, none⟩)), (2, .pointer (some ⟨b2, 0, none⟩))] [] 3 #[true, true, true, true, true, true, true, true, false, false, false] := by
      refine (hN _ _ _ _ _).2 ?_
      refine Tr.any 8 [] (by kernel_rfl) ⟨⟨_, rfl, ?_⟩, trivial⟩
      · skip
        refine Tr.one rfl (Tr.load1 F.ty2 rfl (q4.toCell (fun h => h k4) (show [.int .i64 x0.1.2, .int .i64 x1.1.2, .int .i64 x2.1.2, .int .i64 x3.1.2][0]? = some _ from rfl) rfl) rfl ?_)
        exact ((hN _ _ _ _ _).1 N18).sub [] (by decide) rfl ⟨rfl, rfl, rfl, rfl, rfl, rfl, rfl, rfl, rfl, rfl, rfl, rfl, rfl, rfl, rfl, trivial⟩
    have N15 : N (Cx.it Tryd.prog 25 Keep W (J []) (hJ _)) [(21, .int .i64 x0.1.2), (20, .pointer (some ⟨bb, ob, none⟩)), (19, .int .i64 0), (18, .slice (some ⟨bb, ob, none⟩) 4 4), (15, .int .i64 0), (14, .slice (some ⟨ba, oa, none⟩) 4 4), (13, .func (.yield lp) #[] #[]), (4, .int .i64 0), (10, .int .i64 0), (9, .int .i64 4), (0, .func (.yield lp) #[] #[]), (1, .pointer (some ⟨b1, 0, none⟩)), (2, .pointer (some ⟨b2, 0, none⟩))] [] 4 #[true, true, true, false, false, true, true, true, true, false, false] := by
      refine (hN _ _ _ _ _).2 ?_
      refine Tr.any 3 [] (by kernel_rfl) ⟨⟨_, rfl, ?_⟩, trivial⟩
      · skip
        refine Tr.one rfl (Tr.indexSlice (o' := oa) F.sli86 rfl rfl (by decide) (by decide) (rfl) rfl ?_)
        exact ((hN _ _ _ _ _).1 N17).sub [] (by decide) rfl ⟨rfl, rfl, rfl, rfl, rfl, rfl, rfl, rfl, rfl, rfl, rfl, rfl, rfl, rfl, trivial⟩
    have N14 : N (Cx.it Tryd.prog 25 Keep W (J []) (hJ _)) [(20, .pointer (some ⟨bb, ob, none⟩)), (19, .int .i64 0), (18, .slice (some ⟨bb, ob, none⟩) 4 4), (16, .pointer (some ⟨ba, oa, none⟩)), (15, .int .i64 0), (14, .slice (some ⟨ba, oa, none⟩) 4 4), (13, .func (.yield lp) #[] #[]), (4, .int .i64 0), (10, .int .i64 0), (9, .int .i64 4), (0, .func (.yield lp) #[] #[]), (1, .pointer (some ⟨b1, 0, none⟩)), (2, .pointer (some ⟨b2, 0, none⟩))] [] 4 #[true, true, true, true, false, true, true, true, false, false, false] := by
      refine (hN _ _ _ _ _).2 ?_
      refine Tr.any 4 [8] (by kernel_rfl) ⟨⟨_, rfl, ?_⟩, ⟨_, rfl, ?_⟩, trivial⟩
      · skip
        refine Tr.one rfl (Tr.load1 F.ty2 rfl (q3.toCell (fun h => h k3) (show [.int .i64 x0.1.1, .int .i64 x1.1.1, .int .i64 x2.1.1, .int .i64 x3.1.1][0]? = some _ from rfl) rfl) rfl ?_)
        exact ((hN _ _ _ _ _).1 N16).sub [] (by decide) rfl ⟨rfl, rfl, rfl, rfl, rfl, rfl, rfl, rfl, rfl, rfl, rfl, rfl, rfl, rfl, trivial⟩
      · skip
        refine Tr.one rfl (Tr.load1 F.ty2 rfl (q4.toCell (fun h => h k4) (show [.int .i64 x0.1.2, .int .i64 x1.1.2, .int .i64 x2.1.2, .int .i64 x3.1.2][0]? = some _ from rfl) rfl) rfl ?_)
        exact ((hN _ _ _ _ _).1 N17).sub [] (by decide) rfl ⟨rfl, rfl, rfl, rfl, rfl, rfl, rfl, rfl, rfl, rfl, rfl, rfl, rfl, rfl, trivial⟩
    have N13 : N (Cx.it Tryd.prog 25 Keep W (J []) (hJ _)) [(19, .int .i64 0), (18, .slice (some ⟨bb, ob, none⟩) 4 4), (17, .int .i64 x0.1.1), (16, .pointer (some ⟨ba, oa, none⟩)), (15, .int .i64 0), (14, .slice (some ⟨ba, oa, none⟩) 4 4), (13, .func (.yield lp) #[] #[]), (4, .int .i64 0), (10, .int .i64 0), (9, .int .i64 4), (0, .func (.yield lp) #[] #[]), (1, .pointer (some ⟨b1, 0, none⟩)), (2, .pointer (some ⟨b2, 0, none⟩))] [] 4 #[true, true, true, true, true, true, true, false, false, false, false] := by
      refine (hN _ _ _ _ _).2 ?_
      refine Tr.any 7 [] (by kernel_rfl) ⟨⟨_, rfl, ?_⟩, trivial⟩
      · skip
        refine Tr.one rfl (Tr.indexSlice (o' := ob) F.sli86 rfl rfl (by decide) (by decide) (rfl) rfl ?_)
        exact ((hN _ _ _ _ _).1 N16).sub [] (by decide) rfl ⟨rfl, rfl, rfl, rfl, rfl, rfl, rfl, rfl, rfl, rfl, rfl, rfl, rfl, rfl, trivial⟩
    have N12 : N (Cx.it Tryd.prog 25 Keep W (J []) (hJ _)) [(21, .int .i64 x0.1.2), (20, .pointer (some ⟨bb, ob, none⟩)), (19, .int .i64 0), (18, .slice (some ⟨bb, ob, none⟩) 4 4), (15, .int .i64 0), (13, .func (.yield lp) #[] #[]), (4, .int .i64 0), (10, .int .i64 0), (9, .int .i64 4), (0, .func (.yield lp) #[] #[]), (1, .pointer (some ⟨b1, 0, none⟩)), (2, .pointer (some ⟨b2, 0, none⟩))] [] 5 #[true, false, true, false, false, true, true, true, true, false, false] := by
      refine (hN _ _ _ _ _).2 ?_
      refine Tr.any 1 [] (by kernel_rfl) ⟨⟨_, rfl, ?_⟩, trivial⟩
      · skip
        refine Tr.one rfl (Tr.load1 F.ty86 rfl (q1.toCell (fun h => h k1) (show [.slice (some ⟨ba, oa, none⟩) 4 4][0]? = some _ from rfl) rfl) rfl ?_)
        exact ((hN _ _ _ _ _).1 N15).sub [] (by decide) rfl ⟨rfl, rfl, rfl, rfl, rfl, rfl, rfl, rfl, rfl, rfl, rfl, rfl, rfl, trivial⟩
    have N11 : N (Cx.it Tryd.prog 25 Keep W (J []) (hJ _)) [(20, .pointer (some ⟨bb, ob, none⟩)), (19, .int .i64 0), (18, .slice (some ⟨bb, ob, none⟩) 4 4), (15, .int .i64 0), (14, .slice (some ⟨ba, oa, none⟩) 4 4), (13, .func (.yield lp) #[] #[]), (4, .int .i64 0), (10, .int .i64 0), (9, .int .i64 4), (0, .func (.yield lp) #[] #[]), (1, .pointer (some ⟨b1, 0, none⟩)), (2, .pointer (some ⟨b2, 0, none⟩))] [] 5 #[true, true, true, false, false, true, true, true, false, false, false] := by
      refine (hN _ _ _ _ _).2 ?_
      refine Tr.any 3 [8] (by kernel_rfl) ⟨⟨_, rfl, ?_⟩, ⟨_, rfl, ?_⟩, trivial⟩
      · skip
        refine Tr.one rfl (Tr.indexSlice (o' := oa) F.sli86 rfl rfl (by decide) (by decide) (rfl) rfl ?_)
        exact ((hN _ _ _ _ _).1 N14).sub [] (by decide) rfl ⟨rfl, rfl, rfl, rfl, rfl, rfl, rfl, rfl, rfl, rfl, rfl, rfl, rfl, trivial⟩
      · skip
        refine Tr.one rfl (Tr.load1 F.ty2 rfl (q4.toCell (fun h => h k4) (show [.int .i64 x0.1.2, .int .i64 x1.1.2, .int .i64 x2.1.2, .int .i64 x3.1.2][0]? = some _ from rfl) rfl) rfl ?_)
        exact ((hN _ _ _ _ _).1 N15).sub [] (by decide) rfl ⟨rfl, rfl, rfl, rfl, rfl, rfl, rfl, rfl, rfl, rfl, rfl, rfl, rfl, trivial⟩
    have N10 : N (Cx.it Tryd.prog 25 Keep W (J []) (hJ _)) [(19, .int .i64 0), (18, .slice (some ⟨bb, ob, none⟩) 4 4), (16, .pointer (some ⟨ba, oa, none⟩)), (15, .int .i64 0), (14, .slice (some ⟨ba, oa, none⟩) 4 4), (13, .func (.yield lp) #[] #[]), (4, .int .i64 0), (10, .int .i64 0), (9, .int .i64 4), (0, .func (.yield lp) #[] #[]), (1, .pointer (some ⟨b1, 0, none⟩)), (2, .pointer (some ⟨b2, 0, none⟩))] [] 5 #[true, true, true, true, false, true, true, false, false, false, false] := by
      refine (hN _ _ _ _ _).2 ?_
      refine Tr.any 4 [7] (by kernel_rfl) ⟨⟨_, rfl, ?_⟩, ⟨_, rfl, ?_⟩, trivial⟩
      · skip
        refine Tr.one rfl (Tr.load1 F.ty2 rfl (q3.toCell (fun h => h k3) (show [.int .i64 x0.1.1, .int .i64 x1.1.1, .int .i64 x2.1.1, .int .i64 x3.1.1][0]? = some _ from rfl) rfl) rfl ?_)
        exact ((hN _ _ _ _ _).1 N13).sub [] (by decide) rfl ⟨rfl, rfl, rfl, rfl, rfl, rfl, rfl, rfl, rfl, rfl, rfl, rfl, rfl, trivial⟩
      · skip
        refine Tr.one rfl (Tr.indexSlice (o' := ob) F.sli86 rfl rfl (by decide) (by decide) (rfl) rfl ?_)
        exact ((hN _ _ _ _ _).1 N14).sub [] (by decide) rfl ⟨rfl, rfl, rfl, rfl, rfl, rfl, rfl, rfl, rfl, rfl, rfl, rfl, rfl, trivial⟩
    have N9 : N (Cx.it Tryd.prog 25 Keep W (J []) (hJ _)) [(19, .int .i64 0), (17, .int .i64 x0.1.1), (16, .pointer (some ⟨ba, oa, none⟩)), (15, .int .i64 0), (14, .slice (some ⟨ba, oa, none⟩) 4 4), (13, .func (.yield lp) #[] #[]), (4, .int .i64 0), (10, .int .i64 0), (9, .int .i64 4), (0, .func (.yield lp) #[] #[]), (1, .pointer (some ⟨b1, 0, none⟩)), (2, .pointer (some ⟨b2, 0, none⟩))] [] 5 #[true, true, true, true, true, false, true, false, false, false, false] := by
      refine (hN _ _ _ _ _).2 ?_
      refine Tr.any 5 [] (by kernel_rfl) ⟨⟨_, rfl, ?_⟩, trivial⟩
      · skip
        refine Tr.one rfl (Tr.load1 F.ty86 rfl (q2.toCell (fun h => h k2) (show [.slice (some ⟨bb, ob, none⟩) 4 4][0]? = some _ from rfl) rfl) rfl ?_)
        exact ((hN _ _ _ _ _).1 N13).sub [] (by decide) rfl ⟨rfl, rfl, rfl, rfl, rfl, rfl, rfl, rfl, rfl, rfl, rfl, rfl, rfl, trivial⟩
    have N8 : N (Cx.it Tryd.prog 25 Keep W (J []) (hJ _)) [(20, .pointer (some ⟨bb, ob, none⟩)), (19, .int .i64 0), (18, .slice (some ⟨bb, ob, none⟩) 4 4), (15, .int .i64 0), (13, .func (.yield lp) #[] #[]), (4, .int .i64 0), (10, .int .i64 0), (9, .int .i64 4), (0, .func (.yield lp) #[] #[]), (1, .pointer (some ⟨b1, 0, none⟩)), (2, .pointer (some ⟨b2, 0, none⟩))] [] 6 #[true, false, true, false, false, true, true, true, false, false, false] := by
      refine (hN _ _ _ _ _).2 ?_
      refine Tr.any 1 [8] (by kernel_rfl) ⟨⟨_, rfl, ?_⟩, ⟨_, rfl, ?_⟩, trivial⟩
      · skip
        refine Tr.one rfl (Tr.load1 F.ty86 rfl (q1.toCell (fun h => h k1) (show [.slice (some ⟨ba, oa, none⟩) 4 4][0]? = some _ from rfl) rfl) rfl ?_)
        exact ((hN _ _ _ _ _).1 N11).sub [] (by decide) rfl ⟨rfl, rfl, rfl, rfl, rfl, rfl, rfl, rfl, rfl, rfl, rfl, rfl, trivial⟩
      · skip
        refine Tr.one rfl (Tr.load1 F.ty2 rfl (q4.toCell (fun h => h k4) (show [.int .i64 x0.1.2, .int .i64 x1.1.2, .int .i64 x2.1.2, .int .i64 x3.1.2][0]? = some _ from rfl) rfl) rfl ?_)
        exact ((hN _ _ _ _ _).1 N12).sub [] (by decide) rfl ⟨rfl, rfl, rfl, rfl, rfl, rfl, rfl, rfl, rfl, rfl, rfl, rfl, trivial⟩
    have N7 : N (Cx.it Tryd.prog 25 Keep W (J []) (hJ _)) [(19, .int .i64 0), (18, .slice (some ⟨bb, ob, none⟩) 4 4), (15, .int .i64 0), (14, .slice (some ⟨ba, oa, none⟩) 4 4), (13, .func (.yield lp) #[] #[]), (4, .int .i64 0), (10, .int .i64 0), (9, .int .i64 4), (0, .func (.yield lp) #[] #[]), (1, .pointer (some ⟨b1, 0, none⟩)), (2, .pointer (some ⟨b2, 0, none⟩))] [] 6 #[true, true, true, false, false, true, true, false, false, false, false] := by
      refine (hN _ _ _ _ _).2 ?_
      refine Tr.any 3 [7] (by kernel_rfl) ⟨⟨_, rfl, ?_⟩, ⟨_, rfl, ?_⟩, trivial⟩
      · skip
        refine Tr.one rfl (Tr.indexSlice (o' := oa) F.sli86 rfl rfl (by decide) (by decide) (rfl) rfl ?_)
        exact ((hN _ _ _ _ _).1 N10).sub [] (by decide) rfl ⟨rfl, rfl, rfl, rfl, rfl, rfl, rfl, rfl, rfl, rfl, rfl, rfl, trivial⟩
      · skip
        refine Tr.one rfl (Tr.indexSlice (o' := ob) F.sli86 rfl rfl (by decide) (by decide) (rfl) rfl ?_)
        exact ((hN _ _ _ _ _).1 N11).sub [] (by decide) rfl ⟨rfl, rfl, rfl, rfl, rfl, rfl, rfl, rfl, rfl, rfl, rfl, rfl, trivial⟩
    have N6 : N (Cx.it Tryd.prog 25 Keep W (J []) (hJ _)) [(19, .int .i64 0), (16, .pointer (some ⟨ba, oa, none⟩)), (15, .int .i64 0), (14, .slice (some ⟨ba, oa, none⟩) 4 4), (13, .func (.yield lp) #[] #[]), (4, .int .i64 0), (10, .int .i64 0), (9, .int .i64 4), (0, .func (.yield lp) #[] #[]), (1, .pointer (some ⟨b1, 0, none⟩)), (2, .pointer (some ⟨b2, 0, none⟩))] [] 6 #[true, true, true, true, false, false, true, false, false, false, false] := by
      refine (hN _ _ _ _ _).2 ?_
      refine Tr.any 4 [5] (by kernel_rfl) ⟨⟨_, rfl, ?_⟩, ⟨_, rfl, ?_⟩, trivial⟩
      · skip
        refine Tr.one rfl (Tr.load1 F.ty2 rfl (q3.toCell (fun h => h k3) (show [.int .i64 x0.1.1, .int .i64 x1.1.1, .int .i64 x2.1.1, .int .i64 x3.1.1][0]? = some _ from rfl) rfl) rfl ?_)
        exact ((hN _ _ _ _ _).1 N9).sub [] (by decide) rfl ⟨rfl, rfl, rfl, rfl, rfl, rfl, rfl, rfl, rfl, rfl, rfl, rfl, trivial⟩
      · skip
        refine Tr.one rfl (Tr.load1 F.ty86 rfl (q2.toCell (fun h => h k2) (show [.slice (some ⟨bb, ob, none⟩) 4 4][0]? = some _ from rfl) rfl) rfl ?_)
        exact ((hN _ _ _ _ _).1 N10).sub [] (by decide) rfl ⟨rfl, rfl, rfl, rfl, rfl, rfl, rfl, rfl, rfl, rfl, rfl, rfl, trivial⟩
    have N5 : N (Cx.it Tryd.prog 25 Keep W (J []) (hJ _)) [(19, .int .i64 0), (18, .slice (some ⟨bb, ob, none⟩) 4 4), (15, .int .i64 0), (13, .func (.yield lp) #[] #[]), (4, .int .i64 0), (10, .int .i64 0), (9, .int .i64 4), (0, .func (.yield lp) #[] #[]), (1, .pointer (some ⟨b1, 0, none⟩)), (2, .pointer (some ⟨b2, 0, none⟩))] [] 7 #[true, false, true, false, false, true, true, false, false, false, false] := by
      refine (hN _ _ _ _ _).2 ?_
      refine Tr.any 1 [7] (by kernel_rfl) ⟨⟨_, rfl, ?_⟩, ⟨_, rfl, ?_⟩, trivial⟩
      · skip
        refine Tr.one rfl (Tr.load1 F.ty86 rfl (q1.toCell (fun h => h k1) (show [.slice (some ⟨ba, oa, none⟩) 4 4][0]? = some _ from rfl) rfl) rfl ?_)
        exact ((hN _ _ _ _ _).1 N7).sub [] (by decide) rfl ⟨rfl, rfl, rfl, rfl, rfl, rfl, rfl, rfl, rfl, rfl, rfl, trivial⟩
      · skip
        refine Tr.one rfl (Tr.indexSlice (o' := ob) F.sli86 rfl rfl (by decide) (by decide) (rfl) rfl ?_)
        exact ((hN _ _ _ _ _).1 N8).sub [] (by decide) rfl ⟨rfl, rfl, rfl, rfl, rfl, rfl, rfl, rfl, rfl, rfl, rfl, trivial⟩
    have N4 : N (Cx.it Tryd.prog 25 Keep W (J []) (hJ _)) [(19, .int .i64 0), (15, .int .i64 0), (14, .slice (some ⟨ba, oa, none⟩) 4 4), (13, .func (.yield lp) #[] #[]), (4, .int .i64 0), (10, .int .i64 0), (9, .int .i64 4), (0, .func (.yield lp) #[] #[]), (1, .pointer (some ⟨b1, 0, none⟩)), (2, .pointer (some ⟨b2, 0, none⟩))] [] 7 #[true, true, true, false, false, false, true, false, false, false, false] := by
      refine (hN _ _ _ _ _).2 ?_
      refine Tr.any 3 [5] (by kernel_rfl) ⟨⟨_, rfl, ?_⟩, ⟨_, rfl, ?_⟩, trivial⟩
      · skip
        refine Tr.one rfl (Tr.indexSlice (o' := oa) F.sli86 rfl rfl (by decide) (by decide) (rfl) rfl ?_)
        exact ((hN _ _ _ _ _).1 N6).sub [] (by decide) rfl ⟨rfl, rfl, rfl, rfl, rfl, rfl, rfl, rfl, rfl, rfl, rfl, trivial⟩
      · skip
        refine Tr.one rfl (Tr.load1 F.ty86 rfl (q2.toCell (fun h => h k2) (show [.slice (some ⟨bb, ob, none⟩) 4 4][0]? = some _ from rfl) rfl) rfl ?_)
        exact ((hN _ _ _ _ _).1 N7).sub [] (by decide) rfl ⟨rfl, rfl, rfl, rfl, rfl, rfl, rfl, rfl, rfl, rfl, rfl, trivial⟩
    have N3 : N (Cx.it Tryd.prog 25 Keep W (J []) (hJ _)) [(19, .int .i64 0), (15, .int .i64 0), (13, .func (.yield lp) #[] #[]), (4, .int .i64 0), (10, .int .i64 0), (9, .int .i64 4), (0, .func (.yield lp) #[] #[]), (1, .pointer (some ⟨b1, 0, none⟩)), (2, .pointer (some ⟨b2, 0, none⟩))] [] 8 #[true, false, true, false, false, false, true, false, false, false, false] := by
      refine (hN _ _ _ _ _).2 ?_
      refine Tr.any 1 [5] (by kernel_rfl) ⟨⟨_, rfl, ?_⟩, ⟨_, rfl, ?_⟩, trivial⟩
      · skip
        refine Tr.one rfl (Tr.load1 F.ty86 rfl (q1.toCell (fun h => h k1) (show [.slice (some ⟨ba, oa, none⟩) 4 4][0]? = some _ from rfl) rfl) rfl ?_)
        exact ((hN _ _ _ _ _).1 N4).sub [] (by decide) rfl ⟨rfl, rfl, rfl, rfl, rfl, rfl, rfl, rfl, rfl, rfl, trivial⟩
      · skip
        refine Tr.one rfl (Tr.load1 F.ty86 rfl (q2.toCell (fun h => h k2) (show [.slice (some ⟨bb, ob, none⟩) 4 4][0]? = some _ from rfl) rfl) rfl ?_)
        exact ((hN _ _ _ _ _).1 N5).sub [] (by decide) rfl ⟨rfl, rfl, rfl, rfl, rfl, rfl, rfl, rfl, rfl, rfl, trivial⟩
    have N2 : N (Cx.it Tryd.prog 25 Keep W (J []) (hJ _)) [(15, .int .i64 0), (13, .func (.yield lp) #[] #[]), (4, .int .i64 0), (10, .int .i64 0), (9, .int .i64 4), (0, .func (.yield lp) #[] #[]), (1, .pointer (some ⟨b1, 0, none⟩)), (2, .pointer (some ⟨b2, 0, none⟩))] [] 9 #[true, false, true, false, false, false, false, false, false, false, false] := by
      refine (hN _ _ _ _ _).2 ?_
      refine Tr.take 6 (.int .i64 0) rfl (by kernel_rfl) (by kernel_rfl) (by kernel_rfl) rfl rfl rfl rfl ?_
      exact ((hN _ _ _ _ _).1 N3).sub [] (by decide) rfl ⟨rfl, rfl, rfl, rfl, rfl, rfl, rfl, rfl, rfl, trivial⟩
    have N1 : N (Cx.it Tryd.prog 25 Keep W (J []) (hJ _)) [(13, .func (.yield lp) #[] #[]), (4, .int .i64 0), (10, .int .i64 0), (9, .int .i64 4), (0, .func (.yield lp) #[] #[]), (1, .pointer (some ⟨b1, 0, none⟩)), (2, .pointer (some ⟨b2, 0, none⟩))] [] 10 #[true, false, false, false, false, false, false, false, false, false, false] := by
      refine (hN _ _ _ _ _).2 ?_
      refine Tr.take 2 (.int .i64 0) rfl (by kernel_rfl) (by kernel_rfl) (by kernel_rfl) rfl rfl rfl rfl ?_
      exact ((hN _ _ _ _ _).1 N2).sub [] (by decide) rfl ⟨rfl, rfl, rfl, rfl, rfl, rfl, rfl, rfl, trivial⟩
    have N0 : N (Cx.it Tryd.prog 25 Keep W (J []) (hJ _)) [(4, .int .i64 0), (10, .int .i64 0), (9, .int .i64 4), (0, .func (.yield lp) #[] #[]), (1, .pointer (some ⟨b1, 0, none⟩)), (2, .pointer (some ⟨b2, 0, none⟩))] [] 11 #[false, false, false, false, false, false, false, false, false, false, false] := by
      refine (hN _ _ _ _ _).2 ?_
      refine Tr.take 0 (.func (.yield lp) #[] #[]) rfl (by kernel_rfl) (by kernel_rfl) (by kernel_rfl) rfl rfl rfl rfl ?_
      exact ((hN _ _ _ _ _).1 N1).sub [] (by decide) rfl ⟨rfl, rfl, rfl, rfl, rfl, rfl, rfl, trivial⟩
    exact (hN _ _ _ _ _).2 (((hN _ _ _ _ _).1 N0).sub [] (by decide) rfl ⟨rfl, rfl, rfl, rfl, rfl, rfl, trivial⟩)
  · rintro y; cases y with
    | none =>
      refine Tr.thenN ?_
      refine Tr.not rfl ?_
      refine Tr.skip ?_
      refine Tr.blockN ?_
      refine Tr.thenN ?_
      refine Tr.region ?_
      refine Tr.step rfl (Tr.valE (.int .i64 1) rfl (rfl) rfl ?_)
      refine Tr.step rfl (Tr.val rfl rfl ?_)
      refine Tr.nil ?_
      refine Tr.thenN ?_
      refine Tr.sub (l' := [(10, .int .i64 1), (9, .int .i64 4), (0, .func (.yield lp) #[] #[]), (1, .pointer (some ⟨b1, 0, none⟩)), (2, .pointer (some ⟨b2, 0, none⟩))]) (h' := []) ?_ [] (by decide) rfl ⟨rfl, rfl, rfl, rfl, rfl, trivial⟩
      refine Tr.roundU ?_
      refine Tr.seq ?_
      refine Tr.region ?_
      refine Tr.step rfl (Tr.valE (.bool true) rfl rfl rfl ?_)
      refine Tr.nil ?_
      refine Tr.thenN ?_
      refine Tr.seq ?_
      refine Tr.yes rfl ?_
      refine Tr.skip ?_
      refine Tr.thenN ?_
      refine Tr.seq ?_
      refine Tr.block ?_
      refine Tr.seq ?_
      refine Tr.region ?_
      refine Tr.step rfl (Tr.val rfl rfl ?_)
      refine Tr.step rfl (Tr.val rfl rfl ?_)
      refine Tr.nil ?_
      refine Tr.thenN ?_
      refine Tr.seq ?_
      refine Tr.sub (l' := [(4, .int .i64 1), (10, .int .i64 1), (9, .int .i64 4), (0, .func (.yield lp) #[] #[]), (1, .pointer (some ⟨b1, 0, none⟩)), (2, .pointer (some ⟨b2, 0, none⟩))]) (h' := []) ?_ [] (by decide) rfl ⟨rfl, rfl, rfl, rfl, rfl, rfl, trivial⟩
      refine Tr.drawY (Y := Option World) (fun y => match y with | none => Cx.it Tryd.prog 25 Keep W (J (([] ++ [x0]) ++ [x1])) (hJ _) | some w' => Cx.over Tryd.prog 25 w' (Jx (([] ++ [x0]) ++ [x1])) (hJx _)) (fun y => match y with | none => [(23, .bool false), (22, .bool true), (21, .int .i64 x1.1.2), (20, .pointer (some ⟨bb, (ob + 1), none⟩)), (19, .int .i64 1), (18, .slice (some ⟨bb, ob, none⟩) 4 4), (17, .int .i64 x1.1.1), (16, .pointer (some ⟨ba, (oa + 1), none⟩)), (15, .int .i64 1), (14, .slice (some ⟨ba, oa, none⟩) 4 4), (13, .func (.yield lp) #[] #[]), (4, .int .i64 1), (10, .int .i64 1), (9, .int .i64 4), (0, .func (.yield lp) #[] #[]), (1, .pointer (some ⟨b1, 0, none⟩)), (2, .pointer (some ⟨b2, 0, none⟩))] | some _ => [(23, .bool true), (22, .bool false), (21, .int .i64 x1.1.2), (20, .pointer (some ⟨bb, (ob + 1), none⟩)), (19, .int .i64 1), (18, .slice (some ⟨bb, ob, none⟩) 4 4), (17, .int .i64 x1.1.1), (16, .pointer (some ⟨ba, (oa + 1), none⟩)), (15, .int .i64 1), (14, .slice (some ⟨ba, oa, none⟩) 4 4), (13, .func (.yield lp) #[] #[]), (4, .int .i64 1), (10, .int .i64 1), (9, .int .i64 4), (0, .func (.yield lp) #[] #[]), (1, .pointer (some ⟨b1, 0, none⟩)), (2, .pointer (some ⟨b2, 0, none⟩))]) (fun _ => []) F.mixed ?_ ?_
      · intro K N hN tE
        have N18 : N (Cx.it Tryd.prog 25 Keep W (J ([] ++ [x0])) (hJ _)) [(21, .int .i64 x1.1.2), (20, .pointer (some ⟨bb, (ob + 1), none⟩)), (19, .int .i64 1), (18, .slice (some ⟨bb, ob, none⟩) 4 4), (17, .int .i64 x1.1.1), (16, .pointer (some ⟨ba, (oa + 1), none⟩)), (15, .int .i64 1), (14, .slice (some ⟨ba, oa, none⟩) 4 4), (13, .func (.yield lp) #[] #[]), (4, .int .i64 1), (10, .int .i64 1), (9, .int .i64 4), (0, .func (.yield lp) #[] #[]), (1, .pointer (some ⟨b1, 0, none⟩)), (2, .pointer (some ⟨b2, 0, none⟩))] [] 2 #[true, true, true, true, true, true, true, true, true, false, false] := by
          refine (hN _ _ _ _ _).2 ?_
          refine Tr.any 9 [] (by kernel_rfl) ⟨⟨_, rfl, ?_⟩, trivial⟩
          · skip
            refine Tr.one rfl (Tr.yield (J' := J (([] ++ [x0]) ++ [x1])) (Jx' := Jx (([] ++ [x0]) ++ [x1])) (hJ _) (hJx _) rfl rfl rfl (fun w hw => hY ([] ++ [x0]) x1 w hw (by simp)) ?_ (fun w' => ?_))
            · skip
              refine Tr.any 10 [] (by kernel_rfl) ⟨⟨_, rfl, ?_⟩, trivial⟩
              refine Tr.one rfl (Tr.valE (.bool false) rfl rfl rfl ?_)
              exact Tr.anyEnd (by kernel_rfl) (Tr.sub (tE none) [] (by decide) rfl ⟨rfl, rfl, rfl, rfl, rfl, rfl, rfl, rfl, rfl, rfl, rfl, rfl, rfl, rfl, rfl, rfl, rfl, trivial⟩)
            · skip
              refine Tr.any 10 [] (by kernel_rfl) ⟨⟨_, rfl, ?_⟩, trivial⟩
              refine Tr.one rfl (Tr.valE (.bool true) rfl rfl rfl ?_)
              exact Tr.anyEnd (by kernel_rfl) (Tr.sub (tE (some w')) [] (by decide) rfl ⟨rfl, rfl, rfl, rfl, rfl, rfl, rfl, rfl, rfl, rfl, rfl, rfl, rfl, rfl, rfl, rfl, rfl, trivial⟩)
        have N17 : N (Cx.it Tryd.prog 25 Keep W (J ([] ++ [x0])) (hJ _)) [(21, .int .i64 x1.1.2), (20, .pointer (some ⟨bb, (ob + 1), none⟩)), (19, .int .i64 1), (18, .slice (some ⟨bb, ob, none⟩) 4 4), (16, .pointer (some ⟨ba, (oa + 1), none⟩)), (15, .int .i64 1), (14, .slice (some ⟨ba, oa, none⟩) 4 4), (13, .func (.yield lp) #[] #[]), (4, .int .i64 1), (10, .int .i64 1), (9, .int .i64 4), (0, .func (.yield lp) #[] #[]), (1, .pointer (some ⟨b1, 0, none⟩)), (2, .pointer (some ⟨b2, 0, none⟩))] [] 3 #[true, true, true, true, false, true, true, true, true, false, false] := by
          refine (hN _ _ _ _ _).2 ?_
          refine Tr.any 4 [] (by kernel_rfl) ⟨⟨_, rfl, ?_⟩, trivial⟩
          · skip
            refine Tr.one rfl (Tr.load1 F.ty2 rfl (q3.toCell (fun h => h k3) (show [.int .i64 x0.1.1, .int .i64 x1.1.1, .int .i64 x2.1.1, .int .i64 x3.1.1][1]? = some _ from rfl) rfl) rfl ?_)
            exact ((hN _ _ _ _ _).1 N18).sub [] (by decide) rfl ⟨rfl, rfl, rfl, rfl, rfl, rfl, rfl, rfl, rfl, rfl, rfl, rfl, rfl, rfl, rfl, trivial⟩
        have N16 : N (Cx.it Tryd.prog 25 Keep W (J ([] ++ [x0])) (hJ _)) [(20, .pointer (some ⟨bb, (ob + 1), none⟩)), (19, .int .i64 1), (18, .slice (some ⟨bb, ob, none⟩) 4 4), (17, .int .i64 x1.1.1), (16, .pointer (some ⟨ba, (oa + 1), none⟩)), (15, .int .i64 1), (14, .slice (some ⟨ba, oa, none⟩) 4 4), (13, .func (.yield lp) #[] #[]), (4, .int .i64 1), (10, .int .i64 1), (9, .int .i64 4), (0, .func (.yield lp) #[] #[]), (1, .pointer (some ⟨b1, 0, none⟩)), (2, .pointer (some ⟨b2, 0, none⟩))] [] 3 #[true, true, true, true, true, true, true, true, false, false, false] := by
          refine (hN _ _ _ _ _).2 ?_
          refine Tr.any 8 [] (by kernel_rfl) ⟨⟨_, rfl, ?_⟩, trivial⟩
          · skip
            refine Tr.one rfl (Tr.load1 F.ty2 rfl (q4.toCell (fun h => h k4) (show [.int .i64 x0.1.2, .int .i64 x1.1.2, .int .i64 x2.1.2, .int .i64 x3.1.2][1]? = some _ from rfl) rfl) rfl ?_)
            exact ((hN _ _ _ _ _).1 N18).sub [] (by decide) rfl ⟨rfl, rfl, rfl, rfl, rfl, rfl, rfl, rfl, rfl, rfl, rfl, rfl, rfl, rfl, rfl, trivial⟩
        have N15 : N (Cx.it Tryd.prog 25 Keep W (J ([] ++ [x0])) (hJ _)) [(21, .int .i64 x1.1.2), (20, .pointer (some ⟨bb, (ob + 1), none⟩)), (19, .int .i64 1), (18, .slice (some ⟨bb, ob, none⟩) 4 4), (15, .int .i64 1), (14, .slice (some ⟨ba, oa, none⟩) 4 4), (13, .func (.yield lp) #[] #[]), (4, .int .i64 1), (10, .int .i64 1), (9, .int .i64 4), (0, .func (.yield lp) #[] #[]), (1, .pointer (some ⟨b1, 0, none⟩)), (2, .pointer (some ⟨b2, 0, none⟩))] [] 4 #[true, true, true, false, false, true, true, true, true, false, false] := by
          refine (hN _ _ _ _ _).2 ?_
          refine Tr.any 3 [] (by kernel_rfl) ⟨⟨_, rfl, ?_⟩, trivial⟩
          · skip
            refine Tr.one rfl (Tr.indexSlice (o' := (oa + 1)) F.sli86 rfl rfl (by decide) (by decide) (rfl) rfl ?_)
            exact ((hN _ _ _ _ _).1 N17).sub [] (by decide) rfl ⟨rfl, rfl, rfl, rfl, rfl, rfl, rfl, rfl, rfl, rfl, rfl, rfl, rfl, rfl, trivial⟩
        have N14 : N (Cx.it Tryd.prog 25 Keep W (J ([] ++ [x0])) (hJ _)) [(20, .pointer (some ⟨bb, (ob + 1), none⟩)), (19, .int .i64 1), (18, .slice (some ⟨bb, ob, none⟩) 4 4), (16, .pointer (some ⟨ba, (oa + 1), none⟩)), (15, .int .i64 1), (14, .slice (some ⟨ba, oa, none⟩) 4 4), (13, .func (.yield lp) #[] #[]), (4, .int .i64 1), (10, .int .i64 1), (9, .int .i64 4), (0, .func (.yield lp) #[] #[]), (1, .pointer (some ⟨b1, 0, none⟩)), (2, .pointer (some ⟨b2, 0, none⟩))] [] 4 #[true, true, true, true, false, true, true, true, false, false, false] := by
          refine (hN _ _ _ _ _).2 ?_
          refine Tr.any 4 [8] (by kernel_rfl) ⟨⟨_, rfl, ?_⟩, ⟨_, rfl, ?_⟩, trivial⟩
          · skip
            refine Tr.one rfl (Tr.load1 F.ty2 rfl (q3.toCell (fun h => h k3) (show [.int .i64 x0.1.1, .int .i64 x1.1.1, .int .i64 x2.1.1, .int .i64 x3.1.1][1]? = some _ from rfl) rfl) rfl ?_)
            exact ((hN _ _ _ _ _).1 N16).sub [] (by decide) rfl ⟨rfl, rfl, rfl, rfl, rfl, rfl, rfl, rfl, rfl, rfl, rfl, rfl, rfl, rfl, trivial⟩
          · skip
            refine Tr.one rfl (Tr.load1 F.ty2 rfl (q4.toCell (fun h => h k4) (show [.int .i64 x0.1.2, .int .i64 x1.1.2, .int .i64 x2.1.2, .int .i64 x3.1.2][1]? = some _ from rfl) rfl) rfl ?_)
            exact ((hN _ _ _ _ _).1 N17).sub [] (by decide) rfl ⟨rfl, rfl, rfl, rfl, rfl, rfl, rfl, rfl, rfl, rfl, rfl, rfl, rfl, rfl, trivial⟩
        have N13 : N (Cx.it Tryd.prog 25 Keep W (J ([] ++ [x0])) (hJ _)) [(19, .int .i64 1), (18, .slice (some ⟨bb, ob, none⟩) 4 4), (17, .int .i64 x1.1.1), (16, .pointer (some ⟨ba, (oa + 1), none⟩)), (15, .int .i64 1), (14, .slice (some ⟨ba, oa, none⟩) 4 4), (13, .func (.yield lp) #[] #[]), (4, .int .i64 1), (10, .int .i64 1), (9, .int .i64 4), (0, .func (.yield lp) #[] #[]), (1, .pointer (some ⟨b1, 0, none⟩)), (2, .pointer (some ⟨b2, 0, none⟩))] [] 4 #[true, true, true, true, true, true, true, false, false, false, false] := by
          refine (hN _ _ _ _ _).2 ?_
          refine Tr.any 7 [] (by kernel_rfl) ⟨⟨_, rfl, ?_⟩, trivial⟩
          · skip
            refine Tr.one rfl (Tr.indexSlice (o' := (ob + 1)) F.sli86 rfl rfl (by decide) (by decide) (rfl) rfl ?_)
            exact ((hN _ _ _ _ _).1 N16).sub [] (by decide) rfl ⟨rfl, rfl, rfl, rfl, rfl, rfl, rfl, rfl, rfl, rfl, rfl, rfl, rfl, rfl, trivial⟩
        have N12 : N (Cx.it Tryd.prog 25 Keep W (J ([] ++ [x0])) (hJ _)) [(21, .int .i64 x1.1.2), (20, .pointer (some ⟨bb, (ob + 1), none⟩)), (19, .int .i64 1), (18, .slice (some ⟨bb, ob, none⟩) 4 4), (15, .int .i64 1), (13, .func (.yield lp) #[] #[]), (4, .int .i64 1), (10, .int .i64 1), (9, .int .i64 4), (0, .func (.yield lp) #[] #[]), (1, .pointer (some ⟨b1, 0, none⟩)), (2, .pointer (some ⟨b2, 0, none⟩))] [] 5 #[true, false, true, false, false, true, true, true, true, false, false] := by
          refine (hN _ _ _ _ _).2 ?_
          refine Tr.any 1 [] (by kernel_rfl) ⟨⟨_, rfl, ?_⟩, trivial⟩
          · skip
            refine Tr.one rfl (Tr.load1 F.ty86 rfl (q1.toCell (fun h => h k1) (show [.slice (some ⟨ba, oa, none⟩) 4 4][0]? = some _ from rfl) rfl) rfl ?_)
            exact ((hN _ _ _ _ _).1 N15).sub [] (by decide) rfl ⟨rfl, rfl, rfl, rfl, rfl, rfl, rfl, rfl, rfl, rfl, rfl, rfl, rfl, trivial⟩
        have N11 : N (Cx.it Tryd.prog 25 Keep W (J ([] ++ [x0])) (hJ _)) [(20, .pointer (some ⟨bb, (ob + 1), none⟩)), (19, .int .i64 1), (18, .slice (some ⟨bb, ob, none⟩) 4 4), (15, .int .i64 1), (14, .slice (some ⟨ba, oa, none⟩) 4 4), (13, .func (.yield lp) #[] #[]), (4, .int .i64 1), (10, .int .i64 1), (9, .int .i64 4), (0, .func (.yield lp) #[] #[]), (1, .pointer (some ⟨b1, 0, none⟩)), (2, .pointer (some ⟨b2, 0, none⟩))] [] 5 #[true, true, true, false, false, true, true, true, false, false, false] := by
          refine (hN _ _ _ _ _).2 ?_
          refine Tr.any 3 [8] (by kernel_rfl) ⟨⟨_, rfl, ?_⟩, ⟨_, rfl, ?_⟩, trivial⟩
          · skip
            refine Tr.one rfl (Tr.indexSlice (o' := (oa + 1)) F.sli86 rfl rfl (by decide) (by decide) (rfl) rfl ?_)
            exact ((hN _ _ _ _ _).1 N14).sub [] (by decide) rfl ⟨rfl, rfl, rfl, rfl, rfl, rfl, rfl, rfl, rfl, rfl, rfl, rfl, rfl, trivial⟩
          · skip
            refine Tr.one rfl (Tr.load1 F.ty2 rfl (q4.toCell (fun h => h k4) (show [.int .i64 x0.1.2, .int .i64 x1.1.2, .int .i64 x2.1.2, .int .i64 x3.1.2][1]? = some _ from rfl) rfl) rfl ?_)
            exact ((hN _ _ _ _ _).1 N15).sub [] (by decide) rfl ⟨rfl, rfl, rfl, rfl, rfl, rfl, rfl, rfl, rfl, rfl, rfl, rfl, rfl, trivial⟩
        have N10 : N (Cx.it Tryd.prog 25 Keep W (J ([] ++ [x0])) (hJ _)) [(19, .int .i64 1), (18, .slice (some ⟨bb, ob, none⟩) 4 4), (16, .pointer (some ⟨ba, (oa + 1), none⟩)), (15, .int .i64 1), (14, .slice (some ⟨ba, oa, none⟩) 4 4), (13, .func (.yield lp) #[] #[]), (4, .int .i64 1), (10, .int .i64 1), (9, .int .i64 4), (0, .func (.yield lp) #[] #[]), (1, .pointer (some ⟨b1, 0, none⟩)), (2, .pointer (some ⟨b2, 0, none⟩))] [] 5 #[true, true, true, true, false, true, true, false, false, false, false] := by
          refine (hN _ _ _ _ _).2 ?_
          refine Tr.any 4 [7] (by kernel_rfl) ⟨⟨_, rfl, ?_⟩, ⟨_, rfl, ?_⟩, trivial⟩
          · skip
            refine Tr.one rfl (Tr.load1 F.ty2 rfl (q3.toCell (fun h => h k3) (show [.int .i64 x0.1.1, .int .i64 x1.1.1, .int .i64 x2.1.1, .int .i64 x3.1.1][1]? = some _ from rfl) rfl) rfl ?_)
            exact ((hN _ _ _ _ _).1 N13).sub [] (by decide) rfl ⟨rfl, rfl, rfl, rfl, rfl, rfl, rfl, rfl, rfl, rfl, rfl, rfl, rfl, trivial⟩
          · skip
            refine Tr.one rfl (Tr.indexSlice (o' := (ob + 1)) F.sli86 rfl rfl (by decide) (by decide) (rfl) rfl ?_)
            exact ((hN _ _ _ _ _).1 N14).sub [] (by decide) rfl ⟨rfl, rfl, rfl, rfl, rfl, rfl, rfl, rfl, rfl, rfl, rfl, rfl, rfl, trivial⟩
        have N9 : N (Cx.it Tryd.prog 25 Keep W (J ([] ++ [x0])) (hJ _)) [(19, .int .i64 1), (17, .int .i64 x1.1.1), (16, .pointer (some ⟨ba, (oa + 1), none⟩)), (15, .int .i64 1), (14, .slice (some ⟨ba, oa, none⟩) 4 4), (13, .func (.yield lp) #[] #[]), (4, .int .i64 1), (10, .int .i64 1), (9, .int .i64 4), (0, .func (.yield lp) #[] #[]), (1, .pointer (some ⟨b1, 0, none⟩)), (2, .pointer (some ⟨b2, 0, none⟩))] [] 5 #[true, true, true, true, true, false, true, false, false, false, false] := by
          refine (hN _ _ _ _ _).2 ?_
          refine Tr.any 5 [] (by kernel_rfl) ⟨⟨_, rfl, ?_⟩, trivial⟩
          · skip
            refine Tr.one rfl (Tr.load1 F.ty86 rfl (q2.toCell (fun h => h k2) (show [.slice (some ⟨bb, ob, none⟩) 4 4][0]? = some _ from rfl) rfl) rfl ?_)
            exact ((hN _ _ _ _ _).1 N13).sub [] (by decide) rfl ⟨rfl, rfl, rfl, rfl, rfl, rfl, rfl, rfl, rfl, rfl, rfl, rfl, rfl, trivial⟩
        have N8 : N (Cx.it Tryd.prog 25 Keep W (J ([] ++ [x0])) (hJ _)) [(20, .pointer (some ⟨bb, (ob + 1), none⟩)), (19, .int .i64 1), (18, .slice (some ⟨bb, ob, none⟩) 4 4), (15, .int .i64 1), (13, .func (.yield lp) #[] #[]), (4, .int .i64 1), (10, .int .i64 1), (9, .int .i64 4), (0, .func (.yield lp) #[] #[]), (1, .pointer (some ⟨b1, 0, none⟩)), (2, .pointer (some ⟨b2, 0, none⟩))] [] 6 #[true, false, true, false, false, true, true, true, false, false, false] := by
          refine (hN _ _ _ _ _).2 ?_
          refine Tr.any 1 [8] (by kernel_rfl) ⟨⟨_, rfl, ?_⟩, ⟨_, rfl, ?_⟩, trivial⟩
          · skip
            refine Tr.one rfl (Tr.load1 F.ty86 rfl (q1.toCell (fun h => h k1) (show [.slice (some ⟨ba, oa, none⟩) 4 4][0]? = some _ from rfl) rfl) rfl ?_)
            exact ((hN _ _ _ _ _).1 N11).sub [] (by decide) rfl ⟨rfl, rfl, rfl, rfl, rfl, rfl, rfl, rfl, rfl, rfl, rfl, rfl, trivial⟩
          · skip
            refine Tr.one rfl (Tr.load1 F.ty2 rfl (q4.toCell (fun h => h k4) (show [.int .i64 x0.1.2, .int .i64 x1.1.2, .int .i64 x2.1.2, .int .i64 x3.1.2][1]? = some _ from rfl) rfl) rfl ?_)
            exact ((hN _ _ _ _ _).1 N12).sub [] (by decide) rfl ⟨rfl, rfl, rfl, rfl, rfl, rfl, rfl, rfl, rfl, rfl, rfl, rfl, trivial⟩
        have N7 : N (Cx.it Tryd.prog 25 Keep W (J ([] ++ [x0])) (hJ _)) [(19, .int .i64 1), (18, .slice (some ⟨bb, ob, none⟩) 4 4), (15, .int .i64 1), (14, .slice (some ⟨ba, oa, none⟩) 4 4), (13, .func (.yield lp) #[] #[]), (4, .int .i64 1), (10, .int .i64 1), (9, .int .i64 4), (0, .func (.yield lp) #[] #[]), (1, .pointer (some ⟨b1, 0, none⟩)), (2, .pointer (some ⟨b2, 0, none⟩))] [] 6 #[true, true, true, false, false, true, true, false, false, false, false] := by
          refine (hN _ _ _ _ _).2 ?_
          refine Tr.any 3 [7] (by kernel_rfl) ⟨⟨_, rfl, ?_⟩, ⟨_, rfl, ?_⟩, trivial⟩
          · skip
            refine Tr.one rfl (Tr.indexSlice (o' := (oa + 1)) F.sli86 rfl rfl (by decide) (by decide) (rfl) rfl ?_)
            exact ((hN _ _ _ _ _).1 N10).sub [] (by decide) rfl ⟨rfl, rfl, rfl, rfl, rfl, rfl, rfl, rfl, rfl, rfl, rfl, rfl, trivial⟩
          · skip
            refine Tr.one rfl (Tr.indexSlice (o' := (ob + 1)) F.sli86 rfl rfl (by decide) (by decide) (rfl) rfl ?_)
            exact ((hN _ _ _ _ _).1 N11).sub [] (by decide) rfl ⟨rfl, rfl, rfl, rfl, rfl, rfl, rfl, rfl, rfl, rfl, rfl, rfl, trivial⟩
        have N6 : N (Cx.it Tryd.prog 25 Keep W (J ([] ++ [x0])) (hJ _)) [(19, .int .i64 1), (16, .pointer (some ⟨ba, (oa + 1), none⟩)), (15, .int .i64 1), (14, .slice (some ⟨ba, oa, none⟩) 4 4), (13, .func (.yield lp) #[] #[]), (4, .int .i64 1), (10, .int .i64 1), (9, .int .i64 4), (0, .func (.yield lp) #[] #[]), (1, .pointer (some ⟨b1, 0, none⟩)), (2, .pointer (some ⟨b2, 0, none⟩))] [] 6 #[true, true, true, true, false, false, true, false, false, false, false] := by
          refine (hN _ _ _ _ _).2 ?_
          refine Tr.any 4 [5] (by kernel_rfl) ⟨⟨_, rfl, ?_⟩, ⟨_, rfl, ?_⟩, trivial⟩
          · skip
            refine Tr.one rfl (Tr.load1 F.ty2 rfl (q3.toCell (fun h => h k3) (show [.int .i64 x0.1.1, .int .i64 x1.1.1, .int .i64 x2.1.1, .int .i64 x3.1.1][1]? = some _ from rfl) rfl) rfl ?_)
            exact ((hN _ _ _ _ _).1 N9).sub [] (by decide) rfl ⟨rfl, rfl, rfl, rfl, rfl, rfl, rfl, rfl, rfl, rfl, rfl, rfl, trivial⟩
          · skip
            refine Tr.one rfl (Tr.load1 F.ty86 rfl (q2.toCell (fun h => h k2) (show [.slice (some ⟨bb, ob, none⟩) 4 4][0]? = some _ from rfl) rfl) rfl ?_)
            exact ((hN _ _ _ _ _).1 N10).sub [] (by decide) rfl ⟨rfl, rfl, rfl, rfl, rfl, rfl, rfl, rfl, rfl, rfl, rfl, rfl, trivial⟩
        have N5 : N (Cx.it Tryd.prog 25 Keep W (J ([] ++ [x0])) (hJ _)) [(19, .int .i64 1), (18, .slice (some ⟨bb, ob, none⟩) 4 4), (15, .int .i64 1), (13, .func (.yield lp) #[] #[]), (4, .int .i64 1), (10, .int .i64 1), (9, .int .i64 4), (0, .func (.yield lp) #[] #[]), (1, .pointer (some ⟨b1, 0, none⟩)), (2, .pointer (some ⟨b2, 0, none⟩))] [] 7 #[true, false, true, false, false, true, true, false, false, false, false] := by
          refine (hN _ _ _ _ _).2 ?_
          refine Tr.any 1 [7] (by kernel_rfl) ⟨⟨_, rfl, ?_⟩, ⟨_, rfl, ?_⟩, trivial⟩
          · skip
            refine Tr.one rfl (Tr.load1 F.ty86 rfl (q1.toCell (fun h => h k1) (show [.slice (some ⟨ba, oa, none⟩) 4 4][0]? = some _ from rfl) rfl) rfl ?_)
            exact ((hN _ _ _ _ _).1 N7).sub [] (by decide) rfl ⟨rfl, rfl, rfl, rfl, rfl, rfl, rfl, rfl, rfl, rfl, rfl, trivial⟩
          · skip
            refine Tr.one rfl (Tr.indexSlice (o' := (ob + 1)) F.sli86 rfl rfl (by decide) (by decide) (rfl) rfl ?_)
            exact ((hN _ _ _ _ _).1 N8).sub [] (by decide) rfl ⟨rfl, rfl, rfl, rfl, rfl, rfl, rfl, rfl, rfl, rfl, rfl, trivial⟩
        have N4 : N (Cx.it Tryd.prog 25 Keep W (J ([] ++ [x0])) (hJ _)) [(19, .int .i64 1), (15, .int .i64 1), (14, .slice (some ⟨ba, oa, none⟩) 4 4), (13, .func (.yield lp) #[] #[]), (4, .int .i64 1), (10, .int .i64 1), (9, .int .i64 4), (0, .func (.yield lp) #[] #[]), (1, .pointer (some ⟨b1, 0, none⟩)), (2, .pointer (some ⟨b2, 0, none⟩))] [] 7 #[true, true, true, false, false, false, true, false, false, false, false] := by
          refine (hN _ _ _ _ _).2 ?_
          refine Tr.any 3 [5] (by kernel_rfl) ⟨⟨_, rfl, ?_⟩, ⟨_, rfl, ?_⟩, trivial⟩
          · skip
            refine Tr.one rfl (Tr.indexSlice (o' := (oa + 1)) F.sli86 rfl rfl (by decide) (by decide) (rfl) rfl ?_)
            exact ((hN _ _ _ _ _).1 N6).sub [] (by decide) rfl ⟨rfl, rfl, rfl, rfl, rfl, rfl, rfl, rfl, rfl, rfl, rfl, trivial⟩
          · skip
            refine Tr.one rfl (Tr.load1 F.ty86 rfl (q2.toCell (fun h => h k2) (show [.slice (some ⟨bb, ob, none⟩) 4 4][0]? = some _ from rfl) rfl) rfl ?_)
            exact ((hN _ _ _ _ _).1 N7).sub [] (by decide) rfl ⟨rfl, rfl, rfl, rfl, rfl, rfl, rfl, rfl, rfl, rfl, rfl, trivial⟩
        have N3 : N (Cx.it Tryd.prog 25 Keep W (J ([] ++ [x0])) (hJ _)) [(19, .int .i64 1), (15, .int .i64 1), (13, .func (.yield lp) #[] #[]), (4, .int .i64 1), (10, .int .i64 1), (9, .int .i64 4), (0, .func (.yield lp) #[] #[]), (1, .pointer (some ⟨b1, 0, none⟩)), (2, .pointer (some ⟨b2, 0, none⟩))] [] 8 #[true, false, true, false, false, false, true, false, false, false, false] := by
          refine (hN _ _ _ _ _).2 ?_
          refine Tr.any 1 [5] (by kernel_rfl) ⟨⟨_, rfl, ?_⟩, ⟨_, rfl, ?_⟩, trivial⟩
          · skip
            refine Tr.one rfl (Tr.load1 F.ty86 rfl (q1.toCell (fun h => h k1) (show [.slice (some ⟨ba, oa, none⟩) 4 4][0]? = some _ from rfl) rfl) rfl ?_)
            exact ((hN _ _ _ _ _).1 N4).sub [] (by decide) rfl ⟨rfl, rfl, rfl, rfl, rfl, rfl, rfl, rfl, rfl, rfl, trivial⟩
          · skip
            refine Tr.one rfl (Tr.load1 F.ty86 rfl (q2.toCell (fun h => h k2) (show [.slice (some ⟨bb, ob, none⟩) 4 4][0]? = some _ from rfl) rfl) rfl ?_)
            exact ((hN _ _ _ _ _).1 N5).sub [] (by decide) rfl ⟨rfl, rfl, rfl, rfl, rfl, rfl, rfl, rfl, rfl, rfl, trivial⟩
        have N2 : N (Cx.it Tryd.prog 25 Keep W (J ([] ++ [x0])) (hJ _)) [(15, .int .i64 1), (13, .func (.yield lp) #[] #[]), (4, .int .i64 1), (10, .int .i64 1), (9, .int .i64 4), (0, .func (.yield lp) #[] #[]), (1, .pointer (some ⟨b1, 0, none⟩)), (2, .pointer (some ⟨b2, 0, none⟩))] [] 9 #[true, false, true, false, false, false, false, false, false, false, false] := by
          refine (hN _ _ _ _ _).2 ?_
          refine Tr.take 6 (.int .i64 1) rfl (by kernel_rfl) (by kernel_rfl) (by kernel_rfl) rfl rfl rfl rfl ?_
          exact ((hN _ _ _ _ _).1 N3).sub [] (by decide) rfl ⟨rfl, rfl, rfl, rfl, rfl, rfl, rfl, rfl, rfl, trivial⟩
        have N1 : N (Cx.it Tryd.prog 25 Keep W (J ([] ++ [x0])) (hJ _)) [(13, .func (.yield lp) #[] #[]), (4, .int .i64 1), (10, .int .i64 1), (9, .int .i64 4), (0, .func (.yield lp) #[] #[]), (1, .pointer (some ⟨b1, 0, none⟩)), (2, .pointer (some ⟨b2, 0, none⟩))] [] 10 #[true, false, false, false, false, false, false, false, false, false, false] := by
          refine (hN _ _ _ _ _).2 ?_
          refine Tr.take 2 (.int .i64 1) rfl (by kernel_rfl) (by kernel_rfl) (by kernel_rfl) rfl rfl rfl rfl ?_
          exact ((hN _ _ _ _ _).1 N2).sub [] (by decide) rfl ⟨rfl, rfl, rfl, rfl, rfl, rfl, rfl, rfl, trivial⟩
        have N0 : N (Cx.it Tryd.prog 25 Keep W (J ([] ++ [x0])) (hJ _)) [(4, .int .i64 1), (10, .int .i64 1), (9, .int .i64 4), (0, .func (.yield lp) #[] #[]), (1, .pointer (some ⟨b1, 0, none⟩)), (2, .pointer (some ⟨b2, 0, none⟩))] [] 11 #[false, false, false, false, false, false, false, false, false, false, false] := by
          refine (hN _ _ _ _ _).2 ?_
          refine Tr.take 0 (.func (.yield lp) #[] #[]) rfl (by kernel_rfl) (by kernel_rfl) (by kernel_rfl) rfl rfl rfl rfl ?_
          exact ((hN _ _ _ _ _).1 N1).sub [] (by decide) rfl ⟨rfl, rfl, rfl, rfl, rfl, rfl, rfl, trivial⟩
        exact (hN _ _ _ _ _).2 (((hN _ _ _ _ _).1 N0).sub [] (by decide) rfl ⟨rfl, rfl, rfl, rfl, rfl, rfl, trivial⟩)
      · rintro y; cases y with
        | none =>
          refine Tr.thenN ?_
          refine Tr.not rfl ?_
          refine Tr.skip ?_
          refine Tr.blockN ?_
          refine Tr.thenN ?_
          refine Tr.region ?_
          refine Tr.step rfl (Tr.valE (.int .i64 2) rfl (rfl) rfl ?_)
          refine Tr.step rfl (Tr.val rfl rfl ?_)
          refine Tr.nil ?_
          refine Tr.thenN ?_
          refine Tr.sub (l' := [(10, .int .i64 2), (9, .int .i64 4), (0, .func (.yield lp) #[] #[]), (1, .pointer (some ⟨b1, 0, none⟩)), (2, .pointer (some ⟨b2, 0, none⟩))]) (h' := []) ?_ [] (by decide) rfl ⟨rfl, rfl, rfl, rfl, rfl, trivial⟩
          refine Tr.roundU ?_
          refine Tr.seq ?_
          refine Tr.region ?_
          refine Tr.step rfl (Tr.valE (.bool true) rfl rfl rfl ?_)
          refine Tr.nil ?_
          refine Tr.thenN ?_
          refine Tr.seq ?_
          refine Tr.yes rfl ?_
          refine Tr.skip ?_
          refine Tr.thenN ?_
          refine Tr.seq ?_
          refine Tr.block ?_
          refine Tr.seq ?_
          refine Tr.region ?_
          refine Tr.step rfl (Tr.val rfl rfl ?_)
          refine Tr.step rfl (Tr.val rfl rfl ?_)
          refine Tr.nil ?_
          refine Tr.thenN ?_
          refine Tr.seq ?_
          refine Tr.sub (l' := [(4, .int .i64 2), (10, .int .i64 2), (9, .int .i64 4), (0, .func (.yield lp) #[] #[]), (1, .pointer (some ⟨b1, 0, none⟩)), (2, .pointer (some ⟨b2, 0, none⟩))]) (h' := []) ?_ [] (by decide) rfl ⟨rfl, rfl, rfl, rfl, rfl, rfl, trivial⟩
          refine Tr.drawY (Y := Option World) (fun y => match y with | none => Cx.it Tryd.prog 25 Keep W (J ((([] ++ [x0]) ++ [x1]) ++ [x2])) (hJ _) | some w' => Cx.over Tryd.prog 25 w' (Jx ((([] ++ [x0]) ++ [x1]) ++ [x2])) (hJx _)) (fun y => match y with | none => [(23, .bool false), (22, .bool true), (21, .int .i64 x2.1.2), (20, .pointer (some ⟨bb, (ob + 2), none⟩)), (19, .int .i64 2), (18, .slice (some ⟨bb, ob, none⟩) 4 4), (17, .int .i64 x2.1.1), (16, .pointer (some ⟨ba, (oa + 2), none⟩)), (15, .int .i64 2), (14, .slice (some ⟨ba, oa, none⟩) 4 4), (13, .func (.yield lp) #[] #[]), (4, .int .i64 2), (10, .int .i64 2), (9, .int .i64 4), (0, .func (.yield lp) #[] #[]), (1, .pointer (some ⟨b1, 0, none⟩)), (2, .pointer (some ⟨b2, 0, none⟩))] | some _ => [(23, .bool true), (22, .bool false), (21, .int .i64 x2.1.2), (20, .pointer (some ⟨bb, (ob + 2), none⟩)), (19, .int .i64 2), (18, .slice (some ⟨bb, ob, none⟩) 4 4), (17, .int .i64 x2.1.1), (16, .pointer (some ⟨ba, (oa + 2), none⟩)), (15, .int .i64 2), (14, .slice (some ⟨ba, oa, none⟩) 4 4), (13, .func (.yield lp) #[] #[]), (4, .int .i64 2), (10, .int .i64 2), (9, .int .i64 4), (0, .func (.yield lp) #[] #[]), (1, .pointer (some ⟨b1, 0, none⟩)), (2, .pointer (some ⟨b2, 0, none⟩))]) (fun _ => []) F.mixed ?_ ?_
          · intro K N hN tE
            have N18 : N (Cx.it Tryd.prog 25 Keep W (J (([] ++ [x0]) ++ [x1])) (hJ _)) [(21, .int .i64 x2.1.2), (20, .pointer (some ⟨bb, (ob + 2), none⟩)), (19, .int .i64 2), (18, .slice (some ⟨bb, ob, none⟩) 4 4), (17, .int .i64 x2.1.1), (16, .pointer (some ⟨ba, (oa + 2), none⟩)), (15, .int .i64 2), (14, .slice (some ⟨ba, oa, none⟩) 4 4), (13, .func (.yield lp) #[] #[]), (4, .int .i64 2), (10, .int .i64 2), (9, .int .i64 4), (0, .func (.yield lp) #[] #[]), (1, .pointer (some ⟨b1, 0, none⟩)), (2, .pointer (some ⟨b2, 0, none⟩))] [] 2 #[true, true, true, true, true, true, true, true, true, false, false] := by
              refine (hN _ _ _ _ _).2 ?_
              refine Tr.any 9 [] (by kernel_rfl) ⟨⟨_, rfl, ?_⟩, trivial⟩
              · skip
                refine Tr.one rfl (Tr.yield (J' := J ((([] ++ [x0]) ++ [x1]) ++ [x2])) (Jx' := Jx ((([] ++ [x0]) ++ [x1]) ++ [x2])) (hJ _) (hJx _) rfl rfl rfl (fun w hw => hY (([] ++ [x0]) ++ [x1]) x2 w hw (by simp)) ?_ (fun w' => ?_))
                · skip
                  refine Tr.any 10 [] (by kernel_rfl) ⟨⟨_, rfl, ?_⟩, trivial⟩
                  refine Tr.one rfl (Tr.valE (.bool false) rfl rfl rfl ?_)
                  exact Tr.anyEnd (by kernel_rfl) (Tr.sub (tE none) [] (by decide) rfl ⟨rfl, rfl, rfl, rfl, rfl, rfl, rfl, rfl, rfl, rfl, rfl, rfl, rfl, rfl, rfl, rfl, rfl, trivial⟩)
                · skip
                  refine Tr.any 10 [] (by kernel_rfl) ⟨⟨_, rfl, ?_⟩, trivial⟩
                  refine Tr.one rfl (Tr.valE (.bool true) rfl rfl rfl ?_)
                  exact Tr.anyEnd (by kernel_rfl) (Tr.sub (tE (some w')) [] (by decide) rfl ⟨rfl, rfl, rfl, rfl, rfl, rfl, rfl, rfl, rfl, rfl, rfl, rfl, rfl, rfl, rfl, rfl, rfl, trivial⟩)
            have N17 : N (Cx.it Tryd.prog 25 Keep W (J (([] ++ [x0]) ++ [x1])) (hJ _)) [(21, .int .i64 x2.1.2), (20, .pointer (some ⟨bb, (ob + 2), none⟩)), (19, .int .i64 2), (18, .slice (some ⟨bb, ob, none⟩) 4 4), (16, .pointer (some ⟨ba, (oa + 2), none⟩)), (15, .int .i64 2), (14, .slice (some ⟨ba, oa, none⟩) 4 4), (13, .func (.yield lp) #[] #[]), (4, .int .i64 2), (10, .int .i64 2), (9, .int .i64 4), (0, .func (.yield lp) #[] #[]), (1, .pointer (some ⟨b1, 0, none⟩)), (2, .pointer (some ⟨b2, 0, none⟩))] [] 3 #[true, true, true, true, false, true, true, true, true, false, false] := by
              refine (hN _ _ _ _ _).2 ?_
              refine Tr.any 4 [] (by kernel_rfl) ⟨⟨_, rfl, ?_⟩, trivial⟩
              · skip
                refine Tr.one rfl (Tr.load1 F.ty2 rfl (q3.toCell (fun h => h k3) (show [.int .i64 x0.1.1, .int .i64 x1.1.1, .int .i64 x2.1.1, .int .i64 x3.1.1][2]? = some _ from rfl) rfl) rfl ?_)
                exact ((hN _ _ _ _ _).1 N18).sub [] (by decide) rfl ⟨rfl, rfl, rfl, rfl, rfl, rfl, rfl, rfl, rfl, rfl, rfl, rfl, rfl, rfl, rfl, trivial⟩
            have N16 : N (Cx.it Tryd.prog 25 Keep W (J (([] ++ [x0]) ++ [x1])) (hJ _)) [(20, .pointer (some ⟨bb, (ob + 2), none⟩)), (19, .int .i64 2), (18, .slice (some ⟨bb, ob, none⟩) 4 4), (17, .int .i64 x2.1.1), (16, .pointer (some ⟨ba, (oa + 2), none⟩)), (15, .int .i64 2), (14, .slice (some ⟨ba, oa, none⟩) 4 4), (13, .func (.yield lp) #[] #[]), (4, .int .i64 2), (10, .int .i64 2), (9, .int .i64 4), (0, .func (.yield lp) #[] #[]), (1, .pointer (some ⟨b1, 0, none⟩)), (2, .pointer (some ⟨b2, 0, none⟩))] [] 3 #[true, true, true, true, true, true, true, true, false, false, false] := by
              refine (hN _ _ _ _ _).2 ?_
              refine Tr.any 8 [] (by kernel_rfl) ⟨⟨_, rfl, ?_⟩, trivial⟩
              · skip
                refine Tr.one rfl (Tr.load1 F.ty2 rfl (q4.toCell (fun h => h k4) (show [.int .i64 x0.1.2, .int .i64 x1.1.2, .int .i64 x2.1.2, .int .i64 x3.1.2][2]? = some _ from rfl) rfl) rfl ?_)
                exact ((hN _ _ _ _ _).1 N18).sub [] (by decide) rfl ⟨rfl, rfl, rfl, rfl, rfl, rfl, rfl, rfl, rfl, rfl, rfl, rfl, rfl, rfl, rfl, trivial⟩
            have N15 : N (Cx.it Tryd.prog 25 Keep W (J (([] ++ [x0]) ++ [x1])) (hJ _)) [(21, .int .i64 x2.1.2), (20, .pointer (some ⟨bb, (ob + 2), none⟩)), (19, .int .i64 2), (18, .slice (some ⟨bb, ob, none⟩) 4 4), (15, .int .i64 2), (14, .slice (some ⟨ba, oa, none⟩) 4 4), (13, .func (.yield lp) #[] #[]), (4, .int .i64 2), (10, .int .i64 2), (9, .int .i64 4), (0, .func (.yield lp) #[] #[]), (1, .pointer (some ⟨b1, 0, none⟩)), (2, .pointer (some ⟨b2, 0, none⟩))] [] 4 #[true, true, true, false, false, true, true, true, true, false, false] := by
              refine (hN _ _ _ _ _).2 ?_
              refine Tr.any 3 [] (by kernel_rfl) ⟨⟨_, rfl, ?_⟩, trivial⟩
              · skip
                refine Tr.one rfl (Tr.indexSlice (o' := (oa + 2)) F.sli86 rfl rfl (by decide) (by decide) (rfl) rfl ?_)
                exact ((hN _ _ _ _ _).1 N17).sub [] (by decide) rfl ⟨rfl, rfl, rfl, rfl, rfl, rfl, rfl, rfl, rfl, rfl, rfl, rfl, rfl, rfl, trivial⟩
            have N14 : N (Cx.it Tryd.prog 25 Keep W (J (([] ++ [x0]) ++ [x1])) (hJ _)) [(20, .pointer (some ⟨bb, (ob + 2), none⟩)), (19, .int .i64 2), (18, .slice (some ⟨bb, ob, none⟩) 4 4), (16, .pointer (some ⟨ba, (oa + 2), none⟩)), (15, .int .i64 2), (14, .slice (some ⟨ba, oa, none⟩) 4 4), (13, .func (.yield lp) #[] #[]), (4, .int .i64 2), (10, .int .i64 2), (9, .int .i64 4), (0, .func (.yield lp) #[] #[]), (1, .pointer (some ⟨b1, 0, none⟩)), (2, .pointer (some ⟨b2, 0, none⟩))] [] 4 #[true, true, true, true, false, true, true, true, false, false, false] := by
              refine (hN _ _ _ _ _).2 ?_
              refine Tr.any 4 [8] (by kernel_rfl) ⟨⟨_, rfl, ?_⟩, ⟨_, rfl, ?_⟩, trivial⟩
              · skip
                refine Tr.one rfl (Tr.load1 F.ty2 rfl (q3.toCell (fun h => h k3) (show [.int .i64 x0.1.1, .int .i64 x1.1.1, .int .i64 x2.1.1, .int .i64 x3.1.1][2]? = some _ from rfl) rfl) rfl ?_)
                exact ((hN _ _ _ _ _).1 N16).sub [] (by decide) rfl ⟨rfl, rfl, rfl, rfl, rfl, rfl, rfl, rfl, rfl, rfl, rfl, rfl, rfl, rfl, trivial⟩
              · skip
                refine Tr.one rfl (Tr.load1 F.ty2 rfl (q4.toCell (fun h => h k4) (show [.int .i64 x0.1.2, .int .i64 x1.1.2, .int .i64 x2.1.2, .int .i64 x3.1.2][2]? = some _ from rfl) rfl) rfl ?_)
                exact ((hN _ _ _ _ _).1 N17).sub [] (by decide) rfl ⟨rfl, rfl, rfl, rfl, rfl, rfl, rfl, rfl, rfl, rfl, rfl, rfl, rfl, rfl, trivial⟩
            have N13 : N (Cx.it Tryd.prog 25 Keep W (J (([] ++ [x0]) ++ [x1])) (hJ _)) [(19, .int .i64 2), (18, .slice (some ⟨bb, ob, none⟩) 4 4), (17, .int .i64 x2.1.1), (16, .pointer (some ⟨ba, (oa + 2), none⟩)), (15, .int .i64 2), (14, .slice (some ⟨ba, oa, none⟩) 4 4), (13, .func (.yield lp) #[] #[]), (4, .int .i64 2), (10, .int .i64 2), (9, .int .i64 4), (0, .func (.yield lp) #[] #[]), (1, .pointer (some ⟨b1, 0, none⟩)), (2, .pointer (some ⟨b2, 0, none⟩))] [] 4 #[true, true, true, true, true, true, true, false, false, false, false] := by
              refine (hN _ _ _ _ _).2 ?_
              refine Tr.any 7 [] (by kernel_rfl) ⟨⟨_, rfl, ?_⟩, trivial⟩
              · skip
                refine Tr.one rfl (Tr.indexSlice (o' := (ob + 2)) F.sli86 rfl rfl (by decide) (by decide) (rfl) rfl ?_)
                exact ((hN _ _ _ _ _).1 N16).sub [] (by decide) rfl ⟨rfl, rfl, rfl, rfl, rfl, rfl, rfl, rfl, rfl, rfl, rfl, rfl, rfl, rfl, trivial⟩
            have N12 : N (Cx.it Tryd.prog 25 Keep W (J (([] ++ [x0]) ++ [x1])) (hJ _)) [(21, .int .i64 x2.1.2), (20, .pointer (some ⟨bb, (ob + 2), none⟩)), (19, .int .i64 2), (18, .slice (some ⟨bb, ob, none⟩) 4 4), (15, .int .i64 2), (13, .func (.yield lp) #[] #[]), (4, .int .i64 2), (10, .int .i64 2), (9, .int .i64 4), (0, .func (.yield lp) #[] #[]), (1, .pointer (some ⟨b1, 0, none⟩)), (2, .pointer (some ⟨b2, 0, none⟩))] [] 5 #[true, false, true, false, false, true, true, true, true, false, false] := by
              refine (hN _ _ _ _ _).2 ?_
              refine Tr.any 1 [] (by kernel_rfl) ⟨⟨_, rfl, ?_⟩, trivial⟩
              · skip
                refine Tr.one rfl (Tr.load1 F.ty86 rfl (q1.toCell (fun h => h k1) (show [.slice (some ⟨ba, oa, none⟩) 4 4][0]? = some _ from rfl) rfl) rfl ?_)
                exact ((hN _ _ _ _ _).1 N15).sub [] (by decide) rfl ⟨rfl, rfl, rfl, rfl, rfl, rfl, rfl, rfl, rfl, rfl, rfl, rfl, rfl, trivial⟩
            have N11 : N (Cx.it Tryd.prog 25 Keep W (J (([] ++ [x0]) ++ [x1])) (hJ _)) [(20, .pointer (some ⟨bb, (ob + 2), none⟩)), (19, .int .i64 2), (18, .slice (some ⟨bb, ob, none⟩) 4 4), (15, .int .i64 2), (14, .slice (some ⟨ba, oa, none⟩) 4 4), (13, .func (.yield lp) #[] #[]), (4, .int .i64 2), (10, .int .i64 2), (9, .int .i64 4), (0, .func (.yield lp) #[] #[]), (1, .pointer (some ⟨b1, 0, none⟩)), (2, .pointer (some ⟨b2, 0, none⟩))] [] 5 #[true, true, true, false, false, true, true, true, false, false, false] := by
              refine (hN _ _ _ _ _).2 ?_
              refine Tr.any 3 [8] (by kernel_rfl) ⟨⟨_, rfl, ?_⟩, ⟨_, rfl, ?_⟩, trivial⟩
              · skip
                refine Tr.one rfl (Tr.indexSlice (o' := (oa + 2)) F.sli86 rfl rfl (by decide) (by decide) (rfl) rfl ?_)
                exact ((hN _ _ _ _ _).1 N14).sub [] (by decide) rfl ⟨rfl, rfl, rfl, rfl, rfl, rfl, rfl, rfl, rfl, rfl, rfl, rfl, rfl, trivial⟩
              · skip
                refine Tr.one rfl (Tr.load1 F.ty2 rfl (q4.toCell (fun h => h k4) (show [.int .i64 x0.1.2, .int .i64 x1.1.2, .int .i64 x2.1.2, .int .i64 x3.1.2][2]? = some _ from rfl) rfl) rfl ?_)
                exact ((hN _ _ _ _ _).1 N15).sub [] (by decide) rfl ⟨rfl, rfl, rfl, rfl, rfl, rfl, rfl, rfl, rfl, rfl, rfl, rfl, rfl, trivial⟩
            have N10 : N (Cx.it Tryd.prog 25 Keep W (J (([] ++ [x0]) ++ [x1])) (hJ _)) [(19, .int .i64 2), (18, .slice (some ⟨bb, ob, none⟩) 4 4), (16, .pointer (some ⟨ba, (oa + 2), none⟩)), (15, .int .i64 2), (14, .slice (some ⟨ba, oa, none⟩) 4 4), (13, .func (.yield lp) #[] #[]), (4, .int .i64 2), (10, .int .i64 2), (9, .int .i64 4), (0, .func (.yield lp) #[] #[]), (1, .pointer (some ⟨b1, 0, none⟩)), (2, .pointer (some ⟨b2, 0, none⟩))] [] 5 #[true, true, true, true, false, true, true, false, false, false, false] := by
              refine (hN _ _ _ _ _).2 ?_
              refine Tr.any 4 [7] (by kernel_rfl) ⟨⟨_, rfl, ?_⟩, ⟨_, rfl, ?_⟩, trivial⟩
              · skip
                refine Tr.one rfl (Tr.load1 F.ty2 rfl (q3.toCell (fun h => h k3) (show [.int .i64 x0.1.1, .int .i64 x1.1.1, .int .i64 x2.1.1, .int .i64 x3.1.1][2]? = some _ from rfl) rfl) rfl ?_)
                exact ((hN _ _ _ _ _).1 N13).sub [] (by decide) rfl ⟨rfl, rfl, rfl, rfl, rfl, rfl, rfl, rfl, rfl, rfl, rfl, rfl, rfl, trivial⟩
              · skip
                refine Tr.one rfl (Tr.indexSlice (o' := (ob + 2)) F.sli86 rfl rfl (by decide) (by decide) (rfl) rfl ?_)
                exact ((hN _ _ _ _ _).1 N14).sub [] (by decide) rfl ⟨rfl, rfl, rfl, rfl, rfl, rfl, rfl, rfl, rfl, rfl, rfl, rfl, rfl, trivial⟩
            have N9 : N (Cx.it Tryd.prog 25 Keep W (J (([] ++ [x0]) ++ [x1])) (hJ _)) [(19, .int .i64 2), (17, .int .i64 x2.1.1), (16, .pointer (some ⟨ba, (oa + 2), none⟩)), (15, .int .i64 2), (14, .slice (some ⟨ba, oa, none⟩) 4 4), (13, .func (.yield lp) #[] #[]), (4, .int .i64 2), (10, .int .i64 2), (9, .int .i64 4), (0, .func (.yield lp) #[] #[]), (1, .pointer (some ⟨b1, 0, none⟩)), (2, .pointer (some ⟨b2, 0, none⟩))] [] 5 #[true, true, true, true, true, false, true, false, false, false, false] := by
              refine (hN _ _ _ _ _).2 ?_
              refine Tr.any 5 [] (by kernel_rfl) ⟨⟨_, rfl, ?_⟩, trivial⟩
              · skip
                refine Tr.one rfl (Tr.load1 F.ty86 rfl (q2.toCell (fun h => h k2) (show [.slice (some ⟨bb, ob, none⟩) 4 4][0]? = some _ from rfl) rfl) rfl ?_)
                exact ((hN _ _ _ _ _).1 N13).sub [] (by decide) rfl ⟨rfl, rfl, rfl, rfl, rfl, rfl, rfl, rfl, rfl, rfl, rfl, rfl, rfl, trivial⟩
            have N8 : N (Cx.it Tryd.prog 25 Keep W (J (([] ++ [x0]) ++ [x1])) (hJ _)) [(20, .pointer (some ⟨bb, (ob + 2), none⟩)), (19, .int .i64 2), (18, .slice (some ⟨bb, ob, none⟩) 4 4), (15, .int .i64 2), (13, .func (.yield lp) #[] #[]), (4, .int .i64 2), (10, .int .i64 2), (9, .int .i64 4), (0, .func (.yield lp) #[] #[]), (1, .pointer (some ⟨b1, 0, none⟩)), (2, .pointer (some ⟨b2, 0, none⟩))] [] 6 #[true, false, true, false, false, true, true, true, false, false, false] := by
              refine (hN _ _ _ _ _).2 ?_
              refine Tr.any 1 [8] (by kernel_rfl) ⟨⟨_, rfl, ?_⟩, ⟨_, rfl, ?_⟩, trivial⟩
              · skip
                refine Tr.one rfl (Tr.load1 F.ty86 rfl (q1.toCell (fun h => h k1) (show [.slice (some ⟨ba, oa, none⟩) 4 4][0]? = some _ from rfl) rfl) rfl ?_)
                exact ((hN _ _ _ _ _).1 N11).sub [] (by decide) rfl ⟨rfl, rfl, rfl, rfl, rfl, rfl, rfl, rfl, rfl, rfl, rfl, rfl, trivial⟩
              · skip
                refine Tr.one rfl (Tr.load1 F.ty2 rfl (q4.toCell (fun h => h k4) (show [.int .i64 x0.1.2, .int .i64 x1.1.2, .int .i64 x2.1.2, .int .i64 x3.1.2][2]? = some _ from rfl) rfl) rfl ?_)
                exact ((hN _ _ _ _ _).1 N12).sub [] (by decide) rfl ⟨rfl, rfl, rfl, rfl, rfl, rfl, rfl, rfl, rfl, rfl, rfl, rfl, trivial⟩
            have N7 : N (Cx.it Tryd.prog 25 Keep W (J (([] ++ [x0]) ++ [x1])) (hJ _)) [(19, .int .i64 2), (18, .slice (some ⟨bb, ob, none⟩) 4 4), (15, .int .i64 2), (14, .slice (some ⟨ba, oa, none⟩) 4 4), (13, .func (.yield lp) #[] #[]), (4, .int .i64 2), (10, .int .i64 2), (9, .int .i64 4), (0, .func (.yield lp) #[] #[]), (1, .pointer (some ⟨b1, 0, none⟩)), (2, .pointer (some ⟨b2, 0, none⟩))] [] 6 #[true, true, true, false, false, true, true, false, false, false, false] := by
              refine (hN _ _ _ _ _).2 ?_
              refine Tr.any 3 [7] (by kernel_rfl) ⟨⟨_, rfl, ?_⟩, ⟨_, rfl, ?_⟩, trivial⟩
              · skip
                refine Tr.one rfl (Tr.indexSlice (o' := (oa + 2)) F.sli86 rfl rfl (by decide) (by decide) (rfl) rfl ?_)
                exact ((hN _ _ _ _ _).1 N10).sub [] (by decide) rfl ⟨rfl, rfl, rfl, rfl, rfl, rfl, rfl, rfl, rfl, rfl, rfl, rfl, trivial⟩
              · skip
                refine Tr.one rfl (Tr.indexSlice (o' := (ob + 2)) F.sli86 rfl rfl (by decide) (by decide) (rfl) rfl ?_)
                exact ((hN _ _ _ _ _).1 N11).sub [] (by decide) rfl ⟨rfl, rfl, rfl, rfl, rfl, rfl, rfl, rfl, rfl, rfl, rfl, rfl, trivial⟩
            have N6 : N (Cx.it Tryd.prog 25 Keep W (J (([] ++ [x0]) ++ [x1])) (hJ _)) [(19, .int .i64 2), (16, .pointer (some ⟨ba, (oa + 2), none⟩)), (15, .int .i64 2), (14, .slice (some ⟨ba, oa, none⟩) 4 4), (13, .func (.yield lp) #[] #[]), (4, .int .i64 2), (10, .int .i64 2), (9, .int .i64 4), (0, .func (.yield lp) #[] #[]), (1, .pointer (some ⟨b1, 0, none⟩)), (2, .pointer (some ⟨b2, 0, none⟩))] [] 6 #[true, true, true, true, false, false, true, false, false, false, false] := by
              refine (hN _ _ _ _ _).2 ?_
              refine Tr.any 4 [5] (by kernel_rfl) ⟨⟨_, rfl, ?_⟩, ⟨_, rfl, ?_⟩, trivial⟩
              · skip
                refine Tr.one rfl (Tr.load1 F.ty2 rfl (q3.toCell (fun h => h k3) (show [.int .i64 x0.1.1, .int .i64 x1.1.1, .int .i64 x2.1.1, .int .i64 x3.1.1][2]? = some _ from rfl) rfl) rfl ?_)
                exact ((hN _ _ _ _ _).1 N9).sub [] (by decide) rfl ⟨rfl, rfl, rfl, rfl, rfl, rfl, rfl, rfl, rfl, rfl, rfl, rfl, trivial⟩
              · skip
                refine Tr.one rfl (Tr.load1 F.ty86 rfl (q2.toCell (fun h => h k2) (show [.slice (some ⟨bb, ob, none⟩) 4 4][0]? = some _ from rfl) rfl) rfl ?_)
                exact ((hN _ _ _ _ _).1 N10).sub [] (by decide) rfl ⟨rfl, rfl, rfl, rfl, rfl, rfl, rfl, rfl, rfl, rfl, rfl, rfl, trivial⟩
            have N5 : N (Cx.it Tryd.prog 25 Keep W (J (([] ++ [x0]) ++ [x1])) (hJ _)) [(19, .int .i64 2), (18, .slice (some ⟨bb, ob, none⟩) 4 4), (15, .int .i64 2), (13, .func (.yield lp) #[] #[]), (4, .int .i64 2), (10, .int .i64 2), (9, .int .i64 4), (0, .func (.yield lp) #[] #[]), (1, .pointer (some ⟨b1, 0, none⟩)), (2, .pointer (some ⟨b2, 0, none⟩))] [] 7 #[true, false, true, false, false, true, true, false, false, false, false] := by
              refine (hN _ _ _ _ _).2 ?_
              refine Tr.any 1 [7] (by kernel_rfl) ⟨⟨_, rfl, ?_⟩, ⟨_, rfl, ?_⟩, trivial⟩
              · skip
                refine Tr.one rfl (Tr.load1 F.ty86 rfl (q1.toCell (fun h => h k1) (show [.slice (some ⟨ba, oa, none⟩) 4 4][0]? = some _ from rfl) rfl) rfl ?_)
                exact ((hN _ _ _ _ _).1 N7).sub [] (by decide) rfl ⟨rfl, rfl, rfl, rfl, rfl, rfl, rfl, rfl, rfl, rfl, rfl, trivial⟩
              · skip
                refine Tr.one rfl (Tr.indexSlice (o' := (ob + 2)) F.sli86 rfl rfl (by decide) (by decide) (rfl) rfl ?_)
                exact ((hN _ _ _ _ _).1 N8).sub [] (by decide) rfl ⟨rfl, rfl, rfl, rfl, rfl, rfl, rfl, rfl, rfl, rfl, rfl, trivial⟩
            have N4 : N (Cx.it Tryd.prog 25 Keep W (J (([] ++ [x0]) ++ [x1])) (hJ _)) [(19, .int .i64 2), (15, .int .i64 2), (14, .slice (some ⟨ba, oa, none⟩) 4 4), (13, .func (.yield lp) #[] #[]), (4, .int .i64 2), (10, .int .i64 2), (9, .int .i64 4), (0, .func (.yield lp) #[] #[]), (1, .pointer (some ⟨b1, 0, none⟩)), (2, .pointer (some ⟨b2, 0, none⟩))] [] 7 #[true, true, true, false, false, false, true, false, false, false, false] := by
              refine (hN _ _ _ _ _).2 ?_
              refine Tr.any 3 [5] (by kernel_rfl) ⟨⟨_, rfl, ?_⟩, ⟨_, rfl, ?_⟩, trivial⟩
              · skip
                refine Tr.one rfl (Tr.indexSlice (o' := (oa + 2)) F.sli86 rfl rfl (by decide) (by decide) (rfl) rfl ?_)
                exact ((hN _ _ _ _ _).1 N6).sub [] (by decide) rfl ⟨rfl, rfl, rfl, rfl, rfl, rfl, rfl, rfl, rfl, rfl, rfl, trivial⟩
              · skip
                refine Tr.one rfl (Tr.load1 F.ty86 rfl (q2.toCell (fun h => h k2) (show [.slice (some ⟨bb, ob, none⟩) 4 4][0]? = some _ from rfl) rfl) rfl ?_)
                exact ((hN _ _ _ _ _).1 N7).sub [] (by decide) rfl ⟨rfl, rfl, rfl, rfl, rfl, rfl, rfl, rfl, rfl, rfl, rfl, trivial⟩
            have N3 : N (Cx.it Tryd.prog 25 Keep W (J (([] ++ [x0]) ++ [x1])) (hJ _)) [(19, .int .i64 2), (15, .int .i64 2), (13, .func (.yield lp) #[] #[]), (4, .int .i64 2), (10, .int .i64 2), (9, .int .i64 4), (0, .func (.yield lp) #[] #[]), (1, .pointer (some ⟨b1, 0, none⟩)), (2, .pointer (some ⟨b2, 0, none⟩))] [] 8 #[true, false, true, false, false, false, true, false, false, false, false] := by
              refine (hN _ _ _ _ _).2 ?_
              refine Tr.any 1 [5] (by kernel_rfl) ⟨⟨_, rfl, ?_⟩, ⟨_, rfl, ?_⟩, trivial⟩
              · skip
                refine Tr.one rfl (Tr.load1 F.ty86 rfl (q1.toCell (fun h => h k1) (show [.slice (some ⟨ba, oa, none⟩) 4 4][0]? = some _ from rfl) rfl) rfl ?_)
                exact ((hN _ _ _ _ _).1 N4).sub [] (by decide) rfl ⟨rfl, rfl, rfl, rfl, rfl, rfl, rfl, rfl, rfl, rfl, trivial⟩
              · skip
                refine Tr.one rfl (Tr.load1 F.ty86 rfl (q2.toCell (fun h => h k2) (show [.slice (some ⟨bb, ob, none⟩) 4 4][0]? = some _ from rfl) rfl) rfl ?_)
                exact ((hN _ _ _ _ _).1 N5).sub [] (by decide) rfl ⟨rfl, rfl, rfl, rfl, rfl, rfl, rfl, rfl, rfl, rfl, trivial⟩
            have N2 : N (Cx.it Tryd.prog 25 Keep W (J (([] ++ [x0]) ++ [x1])) (hJ _)) [(15, .int .i64 2), (13, .func (.yield lp) #[] #[]), (4, .int .i64 2), (10, .int .i64 2), (9, .int .i64 4), (0, .func (.yield lp) #[] #[]), (1, .pointer (some ⟨b1, 0, none⟩)), (2, .pointer (some ⟨b2, 0, none⟩))] [] 9 #[true, false, true, false, false, false, false, false, false, false, false] := by
              refine (hN _ _ _ _ _).2 ?_
              refine Tr.take 6 (.int .i64 2) rfl (by kernel_rfl) (by kernel_rfl) (by kernel_rfl) rfl rfl rfl rfl ?_
              exact ((hN _ _ _ _ _).1 N3).sub [] (by decide) rfl ⟨rfl, rfl, rfl, rfl, rfl, rfl, rfl, rfl, rfl, trivial⟩
            have N1 : N (Cx.it Tryd.prog 25 Keep W (J (([] ++ [x0]) ++ [x1])) (hJ _)) [(13, .func (.yield lp) #[] #[]), (4, .int .i64 2), (10, .int .i64 2), (9, .int .i64 4), (0, .func (.yield lp) #[] #[]), (1, .pointer (some ⟨b1, 0, none⟩)), (2, .pointer (some ⟨b2, 0, none⟩))] [] 10 #[true, false, false, false, false, false, false, false, false, false, false] := by
              refine (hN _ _ _ _ _).2 ?_
              refine Tr.take 2 (.int .i64 2) rfl (by kernel_rfl) (by kernel_rfl) (by kernel_rfl) rfl rfl rfl rfl ?_
              exact ((hN _ _ _ _ _).1 N2).sub [] (by decide) rfl ⟨rfl, rfl, rfl, rfl, rfl, rfl, rfl, rfl, trivial⟩
            have N0 : N (Cx.it Tryd.prog 25 Keep W (J (([] ++ [x0]) ++ [x1])) (hJ _)) [(4, .int .i64 2), (10, .int .i64 2), (9, .int .i64 4), (0, .func (.yield lp) #[] #[]), (1, .pointer (some ⟨b1, 0, none⟩)), (2, .pointer (some ⟨b2, 0, none⟩))] [] 11 #[false, false, false, false, false, false, false, false, false, false, false] := by
              refine (hN _ _ _ _ _).2 ?_
              refine Tr.take 0 (.func (.yield lp) #[] #[]) rfl (by kernel_rfl) (by kernel_rfl) (by kernel_rfl) rfl rfl rfl rfl ?_
              exact ((hN _ _ _ _ _).1 N1).sub [] (by decide) rfl ⟨rfl, rfl, rfl, rfl, rfl, rfl, rfl, trivial⟩
            exact (hN _ _ _ _ _).2 (((hN _ _ _ _ _).1 N0).sub [] (by decide) rfl ⟨rfl, rfl, rfl, rfl, rfl, rfl, trivial⟩)
          · rintro y; cases y with
            | none =>
              refine Tr.thenN ?_
              refine Tr.not rfl ?_
              refine Tr.skip ?_
              refine Tr.blockN ?_
              refine Tr.thenN ?_
              refine Tr.region ?_
              refine Tr.step rfl (Tr.valE (.int .i64 3) rfl (rfl) rfl ?_)
              refine Tr.step rfl (Tr.val rfl rfl ?_)
              refine Tr.nil ?_
              refine Tr.thenN ?_
              refine Tr.sub (l' := [(10, .int .i64 3), (9, .int .i64 4), (0, .func (.yield lp) #[] #[]), (1, .pointer (some ⟨b1, 0, none⟩)), (2, .pointer (some ⟨b2, 0, none⟩))]) (h' := []) ?_ [] (by decide) rfl ⟨rfl, rfl, rfl, rfl, rfl, trivial⟩
              refine Tr.roundU ?_
              refine Tr.seq ?_
              refine Tr.region ?_
              refine Tr.step rfl (Tr.valE (.bool true) rfl rfl rfl ?_)
              refine Tr.nil ?_
              refine Tr.thenN ?_
              refine Tr.seq ?_
              refine Tr.yes rfl ?_
              refine Tr.skip ?_
              refine Tr.thenN ?_
              refine Tr.seq ?_
              refine Tr.block ?_
              refine Tr.seq ?_
              refine Tr.region ?_
              refine Tr.step rfl (Tr.val rfl rfl ?_)
              refine Tr.step rfl (Tr.val rfl rfl ?_)
              refine Tr.nil ?_
              refine Tr.thenN ?_
              refine Tr.seq ?_
              refine Tr.sub (l' := [(4, .int .i64 3), (10, .int .i64 3), (9, .int .i64 4), (0, .func (.yield lp) #[] #[]), (1, .pointer (some ⟨b1, 0, none⟩)), (2, .pointer (some ⟨b2, 0, none⟩))]) (h' := []) ?_ [] (by decide) rfl ⟨rfl, rfl, rfl, rfl, rfl, rfl, trivial⟩
              refine Tr.drawY (Y := Option World) (fun y => match y with | none => Cx.it Tryd.prog 25 Keep W (J (((([] ++ [x0]) ++ [x1]) ++ [x2]) ++ [x3])) (hJ _) | some w' => Cx.over Tryd.prog 25 w' (Jx (((([] ++ [x0]) ++ [x1]) ++ [x2]) ++ [x3])) (hJx _)) (fun y => match y with | none => [(23, .bool false), (22, .bool true), (21, .int .i64 x3.1.2), (20, .pointer (some ⟨bb, (ob + 3), none⟩)), (19, .int .i64 3), (18, .slice (some ⟨bb, ob, none⟩) 4 4), (17, .int .i64 x3.1.1), (16, .pointer (some ⟨ba, (oa + 3), none⟩)), (15, .int .i64 3), (14, .slice (some ⟨ba, oa, none⟩) 4 4), (13, .func (.yield lp) #[] #[]), (4, .int .i64 3), (10, .int .i64 3), (9, .int .i64 4), (0, .func (.yield lp) #[] #[]), (1, .pointer (some ⟨b1, 0, none⟩)), (2, .pointer (some ⟨b2, 0, none⟩))] | some _ => [(23, .bool true), (22, .bool false), (21, .int .i64 x3.1.2), (20, .pointer (some ⟨bb, (ob + 3), none⟩)), (19, .int .i64 3), (18, .slice (some ⟨bb, ob, none⟩) 4 4), (17, .int .i64 x3.1.1), (16, .pointer (some ⟨ba, (oa + 3), none⟩)), (15, .int .i64 3), (14, .slice (some ⟨ba, oa, none⟩) 4 4), (13, .func (.yield lp) #[] #[]), (4, .int .i64 3), (10, .int .i64 3), (9, .int .i64 4), (0, .func (.yield lp) #[] #[]), (1, .pointer (some ⟨b1, 0, none⟩)), (2, .pointer (some ⟨b2, 0, none⟩))]) (fun _ => []) F.mixed ?_ ?_
              · intro K N hN tE
                have N18 : N (Cx.it Tryd.prog 25 Keep W (J ((([] ++ [x0]) ++ [x1]) ++ [x2])) (hJ _)) [(21, .int .i64 x3.1.2), (20, .pointer (some ⟨bb, (ob + 3), none⟩)), (19, .int .i64 3), (18, .slice (some ⟨bb, ob, none⟩) 4 4), (17, .int .i64 x3.1.1), (16, .pointer (some ⟨ba, (oa + 3), none⟩)), (15, .int .i64 3), (14, .slice (some ⟨ba, oa, none⟩) 4 4), (13, .func (.yield lp) #[] #[]), (4, .int .i64 3), (10, .int .i64 3), (9, .int .i64 4), (0, .func (.yield lp) #[] #[]), (1, .pointer (some ⟨b1, 0, none⟩)), (2, .pointer (some ⟨b2, 0, none⟩))] [] 2 #[true, true, true, true, true, true, true, true, true, false, false] := by
                  refine (hN _ _ _ _ _).2 ?_
                  refine Tr.any 9 [] (by kernel_rfl) ⟨⟨_, rfl, ?_⟩, trivial⟩
                  · skip
                    refine Tr.one rfl (Tr.yield (J' := J (((([] ++ [x0]) ++ [x1]) ++ [x2]) ++ [x3])) (Jx' := Jx (((([] ++ [x0]) ++ [x1]) ++ [x2]) ++ [x3])) (hJ _) (hJx _) rfl rfl rfl (fun w hw => hY ((([] ++ [x0]) ++ [x1]) ++ [x2]) x3 w hw (by simp)) ?_ (fun w' => ?_))
                    · skip
                      refine Tr.any 10 [] (by kernel_rfl) ⟨⟨_, rfl, ?_⟩, trivial⟩
                      refine Tr.one rfl (Tr.valE (.bool false) rfl rfl rfl ?_)
                      exact Tr.anyEnd (by kernel_rfl) (Tr.sub (tE none) [] (by decide) rfl ⟨rfl, rfl, rfl, rfl, rfl, rfl, rfl, rfl, rfl, rfl, rfl, rfl, rfl, rfl, rfl, rfl, rfl, trivial⟩)
                    · skip
                      refine Tr.any 10 [] (by kernel_rfl) ⟨⟨_, rfl, ?_⟩, trivial⟩
                      refine Tr.one rfl (Tr.valE (.bool true) rfl rfl rfl ?_)
                      exact Tr.anyEnd (by kernel_rfl) (Tr.sub (tE (some w')) [] (by decide) rfl ⟨rfl, rfl, rfl, rfl, rfl, rfl, rfl, rfl, rfl, rfl, rfl, rfl, rfl, rfl, rfl, rfl, rfl, trivial⟩)
                have N17 : N (Cx.it Tryd.prog 25 Keep W (J ((([] ++ [x0]) ++ [x1]) ++ [x2])) (hJ _)) [(21, .int .i64 x3.1.2), (20, .pointer (some ⟨bb, (ob + 3), none⟩)), (19, .int .i64 3), (18, .slice (some ⟨bb, ob, none⟩) 4 4), (16, .pointer (some ⟨ba, (oa + 3), none⟩)), (15, .int .i64 3), (14, .slice (some ⟨ba, oa, none⟩) 4 4), (13, .func (.yield lp) #[] #[]), (4, .int .i64 3), (10, .int .i64 3), (9, .int .i64 4), (0, .func (.yield lp) #[] #[]), (1, .pointer (some ⟨b1, 0, none⟩)), (2, .pointer (some ⟨b2, 0, none⟩))] [] 3 #[true, true, true, true, false, true, true, true, true, false, false] := by
                  refine (hN _ _ _ _ _).2 ?_
                  refine Tr.any 4 [] (by kernel_rfl) ⟨⟨_, rfl, ?_⟩, trivial⟩
                  · skip
                    refine Tr.one rfl (Tr.load1 F.ty2 rfl (q3.toCell (fun h => h k3) (show [.int .i64 x0.1.1, .int .i64 x1.1.1, .int .i64 x2.1.1, .int .i64 x3.1.1][3]? = some _ from rfl) rfl) rfl ?_)
                    exact ((hN _ _ _ _ _).1 N18).sub [] (by decide) rfl ⟨rfl, rfl, rfl, rfl, rfl, rfl, rfl, rfl, rfl, rfl, rfl, rfl, rfl, rfl, rfl, trivial⟩
                have N16 : N (Cx.it Tryd.prog 25 Keep W (J ((([] ++ [x0]) ++ [x1]) ++ [x2])) (hJ _)) [(20, .pointer (some ⟨bb, (ob + 3), none⟩)), (19, .int .i64 3), (18, .slice (some ⟨bb, ob, none⟩) 4 4), (17, .int .i64 x3.1.1), (16, .pointer (some ⟨ba, (oa + 3), none⟩)), (15, .int .i64 3), (14, .slice (some ⟨ba, oa, none⟩) 4 4), (13, .func (.yield lp) #[] #[]), (4, .int .i64 3), (10, .int .i64 3), (9, .int .i64 4), (0, .func (.yield lp) #[] #[]), (1, .pointer (some ⟨b1, 0, none⟩)), (2, .pointer (some ⟨b2, 0, none⟩))] [] 3 #[true, true, true, true, true, true, true, true, false, false, false] := by
                  refine (hN _ _ _ _ _).2 ?_
                  refine Tr.any 8 [] (by kernel_rfl) ⟨⟨_, rfl, ?_⟩, trivial⟩
                  · skip
                    refine Tr.one rfl (Tr.load1 F.ty2 rfl (q4.toCell (fun h => h k4) (show [.int .i64 x0.1.2, .int .i64 x1.1.2, .int .i64 x2.1.2, .int .i64 x3.1.2][3]? = some _ from rfl) rfl) rfl ?_)
                    exact ((hN _ _ _ _ _).1 N18).sub [] (by decide) rfl ⟨rfl, rfl, rfl, rfl, rfl, rfl, rfl, rfl, rfl, rfl, rfl, rfl, rfl, rfl, rfl, trivial⟩
                have N15 : N (Cx.it Tryd.prog 25 Keep W (J ((([] ++ [x0]) ++ [x1]) ++ [x2])) (hJ _)) [(21, .int .i64 x3.1.2), (20, .pointer (some ⟨bb, (ob + 3), none⟩)), (19, .int .i64 3), (18, .slice (some ⟨bb, ob, none⟩) 4 4), (15, .int .i64 3), (14, .slice (some ⟨ba, oa, none⟩) 4 4), (13, .func (.yield lp) #[] #[]), (4, .int .i64 3), (10, .int .i64 3), (9, .int .i64 4), (0, .func (.yield lp) #[] #[]), (1, .pointer (some ⟨b1, 0, none⟩)), (2, .pointer (some ⟨b2, 0, none⟩))] [] 4 #[true, true, true, false, false, true, true, true, true, false, false] := by
                  refine (hN _ _ _ _ _).2 ?_
                  refine Tr.any 3 [] (by kernel_rfl) ⟨⟨_, rfl, ?_⟩, trivial⟩
                  · skip
                    refine Tr.one rfl (Tr.indexSlice (o' := (oa + 3)) F.sli86 rfl rfl (by decide) (by decide) (rfl) rfl ?_)
                    exact ((hN _ _ _ _ _).1 N17).sub [] (by decide) rfl ⟨rfl, rfl, rfl, rfl, rfl, rfl, rfl, rfl, rfl, rfl, rfl, rfl, rfl, rfl, trivial⟩
                have N14 : N (Cx.it Tryd.prog 25 Keep W (J ((([] ++ [x0]) ++ [x1]) ++ [x2])) (hJ _)) [(20, .pointer (some ⟨bb, (ob + 3), none⟩)), (19, .int .i64 3), (18, .slice (some ⟨bb, ob, none⟩) 4 4), (16, .pointer (some ⟨ba, (oa + 3), none⟩)), (15, .int .i64 3), (14, .slice (some ⟨ba, oa, none⟩) 4 4), (13, .func (.yield lp) #[] #[]), (4, .int .i64 3), (10, .int .i64 3), (9, .int .i64 4), (0, .func (.yield lp) #[] #[]), (1, .pointer (some ⟨b1, 0, none⟩)), (2, .pointer (some ⟨b2, 0, none⟩))] [] 4 #[true, true, true, true, false, true, true, true, false, false, false] := by
                  refine (hN _ _ _ _ _).2 ?_
                  refine Tr.any 4 [8] (by kernel_rfl) ⟨⟨_, rfl, ?_⟩, ⟨_, rfl, ?_⟩, trivial⟩
                  · skip
                    refine Tr.one rfl (Tr.load1 F.ty2 rfl (q3.toCell (fun h => h k3) (show [.int .i64 x0.1.1, .int .i64 x1.1.1, .int .i64 x2.1.1, .int .i64 x3.1.1][3]? = some _ from rfl) rfl) rfl ?_)
                    exact ((hN _ _ _ _ _).1 N16).sub [] (by decide) rfl ⟨rfl, rfl, rfl, rfl, rfl, rfl, rfl, rfl, rfl, rfl, rfl, rfl, rfl, rfl, trivial⟩
                  · skip
                    refine Tr.one rfl (Tr.load1 F.ty2 rfl (q4.toCell (fun h => h k4) (show [.int .i64 x0.1.2, .int .i64 x1.1.2, .int .i64 x2.1.2, .int .i64 x3.1.2][3]? = some _ from rfl) rfl) rfl ?_)
                    exact ((hN _ _ _ _ _).1 N17).sub [] (by decide) rfl ⟨rfl, rfl, rfl, rfl, rfl, rfl, rfl, rfl, rfl, rfl, rfl, rfl, rfl, rfl, trivial⟩
                have N13 : N (Cx.it Tryd.prog 25 Keep W (J ((([] ++ [x0]) ++ [x1]) ++ [x2])) (hJ _)) [(19, .int .i64 3), (18, .slice (some ⟨bb, ob, none⟩) 4 4), (17, .int .i64 x3.1.1), (16, .pointer (some ⟨ba, (oa + 3), none⟩)), (15, .int .i64 3), (14, .slice (some ⟨ba, oa, none⟩) 4 4), (13, .func (.yield lp) #[] #[]), (4, .int .i64 3), (10, .int .i64 3), (9, .int .i64 4), (0, .func (.yield lp) #[] #[]), (1, .pointer (some ⟨b1, 0, none⟩)), (2, .pointer (some ⟨b2, 0, none⟩))] [] 4 #[true, true, true, true, true, true, true, false, false, false, false] := by
                  refine (hN _ _ _ _ _).2 ?_
                  refine Tr.any 7 [] (by kernel_rfl) ⟨⟨_, rfl, ?_⟩, trivial⟩
                  · skip
                    refine Tr.one rfl (Tr.indexSlice (o' := (ob + 3)) F.sli86 rfl rfl (by decide) (by decide) (rfl) rfl ?_)
                    exact ((hN _ _ _ _ _).1 N16).sub [] (by decide) rfl ⟨rfl, rfl, rfl, rfl, rfl, rfl, rfl, rfl, rfl, rfl, rfl, rfl, rfl, rfl, trivial⟩
                have N12 : N (Cx.it Tryd.prog 25 Keep W (J ((([] ++ [x0]) ++ [x1]) ++ [x2])) (hJ _)) [(21, .int .i64 x3.1.2), (20, .pointer (some ⟨bb, (ob + 3), none⟩)), (19, .int .i64 3), (18, .slice (some ⟨bb, ob, none⟩) 4 4), (15, .int .i64 3), (13, .func (.yield lp) #[] #[]), (4, .int .i64 3), (10, .int .i64 3), (9, .int .i64 4), (0, .func (.yield lp) #[] #[]), (1, .pointer (some ⟨b1, 0, none⟩)), (2, .pointer (some ⟨b2, 0, none⟩))] [] 5 #[true, false, true, false, false, true, true, true, true, false, false] := by
                  refine (hN _ _ _ _ _).2 ?_
                  refine Tr.any 1 [] (by kernel_rfl) ⟨⟨_, rfl, ?_⟩, trivial⟩
                  · skip
                    refine Tr.one rfl (Tr.load1 F.ty86 rfl (q1.toCell (fun h => h k1) (show [.slice (some ⟨ba, oa, none⟩) 4 4][0]? = some _ from rfl) rfl) rfl ?_)
                    exact ((hN _ _ _ _ _).1 N15).sub [] (by decide) rfl ⟨rfl, rfl, rfl, rfl, rfl, rfl, rfl, rfl, rfl, rfl, rfl, rfl, rfl, trivial⟩
                have N11 : N (Cx.it Tryd.prog 25 Keep W (J ((([] ++ [x0]) ++ [x1]) ++ [x2])) (hJ _)) [(20, .pointer (some ⟨bb, (ob + 3), none⟩)), (19, .int .i64 3), (18, .slice (some ⟨bb, ob, none⟩) 4 4), (15, .int .i64 3), (14, .slice (some ⟨ba, oa, none⟩) 4 4), (13, .func (.yield lp) #[] #[]), (4, .int .i64 3), (10, .int .i64 3), (9, .int .i64 4), (0, .func (.yield lp) #[] #[]), (1, .pointer (some ⟨b1, 0, none⟩)), (2, .pointer (some ⟨b2, 0, none⟩))] [] 5 #[true, true, true, false, false, true, true, true, false, false, false] := by
                  refine (hN _ _ _ _ _).2 ?_
                  refine Tr.any 3 [8] (by kernel_rfl) ⟨⟨_, rfl, ?_⟩, ⟨_, rfl, ?_⟩, trivial⟩
                  · skip
                    refine Tr.one rfl (Tr.indexSlice (o' := (oa + 3)) F.sli86 rfl rfl (by decide) (by decide) (rfl) rfl ?_)
                    exact ((hN _ _ _ _ _).1 N14).sub [] (by decide) rfl ⟨rfl, rfl, rfl, rfl, rfl, rfl, rfl, rfl, rfl, rfl, rfl, rfl, rfl, trivial⟩
                  · skip
                    refine Tr.one rfl (Tr.load1 F.ty2 rfl (q4.toCell (fun h => h k4) (show [.int .i64 x0.1.2, .int .i64 x1.1.2, .int .i64 x2.1.2, .int .i64 x3.1.2][3]? = some _ from rfl) rfl) rfl ?_)
                    exact ((hN _ _ _ _ _).1 N15).sub [] (by decide) rfl ⟨rfl, rfl, rfl, rfl, rfl, rfl, rfl, rfl, rfl, rfl, rfl, rfl, rfl, trivial⟩
                have N10 : N (Cx.it Tryd.prog 25 Keep W (J ((([] ++ [x0]) ++ [x1]) ++ [x2])) (hJ _)) [(19, .int .i64 3), (18, .slice (some ⟨bb, ob, none⟩) 4 4), (16, .pointer (some ⟨ba, (oa + 3), none⟩)), (15, .int .i64 3), (14, .slice (some ⟨ba, oa, none⟩) 4 4), (13, .func (.yield lp) #[] #[]), (4, .int .i64 3), (10, .int .i64 3), (9, .int .i64 4), (0, .func (.yield lp) #[] #[]), (1, .pointer (some ⟨b1, 0, none⟩)), (2, .pointer (some ⟨b2, 0, none⟩))] [] 5 #[true, true, true, true, false, true, true, false, false, false, false] := by
                  refine (hN _ _ _ _ _).2 ?_
                  refine Tr.any 4 [7] (by kernel_rfl) ⟨⟨_, rfl, ?_⟩, ⟨_, rfl, ?_⟩, trivial⟩
                  · skip
                    refine Tr.one rfl (Tr.load1 F.ty2 rfl (q3.toCell (fun h => h k3) (show [.int .i64 x0.1.1, .int .i64 x1.1.1, .int .i64 x2.1.1, .int .i64 x3.1.1][3]? = some _ from rfl) rfl) rfl ?_)
                    exact ((hN _ _ _ _ _).1 N13).sub [] (by decide) rfl ⟨rfl, rfl, rfl, rfl, rfl, rfl, rfl, rfl, rfl, rfl, rfl, rfl, rfl, trivial⟩
                  · skip
                    refine Tr.one rfl (Tr.indexSlice (o' := (ob + 3)) F.sli86 rfl rfl (by decide) (by decide) (rfl) rfl ?_)
                    exact ((hN _ _ _ _ _).1 N14).sub [] (by decide) rfl ⟨rfl, rfl, rfl, rfl, rfl, rfl, rfl, rfl, rfl, rfl, rfl, rfl, rfl, trivial⟩
                have N9 : N (Cx.it Tryd.prog 25 Keep W (J ((([] ++ [x0]) ++ [x1]) ++ [x2])) (hJ _)) [(19, .int .i64 3), (17, .int .i64 x3.1.1), (16, .pointer (some ⟨ba, (oa + 3), none⟩)), (15, .int .i64 3), (14, .slice (some ⟨ba, oa, none⟩) 4 4), (13, .func (.yield lp) #[] #[]), (4, .int .i64 3), (10, .int .i64 3), (9, .int .i64 4), (0, .func (.yield lp) #[] #[]), (1, .pointer (some ⟨b1, 0, none⟩)), (2, .pointer (some ⟨b2, 0, none⟩))] [] 5 #[true, true, true, true, true, false, true, false, false, false, false] := by
                  refine (hN _ _ _ _ _).2 ?_
                  refine Tr.any 5 [] (by kernel_rfl) ⟨⟨_, rfl, ?_⟩, trivial⟩
                  · skip
                    refine Tr.one rfl (Tr.load1 F.ty86 rfl (q2.toCell (fun h => h k2) (show [.slice (some ⟨bb, ob, none⟩) 4 4][0]? = some _ from rfl) rfl) rfl ?_)
                    exact ((hN _ _ _ _ _).1 N13).sub [] (by decide) rfl ⟨rfl, rfl, rfl, rfl, rfl, rfl, rfl, rfl, rfl, rfl, rfl, rfl, rfl, trivial⟩
                have N8 : N (Cx.it Tryd.prog 25 Keep W (J ((([] ++ [x0]) ++ [x1]) ++ [x2])) (hJ _)) [(20, .pointer (some ⟨bb, (ob + 3), none⟩)), (19, .int .i64 3), (18, .slice (some ⟨bb, ob, none⟩) 4 4), (15, .int .i64 3), (13, .func (.yield lp) #[] #[]), (4, .int .i64 3), (10, .int .i64 3), (9, .int .i64 4), (0, .func (.yield lp) #[] #[]), (1, .pointer (some ⟨b1, 0, none⟩)), (2, .pointer (some ⟨b2, 0, none⟩))] [] 6 #[true, false, true, false, false, true, true, true, false, false, false] := by
                  refine (hN _ _ _ _ _).2 ?_
                  refine Tr.any 1 [8] (by kernel_rfl) ⟨⟨_, rfl, ?_⟩, ⟨_, rfl, ?_⟩, trivial⟩
                  · skip
                    refine Tr.one rfl (Tr.load1 F.ty86 rfl (q1.toCell (fun h => h k1) (show [.slice (some ⟨ba, oa, none⟩) 4 4][0]? = some _ from rfl) rfl) rfl ?_)
                    exact ((hN _ _ _ _ _).1 N11).sub [] (by decide) rfl ⟨rfl, rfl, rfl, rfl, rfl, rfl, rfl, rfl, rfl, rfl, rfl, rfl, trivial⟩
                  · skip
                    refine Tr.one rfl (Tr.load1 F.ty2 rfl (q4.toCell (fun h => h k4) (show [.int .i64 x0.1.2, .int .i64 x1.1.2, .int .i64 x2.1.2, .int .i64 x3.1.2][3]? = some _ from rfl) rfl) rfl ?_)
                    exact ((hN _ _ _ _ _).1 N12).sub [] (by decide) rfl ⟨rfl, rfl, rfl, rfl, rfl, rfl, rfl, rfl, rfl, rfl, rfl, rfl, trivial⟩
                have N7 : N (Cx.it Tryd.prog 25 Keep W (J ((([] ++ [x0]) ++ [x1]) ++ [x2])) (hJ _)) [(19, .int .i64 3), (18, .slice (some ⟨bb, ob, none⟩) 4 4), (15, .int .i64 3), (14, .slice (some ⟨ba, oa, none⟩) 4 4), (13, .func (.yield lp) #[] #[]), (4, .int .i64 3), (10, .int .i64 3), (9, .int .i64 4), (0, .func (.yield lp) #[] #[]), (1, .pointer (some ⟨b1, 0, none⟩)), (2, .pointer (some ⟨b2, 0, none⟩))] [] 6 #[true, true, true, false, false, true, true, false, false, false, false] := by
                  refine (hN _ _ _ _ _).2 ?_
                  refine Tr.any 3 [7] (by kernel_rfl) ⟨⟨_, rfl, ?_⟩, ⟨_, rfl, ?_⟩, trivial⟩
                  · skip
                    refine Tr.one rfl (Tr.indexSlice (o' := (oa + 3)) F.sli86 rfl rfl (by decide) (by decide) (rfl) rfl ?_)
                    exact ((hN _ _ _ _ _).1 N10).sub [] (by decide) rfl ⟨rfl, rfl, rfl, rfl, rfl, rfl, rfl, rfl, rfl, rfl, rfl, rfl, trivial⟩
                  · skip
                    refine Tr.one rfl (Tr.indexSlice (o' := (ob + 3)) F.sli86 rfl rfl (by decide) (by decide) (rfl) rfl ?_)
                    exact ((hN _ _ _ _ _).1 N11).sub [] (by decide) rfl ⟨rfl, rfl, rfl, rfl, rfl, rfl, rfl, rfl, rfl, rfl, rfl, rfl, trivial⟩
                have N6 : N (Cx.it Tryd.prog 25 Keep W (J ((([] ++ [x0]) ++ [x1]) ++ [x2])) (hJ _)) [(19, .int .i64 3), (16, .pointer (some ⟨ba, (oa + 3), none⟩)), (15, .int .i64 3), (14, .slice (some ⟨ba, oa, none⟩) 4 4), (13, .func (.yield lp) #[] #[]), (4, .int .i64 3), (10, .int .i64 3), (9, .int .i64 4), (0, .func (.yield lp) #[] #[]), (1, .pointer (some ⟨b1, 0, none⟩)), (2, .pointer (some ⟨b2, 0, none⟩))] [] 6 #[true, true, true, true, false, false, true, false, false, false, false] := by
                  refine (hN _ _ _ _ _).2 ?_
                  refine Tr.any 4 [5] (by kernel_rfl) ⟨⟨_, rfl, ?_⟩, ⟨_, rfl, ?_⟩, trivial⟩
                  · skip
                    refine Tr.one rfl (Tr.load1 F.ty2 rfl (q3.toCell (fun h => h k3) (show [.int .i64 x0.1.1, .int .i64 x1.1.1, .int .i64 x2.1.1, .int .i64 x3.1.1][3]? = some _ from rfl) rfl) rfl ?_)
                    exact ((hN _ _ _ _ _).1 N9).sub [] (by decide) rfl ⟨rfl, rfl, rfl, rfl, rfl, rfl, rfl, rfl, rfl, rfl, rfl, rfl, trivial⟩
                  · skip
                    refine Tr.one rfl (Tr.load1 F.ty86 rfl (q2.toCell (fun h => h k2) (show [.slice (some ⟨bb, ob, none⟩) 4 4][0]? = some _ from rfl) rfl) rfl ?_)
                    exact ((hN _ _ _ _ _).1 N10).sub [] (by decide) rfl ⟨rfl, rfl, rfl, rfl, rfl, rfl, rfl, rfl, rfl, rfl, rfl, rfl, trivial⟩
                have N5 : N (Cx.it Tryd.prog 25 Keep W (J ((([] ++ [x0]) ++ [x1]) ++ [x2])) (hJ _)) [(19, .int .i64 3), (18, .slice (some ⟨bb, ob, none⟩) 4 4), (15, .int .i64 3), (13, .func (.yield lp) #[] #[]), (4, .int .i64 3), (10, .int .i64 3), (9, .int .i64 4), (0, .func (.yield lp) #[] #[]), (1, .pointer (some ⟨b1, 0, none⟩)), (2, .pointer (some ⟨b2, 0, none⟩))] [] 7 #[true, false, true, false, false, true, true, false, false, false, false] := by
                  refine (hN _ _ _ _ _).2 ?_
                  refine Tr.any 1 [7] (by kernel_rfl) ⟨⟨_, rfl, ?_⟩, ⟨_, rfl, ?_⟩, trivial⟩
                  · skip
                    refine Tr.one rfl (Tr.load1 F.ty86 rfl (q1.toCell (fun h => h k1) (show [.slice (some ⟨ba, oa, none⟩) 4 4][0]? = some _ from rfl) rfl) rfl ?_)
                    exact ((hN _ _ _ _ _).1 N7).sub [] (by decide) rfl ⟨rfl, rfl, rfl, rfl, rfl, rfl, rfl, rfl, rfl, rfl, rfl, trivial⟩
                  · skip
                    refine Tr.one rfl (Tr.indexSlice (o' := (ob + 3)) F.sli86 rfl rfl (by decide) (by decide) (rfl) rfl ?_)
                    exact ((hN _ _ _ _ _).1 N8).sub [] (by decide) rfl ⟨rfl, rfl, rfl, rfl, rfl, rfl, rfl, rfl, rfl, rfl, rfl, trivial⟩
                have N4 : N (Cx.it Tryd.prog 25 Keep W (J ((([] ++ [x0]) ++ [x1]) ++ [x2])) (hJ _)) [(19, .int .i64 3), (15, .int .i64 3), (14, .slice (some ⟨ba, oa, none⟩) 4 4), (13, .func (.yield lp) #[] #[]), (4, .int .i64 3), (10, .int .i64 3), (9, .int .i64 4), (0, .func (.yield lp) #[] #[]), (1, .pointer (some ⟨b1, 0, none⟩)), (2, .pointer (some ⟨b2, 0, none⟩))] [] 7 #[true, true, true, false, false, false, true, false, false, false, false] := by
                  refine (hN _ _ _ _ _).2 ?_
                  refine Tr.any 3 [5] (by kernel_rfl) ⟨⟨_, rfl, ?_⟩, ⟨_, rfl, ?_⟩, trivial⟩
                  · skip
                    refine Tr.one rfl (Tr.indexSlice (o' := (oa + 3)) F.sli86 rfl rfl (by decide) (by decide) (rfl) rfl ?_)
                    exact ((hN _ _ _ _ _).1 N6).sub [] (by decide) rfl ⟨rfl, rfl, rfl, rfl, rfl, rfl, rfl, rfl, rfl, rfl, rfl, trivial⟩
                  · skip
                    refine Tr.one rfl (Tr.load1 F.ty86 rfl (q2.toCell (fun h => h k2) (show [.slice (some ⟨bb, ob, none⟩) 4 4][0]? = some _ from rfl) rfl) rfl ?_)
                    exact ((hN _ _ _ _ _).1 N7).sub [] (by decide) rfl ⟨rfl, rfl, rfl, rfl, rfl, rfl, rfl, rfl, rfl, rfl, rfl, trivial⟩
                have N3 : N (Cx.it Tryd.prog 25 Keep W (J ((([] ++ [x0]) ++ [x1]) ++ [x2])) (hJ _)) [(19, .int .i64 3), (15, .int .i64 3), (13, .func (.yield lp) #[] #[]), (4, .int .i64 3), (10, .int .i64 3), (9, .int .i64 4), (0, .func (.yield lp) #[] #[]), (1, .pointer (some ⟨b1, 0, none⟩)), (2, .pointer (some ⟨b2, 0, none⟩))] [] 8 #[true, false, true, false, false, false, true, false, false, false, false] := by
                  refine (hN _ _ _ _ _).2 ?_
                  refine Tr.any 1 [5] (by kernel_rfl) ⟨⟨_, rfl, ?_⟩, ⟨_, rfl, ?_⟩, trivial⟩
                  · skip
                    refine Tr.one rfl (Tr.load1 F.ty86 rfl (q1.toCell (fun h => h k1) (show [.slice (some ⟨ba, oa, none⟩) 4 4][0]? = some _ from rfl) rfl) rfl ?_)
                    exact ((hN _ _ _ _ _).1 N4).sub [] (by decide) rfl ⟨rfl, rfl, rfl, rfl, rfl, rfl, rfl, rfl, rfl, rfl, trivial⟩
                  · skip
                    refine Tr.one rfl (Tr.load1 F.ty86 rfl (q2.toCell (fun h => h k2) (show [.slice (some ⟨bb, ob, none⟩) 4 4][0]? = some _ from rfl) rfl) rfl ?_)
                    exact ((hN _ _ _ _ _).1 N5).sub [] (by decide) rfl ⟨rfl, rfl, rfl, rfl, rfl, rfl, rfl, rfl, rfl, rfl, trivial⟩
                have N2 : N (Cx.it Tryd.prog 25 Keep W (J ((([] ++ [x0]) ++ [x1]) ++ [x2])) (hJ _)) [(15, .int .i64 3), (13, .func (.yield lp) #[] #[]), (4, .int .i64 3), (10, .int .i64 3), (9, .int .i64 4), (0, .func (.yield lp) #[] #[]), (1, .pointer (some ⟨b1, 0, none⟩)), (2, .pointer (some ⟨b2, 0, none⟩))] [] 9 #[true, false, true, false, false, false, false, false, false, false, false] := by
                  refine (hN _ _ _ _ _).2 ?_
                  refine Tr.take 6 (.int .i64 3) rfl (by kernel_rfl) (by kernel_rfl) (by kernel_rfl) rfl rfl rfl rfl ?_
                  exact ((hN _ _ _ _ _).1 N3).sub [] (by decide) rfl ⟨rfl, rfl, rfl, rfl, rfl, rfl, rfl, rfl, rfl, trivial⟩
                have N1 : N (Cx.it Tryd.prog 25 Keep W (J ((([] ++ [x0]) ++ [x1]) ++ [x2])) (hJ _)) [(13, .func (.yield lp) #[] #[]), (4, .int .i64 3), (10, .int .i64 3), (9, .int .i64 4), (0, .func (.yield lp) #[] #[]), (1, .pointer (some ⟨b1, 0, none⟩)), (2, .pointer (some ⟨b2, 0, none⟩))] [] 10 #[true, false, false, false, false, false, false, false, false, false, false] := by
                  refine (hN _ _ _ _ _).2 ?_
                  refine Tr.take 2 (.int .i64 3) rfl (by kernel_rfl) (by kernel_rfl) (by kernel_rfl) rfl rfl rfl rfl ?_
                  exact ((hN _ _ _ _ _).1 N2).sub [] (by decide) rfl ⟨rfl, rfl, rfl, rfl, rfl, rfl, rfl, rfl, trivial⟩
                have N0 : N (Cx.it Tryd.prog 25 Keep W (J ((([] ++ [x0]) ++ [x1]) ++ [x2])) (hJ _)) [(4, .int .i64 3), (10, .int .i64 3), (9, .int .i64 4), (0, .func (.yield lp) #[] #[]), (1, .pointer (some ⟨b1, 0, none⟩)), (2, .pointer (some ⟨b2, 0, none⟩))] [] 11 #[false, false, false, false, false, false, false, false, false, false, false] := by
                  refine (hN _ _ _ _ _).2 ?_
                  refine Tr.take 0 (.func (.yield lp) #[] #[]) rfl (by kernel_rfl) (by kernel_rfl) (by kernel_rfl) rfl rfl rfl rfl ?_
                  exact ((hN _ _ _ _ _).1 N1).sub [] (by decide) rfl ⟨rfl, rfl, rfl, rfl, rfl, rfl, rfl, trivial⟩
                exact (hN _ _ _ _ _).2 (((hN _ _ _ _ _).1 N0).sub [] (by decide) rfl ⟨rfl, rfl, rfl, rfl, rfl, rfl, trivial⟩)
              · rintro y; cases y with
                | none =>
                  refine Tr.thenN ?_
                  refine Tr.not rfl ?_
                  refine Tr.skip ?_
                  refine Tr.blockN ?_
                  refine Tr.thenN ?_
                  refine Tr.region ?_
                  refine Tr.step rfl (Tr.valE (.int .i64 4) rfl (rfl) rfl ?_)
                  refine Tr.step rfl (Tr.val rfl rfl ?_)
                  refine Tr.nil ?_
                  refine Tr.thenN ?_
                  refine Tr.sub (l' := [(10, .int .i64 4), (9, .int .i64 4), (0, .func (.yield lp) #[] #[]), (1, .pointer (some ⟨b1, 0, none⟩)), (2, .pointer (some ⟨b2, 0, none⟩))]) (h' := []) ?_ [] (by decide) rfl ⟨rfl, rfl, rfl, rfl, rfl, trivial⟩
                  refine Tr.roundU ?_
                  refine Tr.seq ?_
                  refine Tr.region ?_
                  refine Tr.step rfl (Tr.valE (.bool false) rfl rfl rfl ?_)
                  refine Tr.nil ?_
                  refine Tr.thenN ?_
                  refine Tr.seq ?_
                  refine Tr.not rfl ?_
                  refine Tr.exit ?_
                  refine Tr.thenE ?_
                  refine Tr.thenE ?_
                  refine Tr.blockHit ?_
                  refine Tr.leaveN rfl rfl ?_
                  exact Tr.itDone rfl (rfl)
                | some w' =>
                  refine Tr.thenN ?_
                  refine Tr.yes rfl ?_
                  refine Tr.ret ?_
                  refine Tr.blockR ?_
                  refine Tr.thenR ?_
                  refine Tr.thenR ?_
                  refine Tr.blockR ?_
                  refine Tr.leave rfl rfl ?_
                  exact Tr.itOver rfl (⟨[], rfl⟩)
            | some w' =>
              refine Tr.thenN ?_
              refine Tr.yes rfl ?_
              refine Tr.ret ?_
              refine Tr.blockR ?_
              refine Tr.thenR ?_
              refine Tr.thenR ?_
              refine Tr.blockR ?_
              refine Tr.leave rfl rfl ?_
              exact Tr.itOver rfl (⟨[x3], rfl⟩)
        | some w' =>
          refine Tr.thenN ?_
          refine Tr.yes rfl ?_
          refine Tr.ret ?_
          refine Tr.blockR ?_
          refine Tr.thenR ?_
          refine Tr.thenR ?_
          refine Tr.blockR ?_
          refine Tr.leave rfl rfl ?_
          exact Tr.itOver rfl (⟨[x2, x3], rfl⟩)
    | some w' =>
      refine Tr.thenN ?_
      refine Tr.yes rfl ?_
      refine Tr.ret ?_
      refine Tr.blockR ?_
      refine Tr.thenR ?_
      refine Tr.thenR ?_
      refine Tr.blockR ?_
      refine Tr.leave rfl rfl ?_
      exact Tr.itOver rfl (⟨[x1, x2, x3], rfl⟩)

set_option maxRecDepth 100000 in
set_option maxHeartbeats 4000000 in
theorem sum_wide (ba oa bb ob : Nat) (x0 x1 x2 x3 : BP) (w : World)
    (ra : Row w ba oa [.int .i64 x0.1.1, .int .i64 x1.1.1, .int .i64 x2.1.1, .int .i64 x3.1.1]) (rb : Row w bb ob [.int .i64 x0.1.2, .int .i64 x1.1.2, .int .i64 x2.1.2, .int .i64 x3.1.2]) :
    Calls Tryd.prog 37 #[.slice (some ⟨ba, oa, none⟩) 4 4, .slice (some ⟨bb, ob, none⟩) 4 4] w (Gives (.tuple #[wv (dot [x0, x1, x2, x3]), .int .i64 0]) w) := by
  refine calls_enter No Tryd.func37 rfl rfl rfl rfl ?_
  refine Tr.seq ?_
  refine Tr.region ?_
  refine Tr.step rfl (Tr.alloc F.ty83 rfl rfl ?_)
  rintro u1
  refine Tr.step rfl (Tr.val rfl rfl ?_)
  refine Tr.nil ?_
  refine Tr.thenN ?_
  refine Tr.scope ?_
  refine Tr.seq ?_
  refine Tr.region ?_
  refine Tr.step rfl (Tr.alloc F.ty83 rfl rfl ?_)
  rintro u2
  refine Tr.nil ?_
  refine Tr.thenN ?_
  refine Tr.seq ?_
  refine Tr.region ?_
  refine Tr.step rfl (Tr.alloc F.ty42 rfl rfl ?_)
  rintro u3
  refine Tr.step rfl (Tr.store 0 F.ty42 rfl rfl rfl rfl rfl rfl rfl rfl rfl rfl ?_)
  refine Tr.nil ?_
  refine Tr.thenN ?_
  refine Tr.seq ?_
  refine Tr.label ?_
  refine Tr.thenN ?_
  refine Tr.seq ?_
  refine Tr.seq ?_
  refine Tr.region ?_
  refine Tr.step rfl (Tr.val rfl rfl ?_)
  refine Tr.step rfl (Tr.val rfl rfl ?_)
  refine Tr.step rfl (Tr.callX (X := Nat × Nat) (fun ⟨p1, p2⟩ => .func (.func 51) #[] #[.pointer (some ⟨p1, 0, none⟩), .pointer (some ⟨p2, 0, none⟩)]) (fun ⟨p1, p2⟩ => [(p1, .cells #[.slice (some ⟨ba, oa, none⟩) 4 4] 86), (p2, .cells #[.slice (some ⟨bb, ob, none⟩) 4 4] 86)]) (fun ⟨p1, p2⟩ => True) F.en43 rfl (fun w hw => (pairs_any _ _ _ _ _ _ w).mono fun e w1 ⟨x, q⟩ => ⟨x, q.1, q.2.1, q.2.2, trivial⟩) rfl ?_)
  rintro ⟨p1, p2⟩ _
  refine Tr.nil ?_
  refine Tr.thenN ?_
  refine Tr.block ?_
  refine Tr.sub (l' := [(12, .func (.func 51) #[] #[.pointer (some ⟨p1, 0, none⟩), .pointer (some ⟨p2, 0, none⟩)]), (7, .pointer (some ⟨u3, 0, none⟩)), (6, .pointer (some ⟨u2, 0, none⟩)), (4, .pointer (some ⟨u1, 0, none⟩))]) (h' := [(p1, .cells #[.slice (some ⟨ba, oa, none⟩) 4 4] 86), (p2, .cells #[.slice (some ⟨bb, ob, none⟩) 4 4] 86), (u3, .cells #[.int .i64 0] 42), (u2, .cells #[.int .i64 0, .int .u64 0] 83), (u1, .cells #[.int .i64 0, .int .u64 0] 83)]) ?_ [0, 1, 2, 3, 4] (by decide) rfl ⟨rfl, rfl, rfl, rfl, trivial⟩
  refine Tr.range (α := BP) (Y := Unit) (encs := fun x => #[.int .i64 x.1.1, .int .i64 x.1.2]) [x0, x1, x2, x3] rfl (fun _ => trivial) rfl F.en51 (fun _ => rfl) rfl (fun pre => [(u2, .cells #[.int .i64 (hiW (dot pre)), .int .u64 (loW (dot pre) : Int)] 83), (u3, .cells #[.int .i64 0] 42)]) [(p1, .cells #[.slice (some ⟨ba, oa, none⟩) 4 4] 86), (p2, .cells #[.slice (some ⟨bb, ob, none⟩) 4 4] 86), (u1, .cells #[.int .i64 0, .int .u64 0] 83)] [u2, u3] (fun _ pre => [(u2, .cells #[.int .i64 (hiW (dot pre)), .int .u64 (loW (dot pre) : Int)] 83), (u3, .cells #[.int .i64 0] 42)]) (fun e pre => False) (fun pre => True) (trivial) (fun _ => rfl) (fun _ _ => rfl) (fun _ => rfl) (fun w hw => pairs_iter p1 p2 ba oa bb ob x0 x1 x2 x3 w _ (fun _ h => h.1) (hw.keep 0 [3, 2] rfl rfl rfl) (hw.keep 1 [3, 2] rfl rfl rfl) (hw.keepOld rfl [3, 2] ra.lt rfl rfl) (hw.keepOld rfl [3, 2] rb.lt rfl rfl) (hw.get (k := 0) rfl) (hw.get (k := 1) rfl) (ra.call hw.fm) (rb.call hw.fm)) [3, 2, 0, 1, 4] (by decide) (rfl) (fun x _ => [(9, .int .i64 x.1.2), (8, .int .i64 x.1.1), (7, .pointer (some ⟨u3, 0, none⟩)), (6, .pointer (some ⟨u2, 0, none⟩))]) (fun x _ => []) (fun _ _ => rfl) ?_ ?_ ?_ ?_
  · rintro lp pre x W hI
    refine Tr.seq ?_
    refine Tr.region ?_
    refine Tr.step rfl (Tr.val rfl rfl ?_)
    refine Tr.nil ?_
    refine Tr.thenN ?_
    refine Tr.region ?_
    refine Tr.step rfl (Tr.val rfl rfl ?_)
    refine Tr.nil ?_
    exact Tr.assigned () rfl [0, 1, 2, 3, 4] (by decide) rfl ⟨rfl, rfl, rfl, rfl, trivial⟩ rfl
  · rintro lp pre x _ W hI hlen hΦ
    have hd1 : is128 (dot pre) := dot_128 pre (by simp at hlen; omega)
    have hd2 : is128 (x.1.1 * x.1.2) := mul_128 x
    have hd3 : is128 (dot pre + x.1.1 * x.1.2) := by have := dot_128 (pre ++ [x]) (by simp at hlen ⊢; omega); rwa [dot_snoc] at this
    refine Tr.block ?_
    refine Tr.seq ?_
    refine Tr.drawG (Y := Unit) (fun _ => [(22, .int .i64 0), (21, .agg #[.int .i64 (hiW (dot pre + x.1.1 * x.1.2)), .int .u64 (loW (dot pre + x.1.1 * x.1.2) : Int)]), (15, .tuple #[.agg #[.int .i64 (hiW (dot pre + x.1.1 * x.1.2)), .int .u64 (loW (dot pre + x.1.1 * x.1.2) : Int)], .int .i64 0]), (20, .tuple #[.agg #[.int .i64 (hiW (dot pre + x.1.1 * x.1.2)), .int .u64 (loW (dot pre + x.1.1 * x.1.2) : Int)], .int .i64 0]), (19, .agg #[.int .i64 (hiW (x.1.1 * x.1.2)), .int .u64 (loW (x.1.1 * x.1.2) : Int)]), (18, .int .i64 x.1.2), (17, .int .i64 x.1.1), (16, .agg #[.int .i64 (hiW (dot pre)), .int .u64 (loW (dot pre) : Int)]), (9, .int .i64 x.1.2), (8, .int .i64 x.1.1), (7, .pointer (some ⟨u3, 0, none⟩)), (6, .pointer (some ⟨u2, 0, none⟩))]) (fun _ => [(u2, .cells #[.int .i64 (hiW (dot pre + x.1.1 * x.1.2)), .int .u64 (loW (dot pre + x.1.1 * x.1.2) : Int)] 83), (u3, .cells #[.int .i64 0] 42), (p1, .cells #[.slice (some ⟨ba, oa, none⟩) 4 4] 86), (p2, .cells #[.slice (some ⟨bb, ob, none⟩) 4 4] 86), (u1, .cells #[.int .i64 0, .int .u64 0] 83)]) F.mixed ?_ ?_
    · intro K N hN tE
      have N11 : N [(22, .int .i64 0), (21, .agg #[.int .i64 (hiW (dot pre + x.1.1 * x.1.2)), .int .u64 (loW (dot pre + x.1.1 * x.1.2) : Int)]), (15, .tuple #[.agg #[.int .i64 (hiW (dot pre + x.1.1 * x.1.2)), .int .u64 (loW (dot pre + x.1.1 * x.1.2) : Int)], .int .i64 0]), (20, .tuple #[.agg #[.int .i64 (hiW (dot pre + x.1.1 * x.1.2)), .int .u64 (loW (dot pre + x.1.1 * x.1.2) : Int)], .int .i64 0]), (19, .agg #[.int .i64 (hiW (x.1.1 * x.1.2)), .int .u64 (loW (x.1.1 * x.1.2) : Int)]), (18, .int .i64 x.1.2), (17, .int .i64 x.1.1), (16, .agg #[.int .i64 (hiW (dot pre)), .int .u64 (loW (dot pre) : Int)]), (9, .int .i64 x.1.2), (8, .int .i64 x.1.1), (7, .pointer (some ⟨u3, 0, none⟩)), (6, .pointer (some ⟨u2, 0, none⟩))] [(u2, .cells #[.int .i64 (hiW (dot pre + x.1.1 * x.1.2)), .int .u64 (loW (dot pre + x.1.1 * x.1.2) : Int)] 83), (u3, .cells #[.int .i64 0] 42), (p1, .cells #[.slice (some ⟨ba, oa, none⟩) 4 4] 86), (p2, .cells #[.slice (some ⟨bb, ob, none⟩) 4 4] 86), (u1, .cells #[.int .i64 0, .int .u64 0] 83)] 0 #[true, true, true, true, true, true, true, true, true, true] := by
        refine (hN _ _ _ _).2 ?_
        exact Tr.anyEnd (by kernel_rfl) (tE ())
      have N10 : N [(22, .int .i64 0), (21, .agg #[.int .i64 (hiW (dot pre + x.1.1 * x.1.2)), .int .u64 (loW (dot pre + x.1.1 * x.1.2) : Int)]), (15, .tuple #[.agg #[.int .i64 (hiW (dot pre + x.1.1 * x.1.2)), .int .u64 (loW (dot pre + x.1.1 * x.1.2) : Int)], .int .i64 0]), (20, .tuple #[.agg #[.int .i64 (hiW (dot pre + x.1.1 * x.1.2)), .int .u64 (loW (dot pre + x.1.1 * x.1.2) : Int)], .int .i64 0]), (19, .agg #[.int .i64 (hiW (x.1.1 * x.1.2)), .int .u64 (loW (x.1.1 * x.1.2) : Int)]), (18, .int .i64 x.1.2), (17, .int .i64 x.1.1), (16, .agg #[.int .i64 (hiW (dot pre)), .int .u64 (loW (dot pre) : Int)]), (9, .int .i64 x.1.2), (8, .int .i64 x.1.1), (7, .pointer (some ⟨u3, 0, none⟩)), (6, .pointer (some ⟨u2, 0, none⟩))] [(u2, .cells #[.int .i64 (hiW (dot pre + x.1.1 * x.1.2)), .int .u64 (loW (dot pre + x.1.1 * x.1.2) : Int)] 83), (u3, .cells #[.int .i64 0] 42), (p1, .cells #[.slice (some ⟨ba, oa, none⟩) 4 4] 86), (p2, .cells #[.slice (some ⟨bb, ob, none⟩) 4 4] 86), (u1, .cells #[.int .i64 0, .int .u64 0] 83)] 1 #[true, true, true, true, true, true, true, true, true, false] := by
        refine (hN _ _ _ _).2 ?_
        refine Tr.any 9 [] (by kernel_rfl) ⟨⟨_, rfl, ?_⟩, trivial⟩
        · skip
          refine Tr.one rfl (Tr.store 1 F.ty42 rfl rfl rfl rfl rfl rfl rfl rfl rfl rfl ?_)
          exact ((hN _ _ _ _).1 (N11)).sub [0, 1, 2, 3, 4] (by decide) rfl ⟨rfl, rfl, rfl, rfl, rfl, rfl, rfl, rfl, rfl, rfl, rfl, rfl, trivial⟩
      have N9 : N [(22, .int .i64 0), (21, .agg #[.int .i64 (hiW (dot pre + x.1.1 * x.1.2)), .int .u64 (loW (dot pre + x.1.1 * x.1.2) : Int)]), (15, .tuple #[.agg #[.int .i64 (hiW (dot pre + x.1.1 * x.1.2)), .int .u64 (loW (dot pre + x.1.1 * x.1.2) : Int)], .int .i64 0]), (20, .tuple #[.agg #[.int .i64 (hiW (dot pre + x.1.1 * x.1.2)), .int .u64 (loW (dot pre + x.1.1 * x.1.2) : Int)], .int .i64 0]), (19, .agg #[.int .i64 (hiW (x.1.1 * x.1.2)), .int .u64 (loW (x.1.1 * x.1.2) : Int)]), (18, .int .i64 x.1.2), (17, .int .i64 x.1.1), (16, .agg #[.int .i64 (hiW (dot pre)), .int .u64 (loW (dot pre) : Int)]), (9, .int .i64 x.1.2), (8, .int .i64 x.1.1), (7, .pointer (some ⟨u3, 0, none⟩)), (6, .pointer (some ⟨u2, 0, none⟩))] [(u2, .cells #[.int .i64 (hiW (dot pre)), .int .u64 (loW (dot pre) : Int)] 83), (u3, .cells #[.int .i64 0] 42), (p1, .cells #[.slice (some ⟨ba, oa, none⟩) 4 4] 86), (p2, .cells #[.slice (some ⟨bb, ob, none⟩) 4 4] 86), (u1, .cells #[.int .i64 0, .int .u64 0] 83)] 2 #[true, true, true, true, true, true, true, true, false, false] := by
        refine (hN _ _ _ _).2 ?_
        refine Tr.any 8 [] (by kernel_rfl) ⟨⟨_, rfl, ?_⟩, trivial⟩
        · skip
          refine Tr.one rfl (Tr.store 0 F.ty83 rfl rfl rfl rfl rfl rfl rfl rfl rfl rfl ?_)
          exact ((hN _ _ _ _).1 (N10)).sub [0, 1, 2, 3, 4] (by decide) rfl ⟨rfl, rfl, rfl, rfl, rfl, rfl, rfl, rfl, rfl, rfl, rfl, rfl, trivial⟩
      have N8 : N [(21, .agg #[.int .i64 (hiW (dot pre + x.1.1 * x.1.2)), .int .u64 (loW (dot pre + x.1.1 * x.1.2) : Int)]), (15, .tuple #[.agg #[.int .i64 (hiW (dot pre + x.1.1 * x.1.2)), .int .u64 (loW (dot pre + x.1.1 * x.1.2) : Int)], .int .i64 0]), (20, .tuple #[.agg #[.int .i64 (hiW (dot pre + x.1.1 * x.1.2)), .int .u64 (loW (dot pre + x.1.1 * x.1.2) : Int)], .int .i64 0]), (19, .agg #[.int .i64 (hiW (x.1.1 * x.1.2)), .int .u64 (loW (x.1.1 * x.1.2) : Int)]), (18, .int .i64 x.1.2), (17, .int .i64 x.1.1), (16, .agg #[.int .i64 (hiW (dot pre)), .int .u64 (loW (dot pre) : Int)]), (9, .int .i64 x.1.2), (8, .int .i64 x.1.1), (7, .pointer (some ⟨u3, 0, none⟩)), (6, .pointer (some ⟨u2, 0, none⟩))] [(u2, .cells #[.int .i64 (hiW (dot pre)), .int .u64 (loW (dot pre) : Int)] 83), (u3, .cells #[.int .i64 0] 42), (p1, .cells #[.slice (some ⟨ba, oa, none⟩) 4 4] 86), (p2, .cells #[.slice (some ⟨bb, ob, none⟩) 4 4] 86), (u1, .cells #[.int .i64 0, .int .u64 0] 83)] 3 #[true, true, true, true, true, true, true, false, false, false] := by
        refine (hN _ _ _ _).2 ?_
        refine Tr.take 7 (.int .i64 0) rfl (by kernel_rfl) (by kernel_rfl) (by kernel_rfl) rfl rfl rfl rfl ?_
        exact ((hN _ _ _ _).1 (N9)).sub [0, 1, 2, 3, 4] (by decide) rfl ⟨rfl, rfl, rfl, rfl, rfl, rfl, rfl, rfl, rfl, rfl, rfl, rfl, trivial⟩
      have N7 : N [(15, .tuple #[.agg #[.int .i64 (hiW (dot pre + x.1.1 * x.1.2)), .int .u64 (loW (dot pre + x.1.1 * x.1.2) : Int)], .int .i64 0]), (20, .tuple #[.agg #[.int .i64 (hiW (dot pre + x.1.1 * x.1.2)), .int .u64 (loW (dot pre + x.1.1 * x.1.2) : Int)], .int .i64 0]), (19, .agg #[.int .i64 (hiW (x.1.1 * x.1.2)), .int .u64 (loW (x.1.1 * x.1.2) : Int)]), (18, .int .i64 x.1.2), (17, .int .i64 x.1.1), (16, .agg #[.int .i64 (hiW (dot pre)), .int .u64 (loW (dot pre) : Int)]), (9, .int .i64 x.1.2), (8, .int .i64 x.1.1), (7, .pointer (some ⟨u3, 0, none⟩)), (6, .pointer (some ⟨u2, 0, none⟩))] [(u2, .cells #[.int .i64 (hiW (dot pre)), .int .u64 (loW (dot pre) : Int)] 83), (u3, .cells #[.int .i64 0] 42), (p1, .cells #[.slice (some ⟨ba, oa, none⟩) 4 4] 86), (p2, .cells #[.slice (some ⟨bb, ob, none⟩) 4 4] 86), (u1, .cells #[.int .i64 0, .int .u64 0] 83)] 4 #[true, true, true, true, true, true, false, false, false, false] := by
        refine (hN _ _ _ _).2 ?_
        refine Tr.take 6 (.agg #[.int .i64 (hiW (dot pre + x.1.1 * x.1.2)), .int .u64 (loW (dot pre + x.1.1 * x.1.2) : Int)]) rfl (by kernel_rfl) (by kernel_rfl) (by kernel_rfl) rfl rfl rfl rfl ?_
        exact ((hN _ _ _ _).1 (N8)).sub [0, 1, 2, 3, 4] (by decide) rfl ⟨rfl, rfl, rfl, rfl, rfl, rfl, rfl, rfl, rfl, rfl, rfl, trivial⟩
      have N6 : N [(20, .tuple #[.agg #[.int .i64 (hiW (dot pre + x.1.1 * x.1.2)), .int .u64 (loW (dot pre + x.1.1 * x.1.2) : Int)], .int .i64 0]), (19, .agg #[.int .i64 (hiW (x.1.1 * x.1.2)), .int .u64 (loW (x.1.1 * x.1.2) : Int)]), (18, .int .i64 x.1.2), (17, .int .i64 x.1.1), (16, .agg #[.int .i64 (hiW (dot pre)), .int .u64 (loW (dot pre) : Int)]), (9, .int .i64 x.1.2), (8, .int .i64 x.1.1), (7, .pointer (some ⟨u3, 0, none⟩)), (6, .pointer (some ⟨u2, 0, none⟩))] [(u2, .cells #[.int .i64 (hiW (dot pre)), .int .u64 (loW (dot pre) : Int)] 83), (u3, .cells #[.int .i64 0] 42), (p1, .cells #[.slice (some ⟨ba, oa, none⟩) 4 4] 86), (p2, .cells #[.slice (some ⟨bb, ob, none⟩) 4 4] 86), (u1, .cells #[.int .i64 0, .int .u64 0] 83)] 5 #[true, true, true, true, true, false, false, false, false, false] := by
        refine (hN _ _ _ _).2 ?_
        refine Tr.take 5 (.tuple #[.agg #[.int .i64 (hiW (dot pre + x.1.1 * x.1.2)), .int .u64 (loW (dot pre + x.1.1 * x.1.2) : Int)], .int .i64 0]) rfl (by kernel_rfl) (by kernel_rfl) (by kernel_rfl) rfl rfl rfl rfl ?_
        exact ((hN _ _ _ _).1 (N7)).sub [0, 1, 2, 3, 4] (by decide) rfl ⟨rfl, rfl, rfl, rfl, rfl, rfl, rfl, rfl, rfl, rfl, trivial⟩
      have N5 : N [(19, .agg #[.int .i64 (hiW (x.1.1 * x.1.2)), .int .u64 (loW (x.1.1 * x.1.2) : Int)]), (18, .int .i64 x.1.2), (17, .int .i64 x.1.1), (16, .agg #[.int .i64 (hiW (dot pre)), .int .u64 (loW (dot pre) : Int)]), (9, .int .i64 x.1.2), (8, .int .i64 x.1.1), (7, .pointer (some ⟨u3, 0, none⟩)), (6, .pointer (some ⟨u2, 0, none⟩))] [(u2, .cells #[.int .i64 (hiW (dot pre)), .int .u64 (loW (dot pre) : Int)] 83), (u3, .cells #[.int .i64 0] 42), (p1, .cells #[.slice (some ⟨ba, oa, none⟩) 4 4] 86), (p2, .cells #[.slice (some ⟨bb, ob, none⟩) 4 4] 86), (u1, .cells #[.int .i64 0, .int .u64 0] 83)] 6 #[true, true, true, true, false, false, false, false, false, false] := by
        refine (hN _ _ _ _).2 ?_
        refine Tr.any 4 [] (by kernel_rfl) ⟨⟨_, rfl, ?_⟩, trivial⟩
        · skip
          refine Tr.one rfl (Tr.call (v := .tuple #[.agg #[.int .i64 (hiW (dot pre + x.1.1 * x.1.2)), .int .u64 (loW (dot pre + x.1.1 * x.1.2) : Int)], .int .i64 0]) F.en44 rfl (fun w hw => add_n _ _ hd1 hd2 hd3 w) rfl ?_)
          exact ((hN _ _ _ _).1 (N6)).sub [0, 1, 2, 3, 4] (by decide) rfl ⟨rfl, rfl, rfl, rfl, rfl, rfl, rfl, rfl, rfl, trivial⟩
      have N4 : N [(19, .agg #[.int .i64 (hiW (x.1.1 * x.1.2)), .int .u64 (loW (x.1.1 * x.1.2) : Int)]), (18, .int .i64 x.1.2), (17, .int .i64 x.1.1), (9, .int .i64 x.1.2), (8, .int .i64 x.1.1), (7, .pointer (some ⟨u3, 0, none⟩)), (6, .pointer (some ⟨u2, 0, none⟩))] [(u2, .cells #[.int .i64 (hiW (dot pre)), .int .u64 (loW (dot pre) : Int)] 83), (u3, .cells #[.int .i64 0] 42), (p1, .cells #[.slice (some ⟨ba, oa, none⟩) 4 4] 86), (p2, .cells #[.slice (some ⟨bb, ob, none⟩) 4 4] 86), (u1, .cells #[.int .i64 0, .int .u64 0] 83)] 7 #[false, true, true, true, false, false, false, false, false, false] := by
        refine (hN _ _ _ _).2 ?_
        refine Tr.any 0 [] (by kernel_rfl) ⟨⟨_, rfl, ?_⟩, trivial⟩
        · skip
          refine Tr.one rfl (Tr.loadN (vs := [.int .i64 (hiW (dot pre)), .int .u64 (loW (dot pre) : Int)]) F.ty83 rfl (Cells.own 0 2 rfl rfl) rfl rfl ?_)
          exact ((hN _ _ _ _).1 (N5)).sub [0, 1, 2, 3, 4] (by decide) rfl ⟨rfl, rfl, rfl, rfl, rfl, rfl, rfl, rfl, trivial⟩
      have N3 : N [(18, .int .i64 x.1.2), (17, .int .i64 x.1.1), (16, .agg #[.int .i64 (hiW (dot pre)), .int .u64 (loW (dot pre) : Int)]), (9, .int .i64 x.1.2), (8, .int .i64 x.1.1), (7, .pointer (some ⟨u3, 0, none⟩)), (6, .pointer (some ⟨u2, 0, none⟩))] [(u2, .cells #[.int .i64 (hiW (dot pre)), .int .u64 (loW (dot pre) : Int)] 83), (u3, .cells #[.int .i64 0] 42), (p1, .cells #[.slice (some ⟨ba, oa, none⟩) 4 4] 86), (p2, .cells #[.slice (some ⟨bb, ob, none⟩) 4 4] 86), (u1, .cells #[.int .i64 0, .int .u64 0] 83)] 7 #[true, true, true, false, false, false, false, false, false, false] := by
        refine (hN _ _ _ _).2 ?_
        refine Tr.any 3 [] (by kernel_rfl) ⟨⟨_, rfl, ?_⟩, trivial⟩
        · skip
          refine Tr.one rfl (Tr.call (v := .agg #[.int .i64 (hiW (x.1.1 * x.1.2)), .int .u64 (loW (x.1.1 * x.1.2) : Int)]) F.en45 rfl (fun w hw => mul_n _ _ (by have := x.2; omega) (by have := x.2; omega) (by have := x.2; omega) (by have := x.2; omega) w) rfl ?_)
          exact ((hN _ _ _ _).1 (N5)).sub [0, 1, 2, 3, 4] (by decide) rfl ⟨rfl, rfl, rfl, rfl, rfl, rfl, rfl, rfl, trivial⟩
      have N2 : N [(18, .int .i64 x.1.2), (17, .int .i64 x.1.1), (9, .int .i64 x.1.2), (8, .int .i64 x.1.1), (7, .pointer (some ⟨u3, 0, none⟩)), (6, .pointer (some ⟨u2, 0, none⟩))] [(u2, .cells #[.int .i64 (hiW (dot pre)), .int .u64 (loW (dot pre) : Int)] 83), (u3, .cells #[.int .i64 0] 42), (p1, .cells #[.slice (some ⟨ba, oa, none⟩) 4 4] 86), (p2, .cells #[.slice (some ⟨bb, ob, none⟩) 4 4] 86), (u1, .cells #[.int .i64 0, .int .u64 0] 83)] 8 #[false, true, true, false, false, false, false, false, false, false] := by
        refine (hN _ _ _ _).2 ?_
        refine Tr.any 0 [3] (by kernel_rfl) ⟨⟨_, rfl, ?_⟩, ⟨_, rfl, ?_⟩, trivial⟩
        · skip
          refine Tr.one rfl (Tr.loadN (vs := [.int .i64 (hiW (dot pre)), .int .u64 (loW (dot pre) : Int)]) F.ty83 rfl (Cells.own 0 2 rfl rfl) rfl rfl ?_)
          exact ((hN _ _ _ _).1 (N3)).sub [0, 1, 2, 3, 4] (by decide) rfl ⟨rfl, rfl, rfl, rfl, rfl, rfl, rfl, trivial⟩
        · skip
          refine Tr.one rfl (Tr.call (v := .agg #[.int .i64 (hiW (x.1.1 * x.1.2)), .int .u64 (loW (x.1.1 * x.1.2) : Int)]) F.en45 rfl (fun w hw => mul_n _ _ (by have := x.2; omega) (by have := x.2; omega) (by have := x.2; omega) (by have := x.2; omega) w) rfl ?_)
          exact ((hN _ _ _ _).1 (N4)).sub [0, 1, 2, 3, 4] (by decide) rfl ⟨rfl, rfl, rfl, rfl, rfl, rfl, rfl, trivial⟩
      have N1 : N [(17, .int .i64 x.1.1), (9, .int .i64 x.1.2), (8, .int .i64 x.1.1), (7, .pointer (some ⟨u3, 0, none⟩)), (6, .pointer (some ⟨u2, 0, none⟩))] [(u2, .cells #[.int .i64 (hiW (dot pre)), .int .u64 (loW (dot pre) : Int)] 83), (u3, .cells #[.int .i64 0] 42), (p1, .cells #[.slice (some ⟨ba, oa, none⟩) 4 4] 86), (p2, .cells #[.slice (some ⟨bb, ob, none⟩) 4 4] 86), (u1, .cells #[.int .i64 0, .int .u64 0] 83)] 9 #[false, true, false, false, false, false, false, false, false, false] := by
        refine (hN _ _ _ _).2 ?_
        refine Tr.take 2 (.int .i64 x.1.2) rfl (by kernel_rfl) (by kernel_rfl) (by kernel_rfl) rfl rfl rfl rfl ?_
        exact ((hN _ _ _ _).1 (N2)).sub [0, 1, 2, 3, 4] (by decide) rfl ⟨rfl, rfl, rfl, rfl, rfl, rfl, trivial⟩
      have N0 : N [(9, .int .i64 x.1.2), (8, .int .i64 x.1.1), (7, .pointer (some ⟨u3, 0, none⟩)), (6, .pointer (some ⟨u2, 0, none⟩))] [(u2, .cells #[.int .i64 (hiW (dot pre)), .int .u64 (loW (dot pre) : Int)] 83), (u3, .cells #[.int .i64 0] 42), (p1, .cells #[.slice (some ⟨ba, oa, none⟩) 4 4] 86), (p2, .cells #[.slice (some ⟨bb, ob, none⟩) 4 4] 86), (u1, .cells #[.int .i64 0, .int .u64 0] 83)] 10 #[false, false, false, false, false, false, false, false, false, false] := by
        refine (hN _ _ _ _).2 ?_
        refine Tr.take 1 (.int .i64 x.1.1) rfl (by kernel_rfl) (by kernel_rfl) (by kernel_rfl) rfl rfl rfl rfl ?_
        exact ((hN _ _ _ _).1 (N1)).sub [0, 1, 2, 3, 4] (by decide) rfl ⟨rfl, rfl, rfl, rfl, rfl, trivial⟩
      exact (hN _ _ _ _).2 (((hN _ _ _ _).1 N0).sub [0, 1, 2, 3, 4] (by decide) rfl ⟨rfl, rfl, rfl, rfl, trivial⟩)
    · rintro _
      refine Tr.thenN ?_
      refine Tr.seq ?_
      refine Tr.region ?_
      refine Tr.step rfl (Tr.load1 F.ty42 rfl (Cell.own 1 rfl rfl) rfl ?_)
      refine Tr.step rfl (Tr.valE (.bool false) rfl rfl rfl ?_)
      refine Tr.nil ?_
      refine Tr.thenN ?_
      refine Tr.not rfl ?_
      refine Tr.skip ?_
      refine Tr.blockN ?_
      exact Tr.roundN (trivial) [0, 1, 2, 3, 4] (by decide) (by rw [dot_snoc]; rfl)
  · rintro hP1 D1
    refine Tr.blockN ?_
    refine Tr.thenN ?_
    refine Tr.seq ?_
    refine Tr.sub (l' := [(7, .pointer (some ⟨u3, 0, none⟩)), (6, .pointer (some ⟨u2, 0, none⟩)), (4, .pointer (some ⟨u1, 0, none⟩))]) (h' := [(D1, .deferred (some [])), (u2, .cells #[.int .i64 (hiW (dot [x0, x1, x2, x3])), .int .u64 (loW (dot [x0, x1, x2, x3]) : Int)] 83), (u3, .cells #[.int .i64 0] 42), (p1, .cells #[.slice (some ⟨ba, oa, none⟩) 4 4] 86), (p2, .cells #[.slice (some ⟨bb, ob, none⟩) 4 4] 86), (u1, .cells #[.int .i64 0, .int .u64 0] 83)]) ?_ [0, 1, 2, 3, 4, 5] (by decide) rfl ⟨rfl, rfl, rfl, trivial⟩
    refine Tr.drawG (Y := Unit) (fun _ => [(5, .int .i64 0), (26, .int .i64 0), (25, .agg #[.int .i64 (hiW (dot [x0, x1, x2, x3])), .int .u64 (loW (dot [x0, x1, x2, x3]) : Int)]), (7, .pointer (some ⟨u3, 0, none⟩)), (6, .pointer (some ⟨u2, 0, none⟩)), (4, .pointer (some ⟨u1, 0, none⟩))]) (fun _ => [(D1, .deferred (some [])), (u2, .cells #[.int .i64 (hiW (dot [x0, x1, x2, x3])), .int .u64 (loW (dot [x0, x1, x2, x3]) : Int)] 83), (u3, .cells #[.int .i64 0] 42), (p1, .cells #[.slice (some ⟨ba, oa, none⟩) 4 4] 86), (p2, .cells #[.slice (some ⟨bb, ob, none⟩) 4 4] 86), (u1, .cells #[.int .i64 (hiW (dot [x0, x1, x2, x3])), .int .u64 (loW (dot [x0, x1, x2, x3]) : Int)] 83)]) F.mixed ?_ ?_
    · intro K N hN tE
      have N6 : N [(5, .int .i64 0), (26, .int .i64 0), (25, .agg #[.int .i64 (hiW (dot [x0, x1, x2, x3])), .int .u64 (loW (dot [x0, x1, x2, x3]) : Int)]), (7, .pointer (some ⟨u3, 0, none⟩)), (6, .pointer (some ⟨u2, 0, none⟩)), (4, .pointer (some ⟨u1, 0, none⟩))] [(D1, .deferred (some [])), (u2, .cells #[.int .i64 (hiW (dot [x0, x1, x2, x3])), .int .u64 (loW (dot [x0, x1, x2, x3]) : Int)] 83), (u3, .cells #[.int .i64 0] 42), (p1, .cells #[.slice (some ⟨ba, oa, none⟩) 4 4] 86), (p2, .cells #[.slice (some ⟨bb, ob, none⟩) 4 4] 86), (u1, .cells #[.int .i64 (hiW (dot [x0, x1, x2, x3])), .int .u64 (loW (dot [x0, x1, x2, x3]) : Int)] 83)] 0 #[true, true, true, true] := by
        refine (hN _ _ _ _).2 ?_
        exact Tr.anyEnd (by kernel_rfl) (tE ())
      have N5 : N [(26, .int .i64 0), (25, .agg #[.int .i64 (hiW (dot [x0, x1, x2, x3])), .int .u64 (loW (dot [x0, x1, x2, x3]) : Int)]), (7, .pointer (some ⟨u3, 0, none⟩)), (6, .pointer (some ⟨u2, 0, none⟩)), (4, .pointer (some ⟨u1, 0, none⟩))] [(D1, .deferred (some [])), (u2, .cells #[.int .i64 (hiW (dot [x0, x1, x2, x3])), .int .u64 (loW (dot [x0, x1, x2, x3]) : Int)] 83), (u3, .cells #[.int .i64 0] 42), (p1, .cells #[.slice (some ⟨ba, oa, none⟩) 4 4] 86), (p2, .cells #[.slice (some ⟨bb, ob, none⟩) 4 4] 86), (u1, .cells #[.int .i64 (hiW (dot [x0, x1, x2, x3])), .int .u64 (loW (dot [x0, x1, x2, x3]) : Int)] 83)] 1 #[true, true, true, false] := by
        refine (hN _ _ _ _).2 ?_
        refine Tr.take 3 (.int .i64 0) rfl (by kernel_rfl) (by kernel_rfl) (by kernel_rfl) rfl rfl rfl rfl ?_
        exact ((hN _ _ _ _).1 (N6)).sub [0, 1, 2, 3, 4, 5] (by decide) rfl ⟨rfl, rfl, rfl, rfl, rfl, rfl, trivial⟩
      have N4 : N [(25, .agg #[.int .i64 (hiW (dot [x0, x1, x2, x3])), .int .u64 (loW (dot [x0, x1, x2, x3]) : Int)]), (7, .pointer (some ⟨u3, 0, none⟩)), (6, .pointer (some ⟨u2, 0, none⟩)), (4, .pointer (some ⟨u1, 0, none⟩))] [(D1, .deferred (some [])), (u2, .cells #[.int .i64 (hiW (dot [x0, x1, x2, x3])), .int .u64 (loW (dot [x0, x1, x2, x3]) : Int)] 83), (u3, .cells #[.int .i64 0] 42), (p1, .cells #[.slice (some ⟨ba, oa, none⟩) 4 4] 86), (p2, .cells #[.slice (some ⟨bb, ob, none⟩) 4 4] 86), (u1, .cells #[.int .i64 (hiW (dot [x0, x1, x2, x3])), .int .u64 (loW (dot [x0, x1, x2, x3]) : Int)] 83)] 2 #[true, false, true, false] := by
        refine (hN _ _ _ _).2 ?_
        refine Tr.any 1 [] (by kernel_rfl) ⟨⟨_, rfl, ?_⟩, trivial⟩
        · skip
          refine Tr.one rfl (Tr.load1 F.ty42 rfl (Cell.own 2 rfl rfl) rfl ?_)
          exact ((hN _ _ _ _).1 (N5)).sub [0, 1, 2, 3, 4, 5] (by decide) rfl ⟨rfl, rfl, rfl, rfl, rfl, trivial⟩
      have N3 : N [(26, .int .i64 0), (25, .agg #[.int .i64 (hiW (dot [x0, x1, x2, x3])), .int .u64 (loW (dot [x0, x1, x2, x3]) : Int)]), (7, .pointer (some ⟨u3, 0, none⟩)), (6, .pointer (some ⟨u2, 0, none⟩)), (4, .pointer (some ⟨u1, 0, none⟩))] [(D1, .deferred (some [])), (u2, .cells #[.int .i64 (hiW (dot [x0, x1, x2, x3])), .int .u64 (loW (dot [x0, x1, x2, x3]) : Int)] 83), (u3, .cells #[.int .i64 0] 42), (p1, .cells #[.slice (some ⟨ba, oa, none⟩) 4 4] 86), (p2, .cells #[.slice (some ⟨bb, ob, none⟩) 4 4] 86), (u1, .cells #[.int .i64 0, .int .u64 0] 83)] 2 #[true, true, false, false] := by
        refine (hN _ _ _ _).2 ?_
        refine Tr.any 2 [] (by kernel_rfl) ⟨⟨_, rfl, ?_⟩, trivial⟩
        · skip
          refine Tr.one rfl (Tr.store 5 F.ty83 rfl rfl rfl rfl rfl rfl rfl rfl rfl rfl ?_)
          exact ((hN _ _ _ _).1 (N5)).sub [0, 1, 2, 3, 4, 5] (by decide) rfl ⟨rfl, rfl, rfl, rfl, rfl, trivial⟩
      have N2 : N [(26, .int .i64 0), (7, .pointer (some ⟨u3, 0, none⟩)), (6, .pointer (some ⟨u2, 0, none⟩)), (4, .pointer (some ⟨u1, 0, none⟩))] [(D1, .deferred (some [])), (u2, .cells #[.int .i64 (hiW (dot [x0, x1, x2, x3])), .int .u64 (loW (dot [x0, x1, x2, x3]) : Int)] 83), (u3, .cells #[.int .i64 0] 42), (p1, .cells #[.slice (some ⟨ba, oa, none⟩) 4 4] 86), (p2, .cells #[.slice (some ⟨bb, ob, none⟩) 4 4] 86), (u1, .cells #[.int .i64 0, .int .u64 0] 83)] 3 #[false, true, false, false] := by
        refine (hN _ _ _ _).2 ?_
        refine Tr.any 0 [] (by kernel_rfl) ⟨⟨_, rfl, ?_⟩, trivial⟩
        · skip
          refine Tr.one rfl (Tr.loadN (vs := [.int .i64 (hiW (dot [x0, x1, x2, x3])), .int .u64 (loW (dot [x0, x1, x2, x3]) : Int)]) F.ty83 rfl (Cells.own 1 2 rfl rfl) rfl rfl ?_)
          exact ((hN _ _ _ _).1 (N3)).sub [0, 1, 2, 3, 4, 5] (by decide) rfl ⟨rfl, rfl, rfl, rfl, rfl, trivial⟩
      have N1 : N [(25, .agg #[.int .i64 (hiW (dot [x0, x1, x2, x3])), .int .u64 (loW (dot [x0, x1, x2, x3]) : Int)]), (7, .pointer (some ⟨u3, 0, none⟩)), (6, .pointer (some ⟨u2, 0, none⟩)), (4, .pointer (some ⟨u1, 0, none⟩))] [(D1, .deferred (some [])), (u2, .cells #[.int .i64 (hiW (dot [x0, x1, x2, x3])), .int .u64 (loW (dot [x0, x1, x2, x3]) : Int)] 83), (u3, .cells #[.int .i64 0] 42), (p1, .cells #[.slice (some ⟨ba, oa, none⟩) 4 4] 86), (p2, .cells #[.slice (some ⟨bb, ob, none⟩) 4 4] 86), (u1, .cells #[.int .i64 0, .int .u64 0] 83)] 3 #[true, false, false, false] := by
        refine (hN _ _ _ _).2 ?_
        refine Tr.any 1 [2] (by kernel_rfl) ⟨⟨_, rfl, ?_⟩, ⟨_, rfl, ?_⟩, trivial⟩
        · skip
          refine Tr.one rfl (Tr.load1 F.ty42 rfl (Cell.own 2 rfl rfl) rfl ?_)
          exact ((hN _ _ _ _).1 (N3)).sub [0, 1, 2, 3, 4, 5] (by decide) rfl ⟨rfl, rfl, rfl, rfl, rfl, trivial⟩
        · skip
          refine Tr.one rfl (Tr.store 5 F.ty83 rfl rfl rfl rfl rfl rfl rfl rfl rfl rfl ?_)
          exact ((hN _ _ _ _).1 (N4)).sub [0, 1, 2, 3, 4, 5] (by decide) rfl ⟨rfl, rfl, rfl, rfl, trivial⟩
      have N0 : N [(7, .pointer (some ⟨u3, 0, none⟩)), (6, .pointer (some ⟨u2, 0, none⟩)), (4, .pointer (some ⟨u1, 0, none⟩))] [(D1, .deferred (some [])), (u2, .cells #[.int .i64 (hiW (dot [x0, x1, x2, x3])), .int .u64 (loW (dot [x0, x1, x2, x3]) : Int)] 83), (u3, .cells #[.int .i64 0] 42), (p1, .cells #[.slice (some ⟨ba, oa, none⟩) 4 4] 86), (p2, .cells #[.slice (some ⟨bb, ob, none⟩) 4 4] 86), (u1, .cells #[.int .i64 0, .int .u64 0] 83)] 4 #[false, false, false, false] := by
        refine (hN _ _ _ _).2 ?_
        refine Tr.any 0 [1] (by kernel_rfl) ⟨⟨_, rfl, ?_⟩, ⟨_, rfl, ?_⟩, trivial⟩
        · skip
          refine Tr.one rfl (Tr.loadN (vs := [.int .i64 (hiW (dot [x0, x1, x2, x3])), .int .u64 (loW (dot [x0, x1, x2, x3]) : Int)]) F.ty83 rfl (Cells.own 1 2 rfl rfl) rfl rfl ?_)
          exact ((hN _ _ _ _).1 (N1)).sub [0, 1, 2, 3, 4, 5] (by decide) rfl ⟨rfl, rfl, rfl, rfl, trivial⟩
        · skip
          refine Tr.one rfl (Tr.load1 F.ty42 rfl (Cell.own 2 rfl rfl) rfl ?_)
          exact ((hN _ _ _ _).1 (N2)).sub [0, 1, 2, 3, 4, 5] (by decide) rfl ⟨rfl, rfl, rfl, rfl, trivial⟩
      exact (hN _ _ _ _).2 (((hN _ _ _ _).1 N0).sub [0, 1, 2, 3, 4, 5] (by decide) rfl ⟨rfl, rfl, rfl, trivial⟩)
    · rintro _
      refine Tr.thenN ?_
      refine Tr.ret ?_
      refine Tr.scopeR ?_
      refine Tr.leaveD [(0, D1)] rfl rfl ⟨rfl, trivial⟩ (fun _ => trivial) ?_
      refine Tr.res2 rfl (RsV.cellN (vs := [.int .i64 (hiW (dot [x0, x1, x2, x3])), .int .u64 (loW (dot [x0, x1, x2, x3]) : Int)]) rfl F.ty83 (Cells.own 5 2 rfl rfl) rfl) (RsV.tmp rfl) (fun w hw => ?_)
      exact ⟨rfl, hw.fm⟩
  · rintro D1 e pre hpre hJ
    exact hJ.elim

end Go.Proofs.YtfcbdjjpmgmpoaaDoor

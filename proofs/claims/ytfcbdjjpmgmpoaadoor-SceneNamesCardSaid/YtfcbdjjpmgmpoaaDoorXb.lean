/- Contracts of scene's functions: searches. -/
import Derived.Test.YtfcbdjjpmgmpoaaDoorXa
namespace Go.Proofs.YtfcbdjjpmgmpoaaDoor
open Go.RowKit Go.Mat Go.Ka Go.Proofs
attribute [local irreducible] Tr

/-- An object, as it lies in memory. -/
structure Ob where
  id : Int
  m : Nat → Int
  va : Option Addr
  vn : Nat
  vc : Nat
  ta : Option Addr
  tn : Nat
  tc : Nat
  vs : Nat → Nat → Int
  ts : Nat → Nat → Int
abbrev obC (e : Ob) : List Value := [.int .i64 e.id, .int .i64 (e.m 0), .int .i64 (e.m 1), .int .i64 (e.m 2), .int .i64 (e.m 3), .int .i64 (e.m 4), .int .i64 (e.m 5), .int .i64 (e.m 6), .int .i64 (e.m 7), .int .i64 (e.m 8), .int .i64 (e.m 9), .int .i64 (e.m 10), .int .i64 (e.m 11), .int .i64 (e.m 12), .int .i64 (e.m 13), .int .i64 (e.m 14), .int .i64 (e.m 15), .slice e.va e.vn e.vc, .slice e.ta e.tn e.tc]
/-- A scene. -/
structure Sc where
  W : Int
  H : Int
  cam : Nat → Int
  oa : Option Addr
  on : Nat
  oc : Nat
  ob : Nat → Ob
abbrev scV (sc : Sc) : Value := .agg #[.int .i64 sc.W, .int .i64 sc.H, .int .i64 (sc.cam 0), .int .i64 (sc.cam 1), .int .i64 (sc.cam 2), .int .i64 (sc.cam 3), .int .i64 (sc.cam 4), .int .i64 (sc.cam 5), .int .i64 (sc.cam 6), .int .i64 (sc.cam 7), .int .i64 (sc.cam 8), .int .i64 (sc.cam 9), .int .i64 (sc.cam 10), .int .i64 (sc.cam 11), .int .i64 (sc.cam 12), .int .i64 (sc.cam 13), .int .i64 (sc.cam 14), .int .i64 (sc.cam 15), .slice sc.oa sc.on sc.oc]
/-- A vertex that is too far. -/
def farV (v : Nat → Int) : Bool := decide (min (min (v 0) (v 1)) (v 2) < -1073741824) || decide (1073741824 < max (max (v 0) (v 1)) (v 2))
def tri3 (t : Nat → Int) : Nat → Int
  | 0 => t 0 | 1 => t 1 | _ => t 2
theorem tri3_row {t : Nat → Int} {w : World} {b : Nat} (h : Row w b 0 [.int .i64 (t 0), .int .i64 (t 1), .int .i64 (t 2)]) (i : Nat) (hi : i < 3) : Row w b (0 + i * 1) [.int .i64 (tri3 t i)] := fun j v hj => by
  have hj0 : j = 0 := by
    have := (List.getElem?_eq_some_iff.1 hj).1; simpa using this
  subst hj0
  obtain rfl : .int .i64 (tri3 t i) = v := by simpa using hj
  have : i = 0 ∨ i = 1 ∨ i = 2 := by omega
  rcases this with rfl | rfl | rfl
  · exact h 0 _ rfl
  · exact h 1 _ rfl
  · exact h 2 _ rfl
/-- A triangle with a corner that is none of so many vertices. -/
def outT (n : Nat) (t : Nat → Int) : Bool := anyN 3 fun i => decide ((tri3 t i) < 0) || decide ((n : Int) - 1 < (tri3 t i))

theorem F.und64 : Tryd.prog.underlying 64 = some (.slice 3) := by kernel_rfl
theorem F.sli64 : sli Tryd.prog 64 = some (3, 1) := by kernel_rfl
theorem F.en29 : Enters Tryd.prog 29 := enters_of Tryd.func29 (by kernel_rfl) rfl
theorem F.und26 : Tryd.prog.underlying 26 = some (.slice 36) := by kernel_rfl
theorem F.sli26 : sli Tryd.prog 26 = some (36, 19) := by kernel_rfl
theorem F.ty36 : tyv Tryd.prog 36 = some (.agg #[.int .i64 0, .int .i64 0, .int .i64 0, .int .i64 0, .int .i64 0, .int .i64 0, .int .i64 0, .int .i64 0, .int .i64 0, .int .i64 0, .int .i64 0, .int .i64 0, .int .i64 0, .int .i64 0, .int .i64 0, .int .i64 0, .int .i64 0, .slice none 0 0, .slice none 0 0], 19, true) := by kernel_rfl
theorem F.en16 : Enters Tryd.prog 16 := enters_of Tryd.func16 (by kernel_rfl) rfl
theorem F.und33 : Tryd.prog.underlying 33 = some (.slice 38) := by kernel_rfl
theorem F.sli33 : sli Tryd.prog 33 = some (38, 3) := by kernel_rfl
theorem F.ty38 : tyv Tryd.prog 38 = some (.agg #[.int .i64 0, .int .i64 0, .int .i64 0], 3, true) := by kernel_rfl
theorem F.en41 : Enters Tryd.prog 41 := enters_of Tryd.func41 (by kernel_rfl) rfl
theorem F.und34 : Tryd.prog.underlying 34 = some (.slice 32) := by kernel_rfl
theorem F.sli34 : sli Tryd.prog 34 = some (32, 4) := by kernel_rfl
theorem F.ty32 : tyv Tryd.prog 32 = some (.agg #[.int .i64 0, .int .i64 0, .int .i64 0, .int .u32 0], 4, true) := by kernel_rfl
theorem F.en42 : Enters Tryd.prog 42 := enters_of Tryd.func42 (by kernel_rfl) rfl
theorem F.en24 : Enters Tryd.prog 24 := enters_of Tryd.func24 (by kernel_rfl) rfl
theorem F.en23 : Enters Tryd.prog 23 := enters_of Tryd.func23 (by kernel_rfl) rfl
theorem F.fld36_0 : fld Tryd.prog 36 0 = some 0 := by kernel_rfl
theorem F.fld28_3 : fld Tryd.prog 28 3 = some 18 := by kernel_rfl
theorem F.ty26 : tyv Tryd.prog 26 = some (.slice none 0 0, 1, false) := by kernel_rfl
theorem F.en17 : Enters Tryd.prog 17 := enters_of Tryd.func17 (by kernel_rfl) rfl
theorem F.arr38 : arr Tryd.prog 38 = some (3, 1) := by kernel_rfl
theorem F.fld36_2 : fld Tryd.prog 36 2 = some 17 := by kernel_rfl
theorem F.ty33 : tyv Tryd.prog 33 = some (.slice none 0 0, 1, false) := by kernel_rfl
theorem F.fld32_0 : fld Tryd.prog 32 0 = some 0 := by kernel_rfl
theorem F.fld32_1 : fld Tryd.prog 32 1 = some 1 := by kernel_rfl
theorem F.fld32_2 : fld Tryd.prog 32 2 = some 2 := by kernel_rfl
theorem F.en18 : Enters Tryd.prog 18 := enters_of Tryd.func18 (by kernel_rfl) rfl
set_option maxRecDepth 100000 in
set_option maxHeartbeats 4000000 in
theorem idxInt_some (b o : Nat) (f : FuncId) (cap : Array Value) (n c : Nat) (xs : Nat → Int) (p : Int → Bool) (hn : n ≤ 9223372036854775807) (w : World) (hrow : ∀ i, i < n → Row w b (o + i * 1) [.int .i64 (xs i)]) (he : Enters Tryd.prog f) (hp : ∀ i, i < n → ∀ W, Fm No w W → Calls Tryd.prog f (#[] ++ [.int .i64 (xs i)].toArray ++ cap) W (Gives (.bool (p (xs i))) W)) : Calls Tryd.prog 29 #[.slice (some ⟨b, o, none⟩) n c, .func (.func f) #[] cap] w (Gives (.int .i64 (fidx n fun i => p (xs i))) w) := by
  refine calls_enter No Tryd.func29 rfl rfl rfl rfl ?_
  refine Tr.seq ?_
  refine Tr.region ?_
  refine Tr.step rfl (Tr.val rfl rfl ?_)
  refine Tr.nil ?_
  refine Tr.thenN ?_
  refine Tr.seq ?_
  refine Tr.seq ?_
  refine Tr.region ?_
  refine Tr.step rfl (Tr.val rfl rfl ?_)
  refine Tr.step rfl (Tr.blt (v := .int .i64 (n : Int)) rfl (fun _ _ => blt_lenSlice F.und64 _ _ _ _ _ _) rfl ?_)
  refine Tr.step rfl (Tr.val rfl rfl ?_)
  refine Tr.nil ?_
  refine Tr.thenN ?_
  refine Tr.block ?_
  refine Tr.loop (X := Nat) (fun k => [(8, .int .i64 (k : Int)), (7, .int .i64 (n : Int)), (0, .slice (some ⟨b, o, none⟩) n c), (1, .func (.func f) #[] cap)]) (fun k => []) (fun k => k ≤ n ∧ ∀ j, j < k → p (xs j) = false) (fun k => n - k) 0 ⟨Nat.zero_le _, fun j hj => absurd hj (Nat.not_lt_zero _)⟩ [] (by decide) rfl ⟨(lk rfl (by first | rfl | (simp; done) | (simp; omega))), rfl, rfl, rfl, trivial⟩ ?_
  rintro k hΦ
  refine Tr.seq ?_
  refine Tr.region ?_
  refine Tr.step rfl (Tr.val rfl rfl ?_)
  refine Tr.nil ?_
  refine Tr.thenN ?_
  refine Tr.seq ?_
  refine Tr.decide 9 rfl (fun h1 => ?_) (fun h1 => ?_)
  · replace h1 := dT h1
    refine Tr.yes rfl ?_
    refine Tr.skip ?_
    refine Tr.thenN ?_
    refine Tr.seq ?_
    refine Tr.block ?_
    refine Tr.seq ?_
    refine Tr.region ?_
    refine Tr.step rfl (Tr.val rfl rfl ?_)
    refine Tr.step rfl (Tr.val rfl rfl ?_)
    refine Tr.nil ?_
    refine Tr.thenN ?_
    refine Tr.seq ?_
    refine Tr.region ?_
    refine Tr.step rfl (Tr.val rfl rfl ?_)
    refine Tr.step rfl (Tr.val rfl rfl ?_)
    refine Tr.step rfl (Tr.val rfl rfl ?_)
    refine Tr.step rfl (Tr.indexSlice (o' := (o + k * 1)) F.sli64 rfl rfl (by omega) (by omega) (by simp) rfl ?_)
    refine Tr.step rfl (Tr.load1 F.ty3 rfl ((hrow k (by omega)).toCell (i := 0) (fun h => h) rfl rfl) rfl ?_)
    refine Tr.step rfl (Tr.callC (X := Unit) (fun _ => .bool (p (xs k))) (fun _ => []) (fun _ => True) he rfl rfl (fun w hw => (hp k (by omega) w hw.fm).mono fun _ _ q => ⟨(), q.1, q.2, New.nil _ _, trivial⟩) rfl ?_)
    rintro _ _
    refine Tr.nil ?_
    refine Tr.thenN ?_
    refine Tr.decide 16 rfl (fun h2 => ?_) (fun h2 => ?_)
    · skip
      refine Tr.yes rfl ?_
      refine Tr.seq ?_
      refine Tr.region ?_
      refine Tr.step rfl (Tr.val rfl rfl ?_)
      refine Tr.step rfl (Tr.val rfl rfl ?_)
      refine Tr.nil ?_
      refine Tr.thenN ?_
      refine Tr.ret ?_
      refine Tr.blockR ?_
      refine Tr.thenR ?_
      refine Tr.thenR ?_
      refine Tr.blockR ?_
      refine Tr.thenR ?_
      refine Tr.leave rfl rfl ?_
      refine Tr.res1 rfl (RsV.tmp rfl) (fun w hw => ?_)
      exact ⟨congrArg Ending.returned (vint (idx_at (n := n) (q := fun j => p (xs j)) (by omega) (by assumption) hΦ.2).symm), hw.fm⟩
    · skip
      refine Tr.not rfl ?_
      refine Tr.skip ?_
      refine Tr.blockN ?_
      refine Tr.thenN ?_
      refine Tr.region ?_
      refine Tr.step rfl (Tr.valE (.int .i64 ((k : Int) + 1)) rfl (vint (w_i64 (by omega) (by omega))) rfl ?_)
      refine Tr.step rfl (Tr.val rfl rfl ?_)
      refine Tr.nil ?_
      refine Tr.thenN ?_
      exact Tr.again (k + 1) ⟨by omega, allF (q := fun j => p (xs j)) hΦ.2 (by assumption)⟩ (by omega) [] (by decide) rfl ⟨(lk rfl (by first | rfl | (simp; done) | exact vint (by omega))), rfl, rfl, rfl, trivial⟩
  · replace h1 := dF h1
    refine Tr.not rfl ?_
    refine Tr.exit ?_
    refine Tr.thenE ?_
    refine Tr.thenE ?_
    refine Tr.blockHit ?_
    refine Tr.thenN ?_
    refine Tr.seq ?_
    refine Tr.region ?_
    refine Tr.step rfl (Tr.val rfl rfl ?_)
    refine Tr.nil ?_
    refine Tr.thenN ?_
    refine Tr.ret ?_
    refine Tr.leave rfl rfl ?_
    refine Tr.res1 rfl (RsV.tmp rfl) (fun w hw => ?_)
    exact ⟨congrArg Ending.returned (vint (idx_no (fun j hj => hΦ.2 j (by omega))).symm), hw.fm⟩

set_option maxRecDepth 100000 in
set_option maxHeartbeats 4000000 in
theorem idxInt_nil (a : Option Addr) (f : FuncId) (cap : Array Value) (c : Nat) (q : Nat → Bool) (w : World) : Calls Tryd.prog 29 #[.slice a 0 c, .func (.func f) #[] cap] w (Gives (.int .i64 (fidx 0 q)) w) := by
  refine calls_enter No Tryd.func29 rfl rfl rfl rfl ?_
  refine Tr.seq ?_
  refine Tr.region ?_
  refine Tr.step rfl (Tr.val rfl rfl ?_)
  refine Tr.nil ?_
  refine Tr.thenN ?_
  refine Tr.seq ?_
  refine Tr.seq ?_
  refine Tr.region ?_
  refine Tr.step rfl (Tr.val rfl rfl ?_)
  refine Tr.step rfl (Tr.blt (v := .int .i64 0) rfl (fun _ _ => blt_lenSlice F.und64 _ _ _ _ _ _) rfl ?_)
  refine Tr.step rfl (Tr.val rfl rfl ?_)
  refine Tr.nil ?_
  refine Tr.thenN ?_
  refine Tr.block ?_
  refine Tr.loopU ?_
  refine Tr.sub (l' := [(8, .int .i64 0), (7, .int .i64 0), (0, .slice a 0 c), (1, .func (.func f) #[] cap)]) (h' := []) ?_ [] (by decide) rfl ⟨rfl, rfl, rfl, rfl, trivial⟩
  refine Tr.roundU ?_
  refine Tr.seq ?_
  refine Tr.region ?_
  refine Tr.step rfl (Tr.valE (.bool false) rfl rfl rfl ?_)
  refine Tr.nil ?_
  refine Tr.thenN ?_
  refine Tr.seq ?_
  refine Tr.not rfl ?_
  refine Tr.exit ?_
  refine Tr.thenE ?_
  refine Tr.thenE ?_
  refine Tr.blockHit ?_
  refine Tr.thenN ?_
  refine Tr.seq ?_
  refine Tr.region ?_
  refine Tr.step rfl (Tr.val rfl rfl ?_)
  refine Tr.nil ?_
  refine Tr.thenN ?_
  refine Tr.ret ?_
  refine Tr.leave rfl rfl ?_
  refine Tr.res1 rfl (RsV.tmp rfl) (fun w hw => ?_)
  exact ⟨congrArg Ending.returned (vint (idx_no (fun j hj => absurd hj (Nat.not_lt_zero _))).symm), hw.fm⟩

theorem idxInt (a : Option Addr) (f : FuncId) (cap : Array Value) (n c : Nat) (xs : Nat → Int) (p : Int → Bool) (hn : n ≤ 9223372036854775807) (w : World) (hm : SlM w a n 1 fun i => [.int .i64 (xs i)]) (he : Enters Tryd.prog f) (hp : ∀ i, i < n → ∀ W, Fm No w W → Calls Tryd.prog f (#[] ++ [.int .i64 (xs i)].toArray ++ cap) W (Gives (.bool (p (xs i))) W)) : Calls Tryd.prog 29 #[.slice a n c, .func (.func f) #[] cap] w (Gives (.int .i64 (fidx n fun i => p (xs i))) w) := by
  rcases hm with rfl | ⟨b, o, rfl, hr⟩
  · exact idxInt_nil a f cap c _ w
  · exact idxInt_some b o f cap n c xs p hn w hr he hp

set_option maxRecDepth 100000 in
set_option maxHeartbeats 4000000 in
theorem contInt (a : Option Addr) (f : FuncId) (cap : Array Value) (n c : Nat) (xs : Nat → Int) (p : Int → Bool) (hn : n ≤ 9223372036854775807) (w : World) (hm : SlM w a n 1 fun i => [.int .i64 (xs i)]) (he : Enters Tryd.prog f) (hp : ∀ i, i < n → ∀ W, Fm No w W → Calls Tryd.prog f (#[] ++ [.int .i64 (xs i)].toArray ++ cap) W (Gives (.bool (p (xs i))) W)) : Calls Tryd.prog 23 #[.slice a n c, .func (.func f) #[] cap] w (Gives (.bool (anyN n fun i => p (xs i))) w) := by
  refine calls_enter No Tryd.func23 rfl rfl rfl rfl ?_
  refine Tr.seq ?_
  refine Tr.region ?_
  refine Tr.step rfl (Tr.val rfl rfl ?_)
  refine Tr.nil ?_
  refine Tr.thenN ?_
  refine Tr.seq ?_
  refine Tr.region ?_
  refine Tr.step rfl (Tr.val rfl rfl ?_)
  refine Tr.step rfl (Tr.val rfl rfl ?_)
  refine Tr.step rfl (Tr.call (v := .int .i64 (fidx n fun i => p (xs i))) F.en29 rfl (fun w hw => idxInt a f cap n c xs p hn w (hm.call hw.fm) he (fun i hi W hF => hp i hi W (hw.fm.trans hF))) rfl ?_)
  refine Tr.step rfl (Tr.val rfl rfl ?_)
  refine Tr.step rfl (Tr.val rfl rfl ?_)
  refine Tr.nil ?_
  refine Tr.thenN ?_
  refine Tr.ret ?_
  refine Tr.leave rfl rfl ?_
  refine Tr.res1 rfl (RsV.tmp rfl) (fun w hw => ?_)
  exact ⟨congrArg Ending.returned (vbool (anyN_idx _ _)), hw.fm⟩

set_option maxRecDepth 100000 in
set_option maxHeartbeats 4000000 in
theorem idxOb_some (b o : Nat) (f : FuncId) (cap : Array Value) (n c : Nat) (xs : Nat → Ob) (p : Ob → Bool) (hn : n ≤ 9223372036854775807) (w : World) (hrow : ∀ i, i < n → Row w b (o + i * 19) [.int .i64 ((xs i).id), .int .i64 ((xs i).m 0), .int .i64 ((xs i).m 1), .int .i64 ((xs i).m 2), .int .i64 ((xs i).m 3), .int .i64 ((xs i).m 4), .int .i64 ((xs i).m 5), .int .i64 ((xs i).m 6), .int .i64 ((xs i).m 7), .int .i64 ((xs i).m 8), .int .i64 ((xs i).m 9), .int .i64 ((xs i).m 10), .int .i64 ((xs i).m 11), .int .i64 ((xs i).m 12), .int .i64 ((xs i).m 13), .int .i64 ((xs i).m 14), .int .i64 ((xs i).m 15), .slice ((xs i).va) ((xs i).vn) ((xs i).vc), .slice ((xs i).ta) ((xs i).tn) ((xs i).tc)]) (he : Enters Tryd.prog f) (hp : ∀ i, i < n → ∀ W, Fm No w W → Calls Tryd.prog f (#[] ++ [.agg #[.int .i64 ((xs i).id), .int .i64 ((xs i).m 0), .int .i64 ((xs i).m 1), .int .i64 ((xs i).m 2), .int .i64 ((xs i).m 3), .int .i64 ((xs i).m 4), .int .i64 ((xs i).m 5), .int .i64 ((xs i).m 6), .int .i64 ((xs i).m 7), .int .i64 ((xs i).m 8), .int .i64 ((xs i).m 9), .int .i64 ((xs i).m 10), .int .i64 ((xs i).m 11), .int .i64 ((xs i).m 12), .int .i64 ((xs i).m 13), .int .i64 ((xs i).m 14), .int .i64 ((xs i).m 15), .slice ((xs i).va) ((xs i).vn) ((xs i).vc), .slice ((xs i).ta) ((xs i).tn) ((xs i).tc)]].toArray ++ cap) W (Gives (.bool (p (xs i))) W)) : Calls Tryd.prog 16 #[.slice (some ⟨b, o, none⟩) n c, .func (.func f) #[] cap] w (Gives (.int .i64 (fidx n fun i => p (xs i))) w) := by
  refine calls_enter No Tryd.func16 rfl rfl rfl rfl ?_
  refine Tr.seq ?_
  refine Tr.region ?_
  refine Tr.step rfl (Tr.val rfl rfl ?_)
  refine Tr.nil ?_
  refine Tr.thenN ?_
  refine Tr.seq ?_
  refine Tr.seq ?_
  refine Tr.region ?_
  refine Tr.step rfl (Tr.val rfl rfl ?_)
  refine Tr.step rfl (Tr.blt (v := .int .i64 (n : Int)) rfl (fun _ _ => blt_lenSlice F.und26 _ _ _ _ _ _) rfl ?_)
  refine Tr.step rfl (Tr.val rfl rfl ?_)
  refine Tr.nil ?_
  refine Tr.thenN ?_
  refine Tr.block ?_
  refine Tr.loop (X := Nat) (fun k => [(8, .int .i64 (k : Int)), (7, .int .i64 (n : Int)), (0, .slice (some ⟨b, o, none⟩) n c), (1, .func (.func f) #[] cap)]) (fun k => []) (fun k => k ≤ n ∧ ∀ j, j < k → p (xs j) = false) (fun k => n - k) 0 ⟨Nat.zero_le _, fun j hj => absurd hj (Nat.not_lt_zero _)⟩ [] (by decide) rfl ⟨(lk rfl (by first | rfl | (simp; done) | (simp; omega))), rfl, rfl, rfl, trivial⟩ ?_
  rintro k hΦ
  refine Tr.seq ?_
  refine Tr.region ?_
  refine Tr.step rfl (Tr.val rfl rfl ?_)
  refine Tr.nil ?_
  refine Tr.thenN ?_
  refine Tr.seq ?_
  refine Tr.decide 9 rfl (fun h1 => ?_) (fun h1 => ?_)
  · replace h1 := dT h1
    refine Tr.yes rfl ?_
    refine Tr.skip ?_
    refine Tr.thenN ?_
    refine Tr.seq ?_
    refine Tr.block ?_
    refine Tr.seq ?_
    refine Tr.region ?_
    refine Tr.step rfl (Tr.val rfl rfl ?_)
    refine Tr.step rfl (Tr.val rfl rfl ?_)
    refine Tr.nil ?_
    refine Tr.thenN ?_
    refine Tr.seq ?_
    refine Tr.region ?_
    refine Tr.step rfl (Tr.val rfl rfl ?_)
    refine Tr.step rfl (Tr.val rfl rfl ?_)
    refine Tr.step rfl (Tr.val rfl rfl ?_)
    refine Tr.step rfl (Tr.indexSlice (o' := (o + k * 19)) F.sli26 rfl rfl (by omega) (by omega) (by simp) rfl ?_)
    refine Tr.step rfl (Tr.loadN (vs := [.int .i64 ((xs k).id), .int .i64 ((xs k).m 0), .int .i64 ((xs k).m 1), .int .i64 ((xs k).m 2), .int .i64 ((xs k).m 3), .int .i64 ((xs k).m 4), .int .i64 ((xs k).m 5), .int .i64 ((xs k).m 6), .int .i64 ((xs k).m 7), .int .i64 ((xs k).m 8), .int .i64 ((xs k).m 9), .int .i64 ((xs k).m 10), .int .i64 ((xs k).m 11), .int .i64 ((xs k).m 12), .int .i64 ((xs k).m 13), .int .i64 ((xs k).m 14), .int .i64 ((xs k).m 15), .slice ((xs k).va) ((xs k).vn) ((xs k).vc), .slice ((xs k).ta) ((xs k).tn) ((xs k).tc)]) F.ty36 rfl ((hrow k (by omega)).cells (fun h => h)) rfl rfl ?_)
    refine Tr.step rfl (Tr.callC (X := Unit) (fun _ => .bool (p (xs k))) (fun _ => []) (fun _ => True) he rfl rfl (fun w hw => (hp k (by omega) w hw.fm).mono fun _ _ q => ⟨(), q.1, q.2, New.nil _ _, trivial⟩) rfl ?_)
    rintro _ _
    refine Tr.nil ?_
    refine Tr.thenN ?_
    refine Tr.decide 16 rfl (fun h2 => ?_) (fun h2 => ?_)
    · skip
      refine Tr.yes rfl ?_
      refine Tr.seq ?_
      refine Tr.region ?_
      refine Tr.step rfl (Tr.val rfl rfl ?_)
      refine Tr.step rfl (Tr.val rfl rfl ?_)
      refine Tr.nil ?_
      refine Tr.thenN ?_
      refine Tr.ret ?_
      refine Tr.blockR ?_
      refine Tr.thenR ?_
      refine Tr.thenR ?_
      refine Tr.blockR ?_
      refine Tr.thenR ?_
      refine Tr.leave rfl rfl ?_
      refine Tr.res1 rfl (RsV.tmp rfl) (fun w hw => ?_)
      exact ⟨congrArg Ending.returned (vint (idx_at (n := n) (q := fun j => p (xs j)) (by omega) (by assumption) hΦ.2).symm), hw.fm⟩
    · skip
      refine Tr.not rfl ?_
      refine Tr.skip ?_
      refine Tr.blockN ?_
      refine Tr.thenN ?_
      refine Tr.region ?_
      refine Tr.step rfl (Tr.valE (.int .i64 ((k : Int) + 1)) rfl (vint (w_i64 (by omega) (by omega))) rfl ?_)
      refine Tr.step rfl (Tr.val rfl rfl ?_)
      refine Tr.nil ?_
      refine Tr.thenN ?_
      exact Tr.again (k + 1) ⟨by omega, allF (q := fun j => p (xs j)) hΦ.2 (by assumption)⟩ (by omega) [] (by decide) rfl ⟨(lk rfl (by first | rfl | (simp; done) | exact vint (by omega))), rfl, rfl, rfl, trivial⟩
  · replace h1 := dF h1
    refine Tr.not rfl ?_
    refine Tr.exit ?_
    refine Tr.thenE ?_
    refine Tr.thenE ?_
    refine Tr.blockHit ?_
    refine Tr.thenN ?_
    refine Tr.seq ?_
    refine Tr.region ?_
    refine Tr.step rfl (Tr.val rfl rfl ?_)
    refine Tr.nil ?_
    refine Tr.thenN ?_
    refine Tr.ret ?_
    refine Tr.leave rfl rfl ?_
    refine Tr.res1 rfl (RsV.tmp rfl) (fun w hw => ?_)
    exact ⟨congrArg Ending.returned (vint (idx_no (fun j hj => hΦ.2 j (by omega))).symm), hw.fm⟩

set_option maxRecDepth 100000 in
set_option maxHeartbeats 4000000 in
theorem idxOb_nil (a : Option Addr) (f : FuncId) (cap : Array Value) (c : Nat) (q : Nat → Bool) (w : World) : Calls Tryd.prog 16 #[.slice a 0 c, .func (.func f) #[] cap] w (Gives (.int .i64 (fidx 0 q)) w) := by
  refine calls_enter No Tryd.func16 rfl rfl rfl rfl ?_
  refine Tr.seq ?_
  refine Tr.region ?_
  refine Tr.step rfl (Tr.val rfl rfl ?_)
  refine Tr.nil ?_
  refine Tr.thenN ?_
  refine Tr.seq ?_
  refine Tr.seq ?_
  refine Tr.region ?_
  refine Tr.step rfl (Tr.val rfl rfl ?_)
  refine Tr.step rfl (Tr.blt (v := .int .i64 0) rfl (fun _ _ => blt_lenSlice F.und26 _ _ _ _ _ _) rfl ?_)
  refine Tr.step rfl (Tr.val rfl rfl ?_)
  refine Tr.nil ?_
  refine Tr.thenN ?_
  refine Tr.block ?_
  refine Tr.loopU ?_
  refine Tr.sub (l' := [(8, .int .i64 0), (7, .int .i64 0), (0, .slice a 0 c), (1, .func (.func f) #[] cap)]) (h' := []) ?_ [] (by decide) rfl ⟨rfl, rfl, rfl, rfl, trivial⟩
  refine Tr.roundU ?_
  refine Tr.seq ?_
  refine Tr.region ?_
  refine Tr.step rfl (Tr.valE (.bool false) rfl rfl rfl ?_)
  refine Tr.nil ?_
  refine Tr.thenN ?_
  refine Tr.seq ?_
  refine Tr.not rfl ?_
  refine Tr.exit ?_
  refine Tr.thenE ?_
  refine Tr.thenE ?_
  refine Tr.blockHit ?_
  refine Tr.thenN ?_
  refine Tr.seq ?_
  refine Tr.region ?_
  refine Tr.step rfl (Tr.val rfl rfl ?_)
  refine Tr.nil ?_
  refine Tr.thenN ?_
  refine Tr.ret ?_
  refine Tr.leave rfl rfl ?_
  refine Tr.res1 rfl (RsV.tmp rfl) (fun w hw => ?_)
  exact ⟨congrArg Ending.returned (vint (idx_no (fun j hj => absurd hj (Nat.not_lt_zero _))).symm), hw.fm⟩

theorem idxOb (a : Option Addr) (f : FuncId) (cap : Array Value) (n c : Nat) (xs : Nat → Ob) (p : Ob → Bool) (hn : n ≤ 9223372036854775807) (w : World) (hm : SlM w a n 19 fun i => [.int .i64 ((xs i).id), .int .i64 ((xs i).m 0), .int .i64 ((xs i).m 1), .int .i64 ((xs i).m 2), .int .i64 ((xs i).m 3), .int .i64 ((xs i).m 4), .int .i64 ((xs i).m 5), .int .i64 ((xs i).m 6), .int .i64 ((xs i).m 7), .int .i64 ((xs i).m 8), .int .i64 ((xs i).m 9), .int .i64 ((xs i).m 10), .int .i64 ((xs i).m 11), .int .i64 ((xs i).m 12), .int .i64 ((xs i).m 13), .int .i64 ((xs i).m 14), .int .i64 ((xs i).m 15), .slice ((xs i).va) ((xs i).vn) ((xs i).vc), .slice ((xs i).ta) ((xs i).tn) ((xs i).tc)]) (he : Enters Tryd.prog f) (hp : ∀ i, i < n → ∀ W, Fm No w W → Calls Tryd.prog f (#[] ++ [.agg #[.int .i64 ((xs i).id), .int .i64 ((xs i).m 0), .int .i64 ((xs i).m 1), .int .i64 ((xs i).m 2), .int .i64 ((xs i).m 3), .int .i64 ((xs i).m 4), .int .i64 ((xs i).m 5), .int .i64 ((xs i).m 6), .int .i64 ((xs i).m 7), .int .i64 ((xs i).m 8), .int .i64 ((xs i).m 9), .int .i64 ((xs i).m 10), .int .i64 ((xs i).m 11), .int .i64 ((xs i).m 12), .int .i64 ((xs i).m 13), .int .i64 ((xs i).m 14), .int .i64 ((xs i).m 15), .slice ((xs i).va) ((xs i).vn) ((xs i).vc), .slice ((xs i).ta) ((xs i).tn) ((xs i).tc)]].toArray ++ cap) W (Gives (.bool (p (xs i))) W)) : Calls Tryd.prog 16 #[.slice a n c, .func (.func f) #[] cap] w (Gives (.int .i64 (fidx n fun i => p (xs i))) w) := by
  rcases hm with rfl | ⟨b, o, rfl, hr⟩
  · exact idxOb_nil a f cap c _ w
  · exact idxOb_some b o f cap n c xs p hn w hr he hp

set_option maxRecDepth 100000 in
set_option maxHeartbeats 4000000 in
theorem contOb (a : Option Addr) (f : FuncId) (cap : Array Value) (n c : Nat) (xs : Nat → Ob) (p : Ob → Bool) (hn : n ≤ 9223372036854775807) (w : World) (hm : SlM w a n 19 fun i => [.int .i64 ((xs i).id), .int .i64 ((xs i).m 0), .int .i64 ((xs i).m 1), .int .i64 ((xs i).m 2), .int .i64 ((xs i).m 3), .int .i64 ((xs i).m 4), .int .i64 ((xs i).m 5), .int .i64 ((xs i).m 6), .int .i64 ((xs i).m 7), .int .i64 ((xs i).m 8), .int .i64 ((xs i).m 9), .int .i64 ((xs i).m 10), .int .i64 ((xs i).m 11), .int .i64 ((xs i).m 12), .int .i64 ((xs i).m 13), .int .i64 ((xs i).m 14), .int .i64 ((xs i).m 15), .slice ((xs i).va) ((xs i).vn) ((xs i).vc), .slice ((xs i).ta) ((xs i).tn) ((xs i).tc)]) (he : Enters Tryd.prog f) (hp : ∀ i, i < n → ∀ W, Fm No w W → Calls Tryd.prog f (#[] ++ [.agg #[.int .i64 ((xs i).id), .int .i64 ((xs i).m 0), .int .i64 ((xs i).m 1), .int .i64 ((xs i).m 2), .int .i64 ((xs i).m 3), .int .i64 ((xs i).m 4), .int .i64 ((xs i).m 5), .int .i64 ((xs i).m 6), .int .i64 ((xs i).m 7), .int .i64 ((xs i).m 8), .int .i64 ((xs i).m 9), .int .i64 ((xs i).m 10), .int .i64 ((xs i).m 11), .int .i64 ((xs i).m 12), .int .i64 ((xs i).m 13), .int .i64 ((xs i).m 14), .int .i64 ((xs i).m 15), .slice ((xs i).va) ((xs i).vn) ((xs i).vc), .slice ((xs i).ta) ((xs i).tn) ((xs i).tc)]].toArray ++ cap) W (Gives (.bool (p (xs i))) W)) : Calls Tryd.prog 32 #[.slice a n c, .func (.func f) #[] cap] w (Gives (.bool (anyN n fun i => p (xs i))) w) := by
  refine calls_enter No Tryd.func32 rfl rfl rfl rfl ?_
  refine Tr.seq ?_
  refine Tr.region ?_
  refine Tr.step rfl (Tr.val rfl rfl ?_)
  refine Tr.nil ?_
  refine Tr.thenN ?_
  refine Tr.seq ?_
  refine Tr.region ?_
  refine Tr.step rfl (Tr.val rfl rfl ?_)
  refine Tr.step rfl (Tr.val rfl rfl ?_)
  refine Tr.step rfl (Tr.call (v := .int .i64 (fidx n fun i => p (xs i))) F.en16 rfl (fun w hw => idxOb a f cap n c xs p hn w (hm.call hw.fm) he (fun i hi W hF => hp i hi W (hw.fm.trans hF))) rfl ?_)
  refine Tr.step rfl (Tr.val rfl rfl ?_)
  refine Tr.step rfl (Tr.val rfl rfl ?_)
  refine Tr.nil ?_
  refine Tr.thenN ?_
  refine Tr.ret ?_
  refine Tr.leave rfl rfl ?_
  refine Tr.res1 rfl (RsV.tmp rfl) (fun w hw => ?_)
  exact ⟨congrArg Ending.returned (vbool (anyN_idx _ _)), hw.fm⟩

set_option maxRecDepth 100000 in
set_option maxHeartbeats 4000000 in
theorem idxV_some (b o : Nat) (f : FuncId) (cap : Array Value) (n c : Nat) (xs : Nat → (Nat → Int)) (p : (Nat → Int) → Bool) (hn : n ≤ 9223372036854775807) (w : World) (hrow : ∀ i, i < n → Row w b (o + i * 3) [.int .i64 ((xs i) 0), .int .i64 ((xs i) 1), .int .i64 ((xs i) 2)]) (he : Enters Tryd.prog f) (hp : ∀ i, i < n → ∀ W, Fm No w W → Calls Tryd.prog f (#[] ++ [.agg #[.int .i64 ((xs i) 0), .int .i64 ((xs i) 1), .int .i64 ((xs i) 2)]].toArray ++ cap) W (Gives (.bool (p (xs i))) W)) : Calls Tryd.prog 41 #[.slice (some ⟨b, o, none⟩) n c, .func (.func f) #[] cap] w (Gives (.int .i64 (fidx n fun i => p (xs i))) w) := by
  refine calls_enter No Tryd.func41 rfl rfl rfl rfl ?_
  refine Tr.seq ?_
  refine Tr.region ?_
  refine Tr.step rfl (Tr.val rfl rfl ?_)
  refine Tr.nil ?_
  refine Tr.thenN ?_
  refine Tr.seq ?_
  refine Tr.seq ?_
  refine Tr.region ?_
  refine Tr.step rfl (Tr.val rfl rfl ?_)
  refine Tr.step rfl (Tr.blt (v := .int .i64 (n : Int)) rfl (fun _ _ => blt_lenSlice F.und33 _ _ _ _ _ _) rfl ?_)
  refine Tr.step rfl (Tr.val rfl rfl ?_)
  refine Tr.nil ?_
  refine Tr.thenN ?_
  refine Tr.block ?_
  refine Tr.loop (X := Nat) (fun k => [(8, .int .i64 (k : Int)), (7, .int .i64 (n : Int)), (0, .slice (some ⟨b, o, none⟩) n c), (1, .func (.func f) #[] cap)]) (fun k => []) (fun k => k ≤ n ∧ ∀ j, j < k → p (xs j) = false) (fun k => n - k) 0 ⟨Nat.zero_le _, fun j hj => absurd hj (Nat.not_lt_zero _)⟩ [] (by decide) rfl ⟨(lk rfl (by first | rfl | (simp; done) | (simp; omega))), rfl, rfl, rfl, trivial⟩ ?_
  rintro k hΦ
  refine Tr.seq ?_
  refine Tr.region ?_
  refine Tr.step rfl (Tr.val rfl rfl ?_)
  refine Tr.nil ?_
  refine Tr.thenN ?_
  refine Tr.seq ?_
  refine Tr.decide 9 rfl (fun h1 => ?_) (fun h1 => ?_)
  · replace h1 := dT h1
    refine Tr.yes rfl ?_
    refine Tr.skip ?_
    refine Tr.thenN ?_
    refine Tr.seq ?_
    refine Tr.block ?_
    refine Tr.seq ?_
    refine Tr.region ?_
    refine Tr.step rfl (Tr.val rfl rfl ?_)
    refine Tr.step rfl (Tr.val rfl rfl ?_)
    refine Tr.nil ?_
    refine Tr.thenN ?_
    refine Tr.seq ?_
    refine Tr.region ?_
    refine Tr.step rfl (Tr.val rfl rfl ?_)
    refine Tr.step rfl (Tr.val rfl rfl ?_)
    refine Tr.step rfl (Tr.val rfl rfl ?_)
    refine Tr.step rfl (Tr.indexSlice (o' := (o + k * 3)) F.sli33 rfl rfl (by omega) (by omega) (by simp) rfl ?_)
    refine Tr.step rfl (Tr.loadN (vs := [.int .i64 ((xs k) 0), .int .i64 ((xs k) 1), .int .i64 ((xs k) 2)]) F.ty38 rfl ((hrow k (by omega)).cells (fun h => h)) rfl rfl ?_)
    refine Tr.step rfl (Tr.callC (X := Unit) (fun _ => .bool (p (xs k))) (fun _ => []) (fun _ => True) he rfl rfl (fun w hw => (hp k (by omega) w hw.fm).mono fun _ _ q => ⟨(), q.1, q.2, New.nil _ _, trivial⟩) rfl ?_)
    rintro _ _
    refine Tr.nil ?_
    refine Tr.thenN ?_
    refine Tr.decide 16 rfl (fun h2 => ?_) (fun h2 => ?_)
    · skip
      refine Tr.yes rfl ?_
      refine Tr.seq ?_
      refine Tr.region ?_
      refine Tr.step rfl (Tr.val rfl rfl ?_)
      refine Tr.step rfl (Tr.val rfl rfl ?_)
      refine Tr.nil ?_
      refine Tr.thenN ?_
      refine Tr.ret ?_
      refine Tr.blockR ?_
      refine Tr.thenR ?_
      refine Tr.thenR ?_
      refine Tr.blockR ?_
      refine Tr.thenR ?_
      refine Tr.leave rfl rfl ?_
      refine Tr.res1 rfl (RsV.tmp rfl) (fun w hw => ?_)
      exact ⟨congrArg Ending.returned (vint (idx_at (n := n) (q := fun j => p (xs j)) (by omega) (by assumption) hΦ.2).symm), hw.fm⟩
    · skip
      refine Tr.not rfl ?_
      refine Tr.skip ?_
      refine Tr.blockN ?_
      refine Tr.thenN ?_
      refine Tr.region ?_
      refine Tr.step rfl (Tr.valE (.int .i64 ((k : Int) + 1)) rfl (vint (w_i64 (by omega) (by omega))) rfl ?_)
      refine Tr.step rfl (Tr.val rfl rfl ?_)
      refine Tr.nil ?_
      refine Tr.thenN ?_
      exact Tr.again (k + 1) ⟨by omega, allF (q := fun j => p (xs j)) hΦ.2 (by assumption)⟩ (by omega) [] (by decide) rfl ⟨(lk rfl (by first | rfl | (simp; done) | exact vint (by omega))), rfl, rfl, rfl, trivial⟩
  · replace h1 := dF h1
    refine Tr.not rfl ?_
    refine Tr.exit ?_
    refine Tr.thenE ?_
    refine Tr.thenE ?_
    refine Tr.blockHit ?_
    refine Tr.thenN ?_
    refine Tr.seq ?_
    refine Tr.region ?_
    refine Tr.step rfl (Tr.val rfl rfl ?_)
    refine Tr.nil ?_
    refine Tr.thenN ?_
    refine Tr.ret ?_
    refine Tr.leave rfl rfl ?_
    refine Tr.res1 rfl (RsV.tmp rfl) (fun w hw => ?_)
    exact ⟨congrArg Ending.returned (vint (idx_no (fun j hj => hΦ.2 j (by omega))).symm), hw.fm⟩

set_option maxRecDepth 100000 in
set_option maxHeartbeats 4000000 in
theorem idxV_nil (a : Option Addr) (f : FuncId) (cap : Array Value) (c : Nat) (q : Nat → Bool) (w : World) : Calls Tryd.prog 41 #[.slice a 0 c, .func (.func f) #[] cap] w (Gives (.int .i64 (fidx 0 q)) w) := by
  refine calls_enter No Tryd.func41 rfl rfl rfl rfl ?_
  refine Tr.seq ?_
  refine Tr.region ?_
  refine Tr.step rfl (Tr.val rfl rfl ?_)
  refine Tr.nil ?_
  refine Tr.thenN ?_
  refine Tr.seq ?_
  refine Tr.seq ?_
  refine Tr.region ?_
  refine Tr.step rfl (Tr.val rfl rfl ?_)
  refine Tr.step rfl (Tr.blt (v := .int .i64 0) rfl (fun _ _ => blt_lenSlice F.und33 _ _ _ _ _ _) rfl ?_)
  refine Tr.step rfl (Tr.val rfl rfl ?_)
  refine Tr.nil ?_
  refine Tr.thenN ?_
  refine Tr.block ?_
  refine Tr.loopU ?_
  refine Tr.sub (l' := [(8, .int .i64 0), (7, .int .i64 0), (0, .slice a 0 c), (1, .func (.func f) #[] cap)]) (h' := []) ?_ [] (by decide) rfl ⟨rfl, rfl, rfl, rfl, trivial⟩
  refine Tr.roundU ?_
  refine Tr.seq ?_
  refine Tr.region ?_
  refine Tr.step rfl (Tr.valE (.bool false) rfl rfl rfl ?_)
  refine Tr.nil ?_
  refine Tr.thenN ?_
  refine Tr.seq ?_
  refine Tr.not rfl ?_
  refine Tr.exit ?_
  refine Tr.thenE ?_
  refine Tr.thenE ?_
  refine Tr.blockHit ?_
  refine Tr.thenN ?_
  refine Tr.seq ?_
  refine Tr.region ?_
  refine Tr.step rfl (Tr.val rfl rfl ?_)
  refine Tr.nil ?_
  refine Tr.thenN ?_
  refine Tr.ret ?_
  refine Tr.leave rfl rfl ?_
  refine Tr.res1 rfl (RsV.tmp rfl) (fun w hw => ?_)
  exact ⟨congrArg Ending.returned (vint (idx_no (fun j hj => absurd hj (Nat.not_lt_zero _))).symm), hw.fm⟩

theorem idxV (a : Option Addr) (f : FuncId) (cap : Array Value) (n c : Nat) (xs : Nat → (Nat → Int)) (p : (Nat → Int) → Bool) (hn : n ≤ 9223372036854775807) (w : World) (hm : SlM w a n 3 fun i => [.int .i64 ((xs i) 0), .int .i64 ((xs i) 1), .int .i64 ((xs i) 2)]) (he : Enters Tryd.prog f) (hp : ∀ i, i < n → ∀ W, Fm No w W → Calls Tryd.prog f (#[] ++ [.agg #[.int .i64 ((xs i) 0), .int .i64 ((xs i) 1), .int .i64 ((xs i) 2)]].toArray ++ cap) W (Gives (.bool (p (xs i))) W)) : Calls Tryd.prog 41 #[.slice a n c, .func (.func f) #[] cap] w (Gives (.int .i64 (fidx n fun i => p (xs i))) w) := by
  rcases hm with rfl | ⟨b, o, rfl, hr⟩
  · exact idxV_nil a f cap c _ w
  · exact idxV_some b o f cap n c xs p hn w hr he hp

set_option maxRecDepth 100000 in
set_option maxHeartbeats 4000000 in
theorem contV (a : Option Addr) (f : FuncId) (cap : Array Value) (n c : Nat) (xs : Nat → (Nat → Int)) (p : (Nat → Int) → Bool) (hn : n ≤ 9223372036854775807) (w : World) (hm : SlM w a n 3 fun i => [.int .i64 ((xs i) 0), .int .i64 ((xs i) 1), .int .i64 ((xs i) 2)]) (he : Enters Tryd.prog f) (hp : ∀ i, i < n → ∀ W, Fm No w W → Calls Tryd.prog f (#[] ++ [.agg #[.int .i64 ((xs i) 0), .int .i64 ((xs i) 1), .int .i64 ((xs i) 2)]].toArray ++ cap) W (Gives (.bool (p (xs i))) W)) : Calls Tryd.prog 34 #[.slice a n c, .func (.func f) #[] cap] w (Gives (.bool (anyN n fun i => p (xs i))) w) := by
  refine calls_enter No Tryd.func34 rfl rfl rfl rfl ?_
  refine Tr.seq ?_
  refine Tr.region ?_
  refine Tr.step rfl (Tr.val rfl rfl ?_)
  refine Tr.nil ?_
  refine Tr.thenN ?_
  refine Tr.seq ?_
  refine Tr.region ?_
  refine Tr.step rfl (Tr.val rfl rfl ?_)
  refine Tr.step rfl (Tr.val rfl rfl ?_)
  refine Tr.step rfl (Tr.call (v := .int .i64 (fidx n fun i => p (xs i))) F.en41 rfl (fun w hw => idxV a f cap n c xs p hn w (hm.call hw.fm) he (fun i hi W hF => hp i hi W (hw.fm.trans hF))) rfl ?_)
  refine Tr.step rfl (Tr.val rfl rfl ?_)
  refine Tr.step rfl (Tr.val rfl rfl ?_)
  refine Tr.nil ?_
  refine Tr.thenN ?_
  refine Tr.ret ?_
  refine Tr.leave rfl rfl ?_
  refine Tr.res1 rfl (RsV.tmp rfl) (fun w hw => ?_)
  exact ⟨congrArg Ending.returned (vbool (anyN_idx _ _)), hw.fm⟩

set_option maxRecDepth 100000 in
set_option maxHeartbeats 4000000 in
theorem idxT_some (b o : Nat) (f : FuncId) (cap : Array Value) (n c : Nat) (xs : Nat → (Nat → Int)) (p : (Nat → Int) → Bool) (hn : n ≤ 9223372036854775807) (w : World) (hrow : ∀ i, i < n → Row w b (o + i * 4) [.int .i64 ((xs i) 0), .int .i64 ((xs i) 1), .int .i64 ((xs i) 2), .int .u32 ((xs i) 3)]) (he : Enters Tryd.prog f) (hp : ∀ i, i < n → ∀ W, Fm No w W → Calls Tryd.prog f (#[] ++ [.agg #[.int .i64 ((xs i) 0), .int .i64 ((xs i) 1), .int .i64 ((xs i) 2), .int .u32 ((xs i) 3)]].toArray ++ cap) W (Gives (.bool (p (xs i))) W)) : Calls Tryd.prog 42 #[.slice (some ⟨b, o, none⟩) n c, .func (.func f) #[] cap] w (Gives (.int .i64 (fidx n fun i => p (xs i))) w) := by
  refine calls_enter No Tryd.func42 rfl rfl rfl rfl ?_
  refine Tr.seq ?_
  refine Tr.region ?_
  refine Tr.step rfl (Tr.val rfl rfl ?_)
  refine Tr.nil ?_
  refine Tr.thenN ?_
  refine Tr.seq ?_
  refine Tr.seq ?_
  refine Tr.region ?_
  refine Tr.step rfl (Tr.val rfl rfl ?_)
  refine Tr.step rfl (Tr.blt (v := .int .i64 (n : Int)) rfl (fun _ _ => blt_lenSlice F.und34 _ _ _ _ _ _) rfl ?_)
  refine Tr.step rfl (Tr.val rfl rfl ?_)
  refine Tr.nil ?_
  refine Tr.thenN ?_
  refine Tr.block ?_
  refine Tr.loop (X := Nat) (fun k => [(8, .int .i64 (k : Int)), (7, .int .i64 (n : Int)), (0, .slice (some ⟨b, o, none⟩) n c), (1, .func (.func f) #[] cap)]) (fun k => []) (fun k => k ≤ n ∧ ∀ j, j < k → p (xs j) = false) (fun k => n - k) 0 ⟨Nat.zero_le _, fun j hj => absurd hj (Nat.not_lt_zero _)⟩ [] (by decide) rfl ⟨(lk rfl (by first | rfl | (simp; done) | (simp; omega))), rfl, rfl, rfl, trivial⟩ ?_
  rintro k hΦ
  refine Tr.seq ?_
  refine Tr.region ?_
  refine Tr.step rfl (Tr.val rfl rfl ?_)
  refine Tr.nil ?_
  refine Tr.thenN ?_
  refine Tr.seq ?_
  refine Tr.decide 9 rfl (fun h1 => ?_) (fun h1 => ?_)
  · replace h1 := dT h1
    refine Tr.yes rfl ?_
    refine Tr.skip ?_
    refine Tr.thenN ?_
    refine Tr.seq ?_
    refine Tr.block ?_
    refine Tr.seq ?_
    refine Tr.region ?_
    refine Tr.step rfl (Tr.val rfl rfl ?_)
    refine Tr.step rfl (Tr.val rfl rfl ?_)
    refine Tr.nil ?_
    refine Tr.thenN ?_
    refine Tr.seq ?_
    refine Tr.region ?_
    refine Tr.step rfl (Tr.val rfl rfl ?_)
    refine Tr.step rfl (Tr.val rfl rfl ?_)
    refine Tr.step rfl (Tr.val rfl rfl ?_)
    refine Tr.step rfl (Tr.indexSlice (o' := (o + k * 4)) F.sli34 rfl rfl (by omega) (by omega) (by simp) rfl ?_)
    refine Tr.step rfl (Tr.loadN (vs := [.int .i64 ((xs k) 0), .int .i64 ((xs k) 1), .int .i64 ((xs k) 2), .int .u32 ((xs k) 3)]) F.ty32 rfl ((hrow k (by omega)).cells (fun h => h)) rfl rfl ?_)
    refine Tr.step rfl (Tr.callC (X := Unit) (fun _ => .bool (p (xs k))) (fun _ => []) (fun _ => True) he rfl rfl (fun w hw => (hp k (by omega) w hw.fm).mono fun _ _ q => ⟨(), q.1, q.2, New.nil _ _, trivial⟩) rfl ?_)
    rintro _ _
    refine Tr.nil ?_
    refine Tr.thenN ?_
    refine Tr.decide 16 rfl (fun h2 => ?_) (fun h2 => ?_)
    · skip
      refine Tr.yes rfl ?_
      refine Tr.seq ?_
      refine Tr.region ?_
      refine Tr.step rfl (Tr.val rfl rfl ?_)
      refine Tr.step rfl (Tr.val rfl rfl ?_)
      refine Tr.nil ?_
      refine Tr.thenN ?_
      refine Tr.ret ?_
      refine Tr.blockR ?_
      refine Tr.thenR ?_
      refine Tr.thenR ?_
      refine Tr.blockR ?_
      refine Tr.thenR ?_
      refine Tr.leave rfl rfl ?_
      refine Tr.res1 rfl (RsV.tmp rfl) (fun w hw => ?_)
      exact ⟨congrArg Ending.returned (vint (idx_at (n := n) (q := fun j => p (xs j)) (by omega) (by assumption) hΦ.2).symm), hw.fm⟩
    · skip
      refine Tr.not rfl ?_
      refine Tr.skip ?_
      refine Tr.blockN ?_
      refine Tr.thenN ?_
      refine Tr.region ?_
      refine Tr.step rfl (Tr.valE (.int .i64 ((k : Int) + 1)) rfl (vint (w_i64 (by omega) (by omega))) rfl ?_)
      refine Tr.step rfl (Tr.val rfl rfl ?_)
      refine Tr.nil ?_
      refine Tr.thenN ?_
      exact Tr.again (k + 1) ⟨by omega, allF (q := fun j => p (xs j)) hΦ.2 (by assumption)⟩ (by omega) [] (by decide) rfl ⟨(lk rfl (by first | rfl | (simp; done) | exact vint (by omega))), rfl, rfl, rfl, trivial⟩
  · replace h1 := dF h1
    refine Tr.not rfl ?_
    refine Tr.exit ?_
    refine Tr.thenE ?_
    refine Tr.thenE ?_
    refine Tr.blockHit ?_
    refine Tr.thenN ?_
    refine Tr.seq ?_
    refine Tr.region ?_
    refine Tr.step rfl (Tr.val rfl rfl ?_)
    refine Tr.nil ?_
    refine Tr.thenN ?_
    refine Tr.ret ?_
    refine Tr.leave rfl rfl ?_
    refine Tr.res1 rfl (RsV.tmp rfl) (fun w hw => ?_)
    exact ⟨congrArg Ending.returned (vint (idx_no (fun j hj => hΦ.2 j (by omega))).symm), hw.fm⟩

set_option maxRecDepth 100000 in
set_option maxHeartbeats 4000000 in
theorem idxT_nil (a : Option Addr) (f : FuncId) (cap : Array Value) (c : Nat) (q : Nat → Bool) (w : World) : Calls Tryd.prog 42 #[.slice a 0 c, .func (.func f) #[] cap] w (Gives (.int .i64 (fidx 0 q)) w) := by
  refine calls_enter No Tryd.func42 rfl rfl rfl rfl ?_
  refine Tr.seq ?_
  refine Tr.region ?_
  refine Tr.step rfl (Tr.val rfl rfl ?_)
  refine Tr.nil ?_
  refine Tr.thenN ?_
  refine Tr.seq ?_
  refine Tr.seq ?_
  refine Tr.region ?_
  refine Tr.step rfl (Tr.val rfl rfl ?_)
  refine Tr.step rfl (Tr.blt (v := .int .i64 0) rfl (fun _ _ => blt_lenSlice F.und34 _ _ _ _ _ _) rfl ?_)
  refine Tr.step rfl (Tr.val rfl rfl ?_)
  refine Tr.nil ?_
  refine Tr.thenN ?_
  refine Tr.block ?_
  refine Tr.loopU ?_
  refine Tr.sub (l' := [(8, .int .i64 0), (7, .int .i64 0), (0, .slice a 0 c), (1, .func (.func f) #[] cap)]) (h' := []) ?_ [] (by decide) rfl ⟨rfl, rfl, rfl, rfl, trivial⟩
  refine Tr.roundU ?_
  refine Tr.seq ?_
  refine Tr.region ?_
  refine Tr.step rfl (Tr.valE (.bool false) rfl rfl rfl ?_)
  refine Tr.nil ?_
  refine Tr.thenN ?_
  refine Tr.seq ?_
  refine Tr.not rfl ?_
  refine Tr.exit ?_
  refine Tr.thenE ?_
  refine Tr.thenE ?_
  refine Tr.blockHit ?_
  refine Tr.thenN ?_
  refine Tr.seq ?_
  refine Tr.region ?_
  refine Tr.step rfl (Tr.val rfl rfl ?_)
  refine Tr.nil ?_
  refine Tr.thenN ?_
  refine Tr.ret ?_
  refine Tr.leave rfl rfl ?_
  refine Tr.res1 rfl (RsV.tmp rfl) (fun w hw => ?_)
  exact ⟨congrArg Ending.returned (vint (idx_no (fun j hj => absurd hj (Nat.not_lt_zero _))).symm), hw.fm⟩

theorem idxT (a : Option Addr) (f : FuncId) (cap : Array Value) (n c : Nat) (xs : Nat → (Nat → Int)) (p : (Nat → Int) → Bool) (hn : n ≤ 9223372036854775807) (w : World) (hm : SlM w a n 4 fun i => [.int .i64 ((xs i) 0), .int .i64 ((xs i) 1), .int .i64 ((xs i) 2), .int .u32 ((xs i) 3)]) (he : Enters Tryd.prog f) (hp : ∀ i, i < n → ∀ W, Fm No w W → Calls Tryd.prog f (#[] ++ [.agg #[.int .i64 ((xs i) 0), .int .i64 ((xs i) 1), .int .i64 ((xs i) 2), .int .u32 ((xs i) 3)]].toArray ++ cap) W (Gives (.bool (p (xs i))) W)) : Calls Tryd.prog 42 #[.slice a n c, .func (.func f) #[] cap] w (Gives (.int .i64 (fidx n fun i => p (xs i))) w) := by
  rcases hm with rfl | ⟨b, o, rfl, hr⟩
  · exact idxT_nil a f cap c _ w
  · exact idxT_some b o f cap n c xs p hn w hr he hp

set_option maxRecDepth 100000 in
set_option maxHeartbeats 4000000 in
theorem contT (a : Option Addr) (f : FuncId) (cap : Array Value) (n c : Nat) (xs : Nat → (Nat → Int)) (p : (Nat → Int) → Bool) (hn : n ≤ 9223372036854775807) (w : World) (hm : SlM w a n 4 fun i => [.int .i64 ((xs i) 0), .int .i64 ((xs i) 1), .int .i64 ((xs i) 2), .int .u32 ((xs i) 3)]) (he : Enters Tryd.prog f) (hp : ∀ i, i < n → ∀ W, Fm No w W → Calls Tryd.prog f (#[] ++ [.agg #[.int .i64 ((xs i) 0), .int .i64 ((xs i) 1), .int .i64 ((xs i) 2), .int .u32 ((xs i) 3)]].toArray ++ cap) W (Gives (.bool (p (xs i))) W)) : Calls Tryd.prog 36 #[.slice a n c, .func (.func f) #[] cap] w (Gives (.bool (anyN n fun i => p (xs i))) w) := by
  refine calls_enter No Tryd.func36 rfl rfl rfl rfl ?_
  refine Tr.seq ?_
  refine Tr.region ?_
  refine Tr.step rfl (Tr.val rfl rfl ?_)
  refine Tr.nil ?_
  refine Tr.thenN ?_
  refine Tr.seq ?_
  refine Tr.region ?_
  refine Tr.step rfl (Tr.val rfl rfl ?_)
  refine Tr.step rfl (Tr.val rfl rfl ?_)
  refine Tr.step rfl (Tr.call (v := .int .i64 (fidx n fun i => p (xs i))) F.en42 rfl (fun w hw => idxT a f cap n c xs p hn w (hm.call hw.fm) he (fun i hi W hF => hp i hi W (hw.fm.trans hF))) rfl ?_)
  refine Tr.step rfl (Tr.val rfl rfl ?_)
  refine Tr.step rfl (Tr.val rfl rfl ?_)
  refine Tr.nil ?_
  refine Tr.thenN ?_
  refine Tr.ret ?_
  refine Tr.leave rfl rfl ?_
  refine Tr.res1 rfl (RsV.tmp rfl) (fun w hw => ?_)
  exact ⟨congrArg Ending.returned (vbool (anyN_idx _ _)), hw.fm⟩

set_option maxRecDepth 100000 in
set_option maxHeartbeats 4000000 in
theorem in1 (x lo hi : Int) (b1 b2 : Nat) (w : World) (h1 : Row w b1 0 [.int .i64 lo]) (h2 : Row w b2 0 [.int .i64 hi]) : Calls Tryd.prog 24 #[.int .i64 x, .pointer (some ⟨b1, 0, none⟩), .pointer (some ⟨b2, 0, none⟩)] w (Gives (.bool (decide (x < lo) || decide (hi < x))) w) := by
  refine calls_enter No Tryd.func24 rfl rfl rfl rfl ?_
  refine Tr.seq ?_
  refine Tr.region ?_
  refine Tr.step rfl (Tr.val rfl rfl ?_)
  refine Tr.nil ?_
  refine Tr.thenN ?_
  refine Tr.seq ?_
  refine Tr.region ?_
  refine Tr.step rfl (Tr.val rfl rfl ?_)
  refine Tr.step rfl (Tr.load1 F.ty3 rfl (h1.toCell (fun h => h) (show [.int .i64 lo][0]? = some _ from rfl) rfl) rfl ?_)
  refine Tr.step rfl (Tr.val rfl rfl ?_)
  refine Tr.step rfl (Tr.val rfl rfl ?_)
  refine Tr.decide 8 rfl (fun h1 => ?_) (fun h1 => ?_)
  · replace h1 := dT h1
    refine Tr.known 7 true rfl (by exact decide_eq_true h1) ?_
    refine Tr.stepNo rfl rfl rfl rfl rfl rfl ?_
    refine Tr.stepNo rfl rfl rfl rfl rfl rfl ?_
    refine Tr.stepNo rfl rfl rfl rfl rfl rfl ?_
    refine Tr.step rfl (Tr.val rfl rfl ?_)
    refine Tr.step rfl (Tr.val rfl rfl ?_)
    refine Tr.nil ?_
    refine Tr.thenN ?_
    refine Tr.ret ?_
    refine Tr.leave rfl rfl ?_
    refine Tr.res1 rfl (RsV.tmp rfl) (fun w hw => ?_)
    exact ⟨by simp [*], hw.fm⟩
  · replace h1 := dF h1
    refine Tr.known 7 false rfl (by exact decide_eq_false h1) ?_
    refine Tr.stepYes rfl rfl rfl rfl (Tr.val rfl rfl ?_)
    refine Tr.stepYes rfl rfl rfl rfl (Tr.load1 F.ty3 rfl (h2.toCell (fun h => h) (show [.int .i64 hi][0]? = some _ from rfl) rfl) rfl ?_)
    refine Tr.stepYes rfl rfl rfl rfl (Tr.val rfl rfl ?_)
    refine Tr.step rfl (Tr.val rfl rfl ?_)
    refine Tr.step rfl (Tr.val rfl rfl ?_)
    refine Tr.nil ?_
    refine Tr.thenN ?_
    refine Tr.ret ?_
    refine Tr.leave rfl rfl ?_
    refine Tr.res1 rfl (RsV.tmp rfl) (fun w hw => ?_)
    exact ⟨by simp [*], hw.fm⟩

set_option maxRecDepth 100000 in
set_option maxHeartbeats 4000000 in
theorem in_n (lo hi : Int) (a : Option Addr) (n c : Nat) (xs : Nat → Int) (hn : n ≤ 9223372036854775807) (w : World) (hm : SlM w a n 1 fun i => [.int .i64 (xs i)]) : Calls Tryd.prog 18 #[.int .i64 lo, .int .i64 hi, .slice a n c] w (Gives (.bool (!(anyN n fun i => decide (xs i < lo) || decide (hi < xs i)))) w) := by
  refine calls_enter No Tryd.func18 rfl rfl rfl rfl ?_
  refine Tr.seq ?_
  refine Tr.region ?_
  refine Tr.step rfl (Tr.box rfl rfl rfl ?_)
  rintro u1
  refine Tr.step rfl (Tr.box rfl rfl rfl ?_)
  rintro u2
  refine Tr.step rfl (Tr.val rfl rfl ?_)
  refine Tr.nil ?_
  refine Tr.thenN ?_
  refine Tr.seq ?_
  refine Tr.region ?_
  refine Tr.step rfl (Tr.val rfl rfl ?_)
  refine Tr.step rfl (Tr.val rfl rfl ?_)
  refine Tr.step rfl (Tr.call (v := .bool (anyN n fun i => decide (xs i < lo) || decide (hi < xs i))) F.en23 rfl (fun w hw => contInt a 24 _ n c xs (fun x => decide (x < lo) || decide (hi < x)) hn w (hm.call hw.fm) F.en24 (fun i hi W hF => in1 (xs i) lo _ _ _ W ((hw.row 1 1 rfl rfl).call hF) ((hw.row 0 1 rfl rfl).call hF))) rfl ?_)
  refine Tr.step rfl (Tr.val rfl rfl ?_)
  refine Tr.step rfl (Tr.val rfl rfl ?_)
  refine Tr.nil ?_
  refine Tr.thenN ?_
  refine Tr.ret ?_
  refine Tr.leave rfl rfl ?_
  refine Tr.res1 rfl (RsV.tmp rfl) (fun w hw => ?_)
  exact ⟨rfl, hw.fm⟩

set_option maxRecDepth 100000 in
set_option maxHeartbeats 4000000 in
theorem find1 (e : Ob) (id : Int) (b1 : Nat) (w : World) (h1 : Row w b1 0 [.int .i64 id]) : Calls Tryd.prog 17 #[.agg #[.int .i64 e.id, .int .i64 (e.m 0), .int .i64 (e.m 1), .int .i64 (e.m 2), .int .i64 (e.m 3), .int .i64 (e.m 4), .int .i64 (e.m 5), .int .i64 (e.m 6), .int .i64 (e.m 7), .int .i64 (e.m 8), .int .i64 (e.m 9), .int .i64 (e.m 10), .int .i64 (e.m 11), .int .i64 (e.m 12), .int .i64 (e.m 13), .int .i64 (e.m 14), .int .i64 (e.m 15), .slice e.va e.vn e.vc, .slice e.ta e.tn e.tc], .pointer (some ⟨b1, 0, none⟩)] w (Gives (.bool (e.id == id)) w) := by
  refine calls_enter No Tryd.func17 rfl rfl rfl rfl ?_
  refine Tr.seq ?_
  refine Tr.region ?_
  refine Tr.step rfl (Tr.box rfl rfl rfl ?_)
  rintro u1
  refine Tr.step rfl (Tr.val rfl rfl ?_)
  refine Tr.nil ?_
  refine Tr.thenN ?_
  refine Tr.seq ?_
  refine Tr.region ?_
  refine Tr.step rfl (Tr.fieldAddr (o' := 0) F.fld36_0 rfl rfl rfl ?_)
  refine Tr.step rfl (Tr.load1 F.ty3 rfl (Cell.own 0 rfl rfl) rfl ?_)
  refine Tr.step rfl (Tr.load1 F.ty3 rfl (h1.toCell (fun h => h) (show [.int .i64 id][0]? = some _ from rfl) rfl) rfl ?_)
  refine Tr.step rfl (Tr.val rfl rfl ?_)
  refine Tr.step rfl (Tr.val rfl rfl ?_)
  refine Tr.nil ?_
  refine Tr.thenN ?_
  refine Tr.ret ?_
  refine Tr.leave rfl rfl ?_
  refine Tr.res1 rfl (RsV.tmp rfl) (fun w hw => ?_)
  exact ⟨rfl, hw.fm⟩

set_option maxRecDepth 100000 in
set_option maxHeartbeats 4000000 in
theorem find_n (sc : Sc) (id : Int) (w : World) (hn : sc.on ≤ 9223372036854775807) (hm : SlM w sc.oa sc.on 19 fun i => obC (sc.ob i)) : Calls Tryd.prog 9 #[scV sc, .int .i64 id] w (Gives (.tuple #[.int .i64 (max 0 (fidx sc.on fun i => (sc.ob i).id == id)), .bool (decide (0 ≤ (fidx sc.on fun i => (sc.ob i).id == id)))]) w) := by
  refine calls_enter No Tryd.func9 rfl rfl rfl rfl ?_
  refine Tr.seq ?_
  refine Tr.region ?_
  refine Tr.step rfl (Tr.box rfl rfl rfl ?_)
  rintro u1
  refine Tr.step rfl (Tr.box rfl rfl rfl ?_)
  rintro u2
  refine Tr.step rfl (Tr.val rfl rfl ?_)
  refine Tr.step rfl (Tr.val rfl rfl ?_)
  refine Tr.nil ?_
  refine Tr.thenN ?_
  refine Tr.seq ?_
  refine Tr.region ?_
  refine Tr.step rfl (Tr.fieldAddr (o' := 18) F.fld28_3 rfl rfl rfl ?_)
  refine Tr.step rfl (Tr.load1 F.ty26 rfl (Cell.own 1 rfl rfl) rfl ?_)
  refine Tr.step rfl (Tr.val rfl rfl ?_)
  refine Tr.step rfl (Tr.call (v := .int .i64 (fidx sc.on fun i => (sc.ob i).id == id)) F.en16 rfl (fun w hw => idxOb sc.oa 17 _ sc.on sc.oc sc.ob (fun e => e.id == id) hn w (hm.call hw.fm) F.en17 (fun i hi W hF => find1 (sc.ob i) id _ W ((hw.row 0 1 rfl rfl).call hF))) rfl ?_)
  refine Tr.step rfl (Tr.val rfl rfl ?_)
  refine Tr.nil ?_
  refine Tr.thenN ?_
  refine Tr.seq ?_
  refine Tr.region ?_
  refine Tr.step rfl (Tr.val rfl rfl ?_)
  refine Tr.step rfl (Tr.blt (v := .int .i64 (max 0 (fidx sc.on fun i => (sc.ob i).id == id))) rfl (fun _ _ => blt_max _ _ _ _ _ _) rfl ?_)
  refine Tr.step rfl (Tr.val rfl rfl ?_)
  refine Tr.step rfl (Tr.val rfl rfl ?_)
  refine Tr.step rfl (Tr.val rfl rfl ?_)
  refine Tr.step rfl (Tr.val rfl rfl ?_)
  refine Tr.nil ?_
  refine Tr.thenN ?_
  refine Tr.ret ?_
  refine Tr.leave rfl rfl ?_
  refine Tr.res2 rfl (RsV.tmp rfl) (RsV.tmp rfl) (fun w hw => ?_)
  exact ⟨rfl, hw.fm⟩

set_option maxRecDepth 100000 in
set_option maxHeartbeats 4000000 in
theorem holds1 (e x : Ob) (b1 : Nat) (w : World) (h1 : Row w b1 0 (obC x)) : Calls Tryd.prog 31 #[.agg #[.int .i64 e.id, .int .i64 (e.m 0), .int .i64 (e.m 1), .int .i64 (e.m 2), .int .i64 (e.m 3), .int .i64 (e.m 4), .int .i64 (e.m 5), .int .i64 (e.m 6), .int .i64 (e.m 7), .int .i64 (e.m 8), .int .i64 (e.m 9), .int .i64 (e.m 10), .int .i64 (e.m 11), .int .i64 (e.m 12), .int .i64 (e.m 13), .int .i64 (e.m 14), .int .i64 (e.m 15), .slice e.va e.vn e.vc, .slice e.ta e.tn e.tc], .pointer (some ⟨b1, 0, none⟩)] w (Gives (.bool (e.id == x.id)) w) := by
  refine calls_enter No Tryd.func31 rfl rfl rfl rfl ?_
  refine Tr.seq ?_
  refine Tr.region ?_
  refine Tr.step rfl (Tr.box rfl rfl rfl ?_)
  rintro u1
  refine Tr.step rfl (Tr.val rfl rfl ?_)
  refine Tr.nil ?_
  refine Tr.thenN ?_
  refine Tr.seq ?_
  refine Tr.region ?_
  refine Tr.step rfl (Tr.fieldAddr (o' := 0) F.fld36_0 rfl rfl rfl ?_)
  refine Tr.step rfl (Tr.load1 F.ty3 rfl (Cell.own 0 rfl rfl) rfl ?_)
  refine Tr.step rfl (Tr.fieldAddr (o' := 0) F.fld36_0 rfl rfl rfl ?_)
  refine Tr.step rfl (Tr.load1 F.ty3 rfl (h1.toCell (fun h => h) (show [.int .i64 x.id, .int .i64 (x.m 0), .int .i64 (x.m 1), .int .i64 (x.m 2), .int .i64 (x.m 3), .int .i64 (x.m 4), .int .i64 (x.m 5), .int .i64 (x.m 6), .int .i64 (x.m 7), .int .i64 (x.m 8), .int .i64 (x.m 9), .int .i64 (x.m 10), .int .i64 (x.m 11), .int .i64 (x.m 12), .int .i64 (x.m 13), .int .i64 (x.m 14), .int .i64 (x.m 15), .slice x.va x.vn x.vc, .slice x.ta x.tn x.tc][0]? = some _ from rfl) rfl) rfl ?_)
  refine Tr.step rfl (Tr.val rfl rfl ?_)
  refine Tr.step rfl (Tr.val rfl rfl ?_)
  refine Tr.nil ?_
  refine Tr.thenN ?_
  refine Tr.ret ?_
  refine Tr.leave rfl rfl ?_
  refine Tr.res1 rfl (RsV.tmp rfl) (fun w hw => ?_)
  exact ⟨rfl, hw.fm⟩

set_option maxRecDepth 100000 in
set_option maxHeartbeats 4000000 in
theorem holds2 (v : Nat → Int) (w : World) : Calls Tryd.prog 33 #[.agg #[.int .i64 (v 0), .int .i64 (v 1), .int .i64 (v 2)]] w (Gives (.bool (farV v)) w) := by
  refine calls_enter No Tryd.func33 rfl rfl rfl rfl ?_
  refine Tr.seq ?_
  refine Tr.region ?_
  refine Tr.step rfl (Tr.box rfl rfl rfl ?_)
  rintro u1
  refine Tr.step rfl (Tr.val rfl rfl ?_)
  refine Tr.nil ?_
  refine Tr.thenN ?_
  refine Tr.seq ?_
  refine Tr.region ?_
  refine Tr.step rfl (Tr.indexArr (o' := 0) F.arr38 rfl rfl (by decide) (by decide) (rfl) rfl ?_)
  refine Tr.step rfl (Tr.load1 F.ty2 rfl (Cell.own 0 rfl rfl) rfl ?_)
  refine Tr.step rfl (Tr.indexArr (o' := 1) F.arr38 rfl rfl (by decide) (by decide) (rfl) rfl ?_)
  refine Tr.step rfl (Tr.load1 F.ty2 rfl (Cell.own 0 rfl rfl) rfl ?_)
  refine Tr.step rfl (Tr.indexArr (o' := 2) F.arr38 rfl rfl (by decide) (by decide) (rfl) rfl ?_)
  refine Tr.step rfl (Tr.load1 F.ty2 rfl (Cell.own 0 rfl rfl) rfl ?_)
  refine Tr.step rfl (Tr.blt (v := .int .i64 (min (min (v 0) (v 1)) (v 2))) rfl (fun _ _ => blt_min3 _ _ _ _ _ _ _) rfl ?_)
  refine Tr.step rfl (Tr.val rfl rfl ?_)
  refine Tr.step rfl (Tr.val rfl rfl ?_)
  refine Tr.decide 11 rfl (fun h1 => ?_) (fun h1 => ?_)
  · replace h1 := dT h1
    refine Tr.known 10 true rfl (by exact decide_eq_true h1) ?_
    refine Tr.stepNo rfl rfl rfl rfl rfl rfl ?_
    refine Tr.stepNo rfl rfl rfl rfl rfl rfl ?_
    refine Tr.stepNo rfl rfl rfl rfl rfl rfl ?_
    refine Tr.stepNo rfl rfl rfl rfl rfl rfl ?_
    refine Tr.stepNo rfl rfl rfl rfl rfl rfl ?_
    refine Tr.stepNo rfl rfl rfl rfl rfl rfl ?_
    refine Tr.stepNo rfl rfl rfl rfl rfl rfl ?_
    refine Tr.stepNo rfl rfl rfl rfl rfl rfl ?_
    refine Tr.step rfl (Tr.val rfl rfl ?_)
    refine Tr.step rfl (Tr.val rfl rfl ?_)
    refine Tr.nil ?_
    refine Tr.thenN ?_
    refine Tr.ret ?_
    refine Tr.leave rfl rfl ?_
    refine Tr.res1 rfl (RsV.tmp rfl) (fun w hw => ?_)
    exact ⟨congrArg Ending.returned (vbool (by simp only [farV, h1, decide_true, Bool.true_or])), hw.fm⟩
  · replace h1 := dF h1
    refine Tr.known 10 false rfl (by exact decide_eq_false h1) ?_
    refine Tr.stepYes rfl rfl rfl rfl (Tr.indexArr (o' := 0) F.arr38 rfl rfl (by decide) (by decide) (rfl) rfl ?_)
    refine Tr.stepYes rfl rfl rfl rfl (Tr.load1 F.ty2 rfl (Cell.own 0 rfl rfl) rfl ?_)
    refine Tr.stepYes rfl rfl rfl rfl (Tr.indexArr (o' := 1) F.arr38 rfl rfl (by decide) (by decide) (rfl) rfl ?_)
    refine Tr.stepYes rfl rfl rfl rfl (Tr.load1 F.ty2 rfl (Cell.own 0 rfl rfl) rfl ?_)
    refine Tr.stepYes rfl rfl rfl rfl (Tr.indexArr (o' := 2) F.arr38 rfl rfl (by decide) (by decide) (rfl) rfl ?_)
    refine Tr.stepYes rfl rfl rfl rfl (Tr.load1 F.ty2 rfl (Cell.own 0 rfl rfl) rfl ?_)
    refine Tr.stepYes rfl rfl rfl rfl (Tr.blt (v := .int .i64 (max (max (v 0) (v 1)) (v 2))) rfl (fun _ _ => blt_max3 _ _ _ _ _ _ _) rfl ?_)
    refine Tr.stepYes rfl rfl rfl rfl (Tr.val rfl rfl ?_)
    refine Tr.step rfl (Tr.val rfl rfl ?_)
    refine Tr.step rfl (Tr.val rfl rfl ?_)
    refine Tr.nil ?_
    refine Tr.thenN ?_
    refine Tr.ret ?_
    refine Tr.leave rfl rfl ?_
    refine Tr.res1 rfl (RsV.tmp rfl) (fun w hw => ?_)
    exact ⟨congrArg Ending.returned (vbool (by simp only [farV, h1, decide_false, Bool.false_or])), hw.fm⟩

set_option maxRecDepth 100000 in
set_option maxHeartbeats 4000000 in
theorem holds3 (t : Nat → Int) (x : Ob) (hx : x.vn ≤ 9223372036854775807) (b1 : Nat) (w : World) (h1 : Row w b1 0 (obC x)) : Calls Tryd.prog 35 #[.agg #[.int .i64 (t 0), .int .i64 (t 1), .int .i64 (t 2), .int .u32 (t 3)], .pointer (some ⟨b1, 0, none⟩)] w (Gives (.bool (outT x.vn t)) w) := by
  refine calls_enter No Tryd.func35 rfl rfl rfl rfl ?_
  refine Tr.seq ?_
  refine Tr.region ?_
  refine Tr.step rfl (Tr.box rfl rfl rfl ?_)
  rintro u1
  refine Tr.step rfl (Tr.val rfl rfl ?_)
  refine Tr.nil ?_
  refine Tr.thenN ?_
  refine Tr.seq ?_
  refine Tr.region ?_
  refine Tr.step rfl (Tr.fieldAddr (o' := 17) F.fld36_2 rfl rfl rfl ?_)
  refine Tr.step rfl (Tr.load1 F.ty33 rfl (h1.toCell (fun h => h) (show [.int .i64 x.id, .int .i64 (x.m 0), .int .i64 (x.m 1), .int .i64 (x.m 2), .int .i64 (x.m 3), .int .i64 (x.m 4), .int .i64 (x.m 5), .int .i64 (x.m 6), .int .i64 (x.m 7), .int .i64 (x.m 8), .int .i64 (x.m 9), .int .i64 (x.m 10), .int .i64 (x.m 11), .int .i64 (x.m 12), .int .i64 (x.m 13), .int .i64 (x.m 14), .int .i64 (x.m 15), .slice x.va x.vn x.vc, .slice x.ta x.tn x.tc][17]? = some _ from rfl) rfl) rfl ?_)
  refine Tr.step rfl (Tr.blt (v := .int .i64 (x.vn : Int)) rfl (fun _ _ => blt_lenSlice F.und33 _ _ _ _ _ _) rfl ?_)
  refine Tr.step rfl (Tr.valE (.int .i64 ((x.vn : Int) - 1)) rfl (vint (w_i64 (by omega) (by omega))) rfl ?_)
  refine Tr.step rfl (Tr.fieldAddr (o' := 0) F.fld32_0 rfl rfl rfl ?_)
  refine Tr.step rfl (Tr.load1 F.ty3 rfl (Cell.own 0 rfl rfl) rfl ?_)
  refine Tr.step rfl (Tr.fieldAddr (o' := 1) F.fld32_1 rfl rfl rfl ?_)
  refine Tr.step rfl (Tr.load1 F.ty3 rfl (Cell.own 0 rfl rfl) rfl ?_)
  refine Tr.step rfl (Tr.fieldAddr (o' := 2) F.fld32_2 rfl rfl rfl ?_)
  refine Tr.step rfl (Tr.load1 F.ty3 rfl (Cell.own 0 rfl rfl) rfl ?_)
  refine Tr.step rfl (Tr.buildSl #[.int .i64 (t 0), .int .i64 (t 1), .int .i64 (t 2)] F.und64 F.ty3 (by decide) (by decide) rfl (by kernel_rfl) rfl ?_)
  rintro u2
  refine Tr.step rfl (Tr.call (v := .bool (!(anyN 3 fun i => decide ((tri3 t i) < 0) || decide ((x.vn : Int) - 1 < (tri3 t i))))) F.en18 rfl (fun w hw => in_n 0 ((x.vn : Int) - 1) _ 3 3 (tri3 t) (by decide) w (.inr ⟨_, 0, rfl, fun i hi => tri3_row (hw.row 0 3 rfl rfl) i hi⟩)) rfl ?_)
  refine Tr.step rfl (Tr.val rfl rfl ?_)
  refine Tr.step rfl (Tr.val rfl rfl ?_)
  refine Tr.nil ?_
  refine Tr.thenN ?_
  refine Tr.ret ?_
  refine Tr.leave rfl rfl ?_
  refine Tr.res1 rfl (RsV.tmp rfl) (fun w hw => ?_)
  exact ⟨by simp [outT, Bool.not_not], hw.fm⟩

end Go.Proofs.YtfcbdjjpmgmpoaaDoor

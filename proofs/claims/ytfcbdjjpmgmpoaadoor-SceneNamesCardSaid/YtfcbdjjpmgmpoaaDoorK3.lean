/- Rules of the calculus for calls, for entering and leaving a function, and for values that are built. -/
import Derived.Test.YtfcbdjjpmgmpoaaDoorK2
import Derived.Laws.MakeOwn
namespace Go.Ka
open Go.RowKit
open Go.Proofs (Enters enters_of)

variable {c : Cx} {l : Fr} {h h' : Hp} {K : Act → World → Prop}

/-! ### Entering, leaving -/
def initF : Nat → List Value → Fr
  | _, [] => []
  | i, v :: vs => (i, v) :: initF (i + 1) vs
theorem look_initF : ∀ (vs : List Value) (k i : Nat) (v : Value), look (initF k vs) i = some v → ∃ j, i = k + j ∧ vs[j]? = some v
  | [], k, i, v, hl => by simp [initF, look] at hl
  | u :: vs, k, i, v, hl => by
    by_cases e : k = i
    · subst e
      simp only [initF, look_cons_same] at hl
      exact ⟨0, rfl, by simpa using hl⟩
    · simp only [initF] at hl
      rw [look_cons_other _ _ e] at hl
      obtain ⟨j, h1, h2⟩ := look_initF vs (k + 1) i v hl
      exact ⟨j + 1, by omega, by simpa using h2⟩
/-- What a function's body must come to. -/
def LeaveK (c : Cx) (fn : Func) (R : Ending → World → Prop) (a : Act) (w : World) : Prop := ∃ v, (results fn a.tmps).run c.P w = .ok v w ∧ R (.returned v) w
abbrev Post (P : Program) (fn : Func) (R : Ending → World → Prop) : Exit → Act → World → Prop := bodyPostM (Fc none) 99 P fn R
theorem calls_enter {P : Program} {f : FuncId} {fn : Func} {code : Code} {args : Array Value} {vs : List Value} {w : World} {R : Ending → World → Prop} {n : Nat} (M : Nat → Prop) (hf : P.funcs[f]? = some fn) (hb : fn.body = some code) (hn : fn.ntmps = n) (ha : args = vs.toArray) (hle : Nat.ble vs.length n = true)
    (t : Tr (Cx.mk0 P none n [] M w) (initF 0 vs) [] ((Cx.mk0 P none n [] M w).W code (Post P fn R))) : Calls P f args w R := by
  subst ha hn
  have hle' : vs.length ≤ fn.ntmps := by simpa using hle
  refine calls_of_Fc (n := 99) (callsIn_of_wp_marks hf hb trivial (t _ w ⟨by simp; omega, rfl, ?_⟩ (St.nil (c := Cx.mk0 P none _ [] M w) trivial)))
  intro i v hi
  obtain ⟨j, rfl, hj⟩ := look_initF vs 0 i v hi
  have hlt : j < vs.length := (List.getElem?_eq_some_iff.1 hj).1
  rw [Nat.zero_add, Array.getD_eq_getD_getElem?, Array.getElem?_append_left (by simpa using hlt)]
  simp [hj]
section leave
variable {fn : Func} {R : Ending → World → Prop}
theorem Tr.leave (hds : c.ds = []) (hr : c.r = none) (t : Tr c l h (LeaveK c fn R)) : Tr c l h (Post c.P fn R .ret) := fun a w ha hw => by
  show LeavesInM _ _ _ _ _ _ a.defers _ _
  rw [ha.defers, hds]
  exact t a w ha hw
theorem Tr.leaveN (hds : c.ds = []) (hr : c.r = none) (t : Tr c l h (LeaveK c fn R)) : Tr c l h (Post c.P fn R .normal) := Tr.leave hds hr t
def markD (D : Nat) : Deferred := { target := .collected D, args := #[] }
theorem Tr.leaveM {D : Nat} (k : Nat) (hds : c.ds = [markD D]) (hr : c.r = none) (hk : h[k]? = some (D, .deferred (some []))) (hJ : ∀ w, c.J w) (t : Tr c l (h.set k (D, .deferred none)) (LeaveK c fn R)) : Tr c l h (Post c.P fn R .ret) := fun a w ha hw => by
  show LeavesInM _ _ _ _ _ _ a.defers _ _
  rw [ha.defers, hds]
  have hD := hw.get hk
  refine ⟨by simp, .inl ⟨D, _, rfl, run_takeDeferred hD, ?_⟩⟩
  refine t a _ ha (hw.turn hk rfl rfl rfl (by simp [World.putObj]) (fun i hi => World.putObj_heap_other (fun e => hi e)) (World.putObj_heap_same (Array.getElem?_eq_some_iff.1 hD).1))
theorem Tr.leaveMN {D : Nat} (k : Nat) (hds : c.ds = [markD D]) (hr : c.r = none) (hk : h[k]? = some (D, .deferred (some []))) (hJ : ∀ w, c.J w) (t : Tr c l (h.set k (D, .deferred none)) (LeaveK c fn R)) : Tr c l h (Post c.P fn R .normal) := Tr.leaveM k hds hr hk hJ t

def okM (h : Hp) : List (Nat × Nat) → Prop
  | [] => True
  | (k, D) :: r => h[k]? = some (D, .deferred (some [])) ∧ okM (h.set k (D, .deferred none)) r
def setM (h : Hp) : List (Nat × Nat) → Hp
  | [] => h
  | (k, D) :: r => setM (h.set k (D, .deferred none)) r
theorem leaveMs (hJ : ∀ w, c.J w) {a : Act} (ha : Has c.n c.ds l a) : ∀ (r : List (Nat × Nat)) (h : Hp) (w : World), okM h r → St c w h → (∀ w', St c w' (setM h r) → LeaveK c fn R a w') → LeavesInM (Fc none) 99 c.P fn a.tmps R (r.map fun p => markD p.2) .returning w
  | [], h, w, _, hw, t => t w hw
  | (k, D) :: r, h, w, hk, hw, t => by
    have hD := hw.get hk.1
    exact ⟨by simp, .inl ⟨D, _, rfl, run_takeDeferred hD, leaveMs hJ ha r _ _ hk.2 (hw.turn hk.1 rfl rfl rfl (by simp [World.putObj]) (fun i hi => World.putObj_heap_other (fun e => hi e)) (World.putObj_heap_same (Array.getElem?_eq_some_iff.1 hD).1)) t⟩⟩
theorem Tr.leaveD (r : List (Nat × Nat)) (hds : c.ds = r.map fun p => markD p.2) (hr : c.r = none) (hk : okM h r) (hJ : ∀ w, c.J w) (t : Tr c l (setM h r) (LeaveK c fn R)) : Tr c l h (Post c.P fn R .ret) := fun a w ha hw => by
  show LeavesInM _ _ _ _ _ _ a.defers _ _
  rw [ha.defers, hds]
  exact leaveMs hJ ha r h w hk hw (fun w' hw' => t a w' ha hw')
theorem Tr.leaveDN (r : List (Nat × Nat)) (hds : c.ds = r.map fun p => markD p.2) (hr : c.r = none) (hk : okM h r) (hJ : ∀ w, c.J w) (t : Tr c l (setM h r) (LeaveK c fn R)) : Tr c l h (Post c.P fn R .normal) := Tr.leaveD r hds hr hk hJ t
def rv (tmps : Array Value) : ResultVar → Sem Value
  | .tmp t => pure (tmps.getD t undef)
  | .cell a t => do loadVar t (← asAddr (tmps.getD a undef))
/-- A result's value. -/
def RsV (c : Cx) (l : Fr) (h : Hp) (r : ResultVar) (v : Value) : Prop := ∀ a w, Has c.n c.ds l a → St c w h → (rv a.tmps r).run c.P w = .ok v w
theorem RsV.tmp {t : Nat} {v : Value} (hl : look l t = some v) : RsV c l h (.tmp t) v := fun a w ha hw => by
  have := ha.all t v hl
  simp only [rv, this]; rfl
theorem RsV.cell1 {t T s b : Nat} {z v : Value} (hl : look l t = some (.pointer (some ⟨b, 0, none⟩))) (hT : tyv c.P T = some (z, s, false)) (hc : Cell c h b 0 v) : RsV c l h (.cell t T) v := fun a w ha hw => by
  have := ha.all t _ hl
  simp only [rv, this, asAddr, Sem.run_bind, Sem.run_pure, Result.andThen_ok, run_load1 hT (hc w hw)]
theorem RsV.cellN {t T s b : Nat} {z : Value} {vs : List Value} (hl : look l t = some (.pointer (some ⟨b, 0, none⟩))) (hT : tyv c.P T = some (z, s, true)) (hc : Cells c h b 0 vs) (hs : vs.length = s) : RsV c l h (.cell t T) (.agg vs.toArray) := fun a w ha hw => by
  have := ha.all t _ hl
  simp only [rv, this, asAddr, Sem.run_bind, Sem.run_pure, Result.andThen_ok, run_loadN hT hs (fun i v hi => hc i v hi w hw)]
theorem results_rv (fn : Func) (tmps : Array Value) : results fn tmps = (do let vs ← fn.results.mapM (rv tmps); pure (if h : vs.size = 1 then vs[0] else .tuple vs)) := rfl
theorem Tr.res0 (hr : fn.results = #[]) (hR : ∀ w, St c w h → R (.returned (.tuple #[])) w) : Tr c l h (LeaveK c fn R) := fun a w ha hw => ⟨_, by simp [results_rv, hr], hR w hw⟩
theorem Tr.res1 {r : ResultVar} {v : Value} (hr : fn.results = #[r]) (h1 : RsV c l h r v) (hR : ∀ w, St c w h → R (.returned v) w) : Tr c l h (LeaveK c fn R) := fun a w ha hw => ⟨_, by simp [results_rv, hr, h1 a w ha hw], hR w hw⟩
theorem Tr.res2 {r1 r2 : ResultVar} {v1 v2 : Value} (hr : fn.results = #[r1, r2]) (h1 : RsV c l h r1 v1) (h2 : RsV c l h r2 v2) (hR : ∀ w, St c w h → R (.returned (.tuple #[v1, v2])) w) : Tr c l h (LeaveK c fn R) := fun a w ha hw => ⟨_, by simp [results_rv, hr, h1 a w ha hw, h2 a w ha hw], hR w hw⟩
theorem Tr.res3 {r1 r2 r3 : ResultVar} {v1 v2 v3 : Value} (hr : fn.results = #[r1, r2, r3]) (h1 : RsV c l h r1 v1) (h2 : RsV c l h r2 v2) (h3 : RsV c l h r3 v3) (hR : ∀ w, St c w h → R (.returned (.tuple #[v1, v2, v3])) w) : Tr c l h (LeaveK c fn R) := fun a w ha hw => ⟨_, by simp [results_rv, hr, h1 a w ha hw, h2 a w ha hw, h3 a w ha hw], hR w hw⟩
end leave

/-! ### Calls -/
/-- What a function hands back, and that nothing that lay has turned. -/
abbrev Gives (v : Value) (w : World) (e : Ending) (w' : World) : Prop := e = .returned v ∧ Fm No w w'
section call
variable {dst : Option Nat} {ty : TypeId} {pos : String} {af : Array Edge} {gd : Option (Nat × Bool)} {ats : Array TypeId} {args : Array Operand} {vs : List Value}
theorem args_eq {n : Nat} {ds : List Deferred} {a : Act} (ha : Has n ds l a) (hv : evs l args.toList = some vs) : args.map a.eval = vs.toArray := Array.ext' (by rw [Array.toList_map, ha.evs hv])
theorem OpK.enter {o : Oper} {a : Act} {w w' : World} {f : FuncId} {xs : Array Value} (hd : ∀ c, o.op ≠ .defer c) (hr : (execOp a.eval o).run c.P w = .ok (.enter f xs) w') (hk : Calls c.P f xs w' fun e w'' => ∃ v, e = .returned v ∧ K (a.put o.dst v) w'') : OpK c.P c.r o K a w := by
  unfold OpK; rw [Oper.semAt_eq _ _ _ hd, hr]; exact hk
theorem Tr.callX {X : Type} {f : FuncId} (V : X → Value) (H : X → Hp) (Φ : X → Prop) (he : Enters c.P f) (hv : evs l args.toList = some vs)
    (hc : ∀ w, St c w h → Calls c.P f vs.toArray w fun e w' => ∃ x, e = .returned (V x) ∧ Fm No w w' ∧ New w w' (H x) ∧ Φ x) (hd : okD dst c.n = true)
    (t : ∀ x, Φ x → Tr c (putF dst (V x) l) (H x ++ h) K) : Tr c l h (OpK c.P c.r ⟨dst, .call ⟨.value (.func f), args, ats⟩, ty, pos, af, gd⟩ K) := fun a w ha hw => by
  refine OpK.enter (fun c => by simp) (f := f) (xs := vs.toArray) (w' := w) ?_ ?_
  · have e : a.eval (.func f) = .func (.func f) #[] #[] := rfl
    simp [execOp, resolve, args_eq ha hv, Deferred.ofValue, e, invoke, he vs.toArray w]
  · refine (hc w hw).mono ?_
    rintro e w' ⟨x, rfl, hF, hN, hx⟩
    exact ⟨V x, rfl, t x hx _ w' (ha.putF hd _) (hw.callNew hF hN)⟩
theorem Tr.call {f : FuncId} {v : Value} (he : Enters c.P f) (hv : evs l args.toList = some vs)
    (hc : ∀ w, St c w h → Calls c.P f vs.toArray w (Gives v w)) (hd : okD dst c.n = true)
    (t : Tr c (putF dst v l) h K) : Tr c l h (OpK c.P c.r ⟨dst, .call ⟨.value (.func f), args, ats⟩, ty, pos, af, gd⟩ K) :=
  Tr.callX (X := Unit) (fun _ => v) (fun _ => []) (fun _ => True) he hv (fun w hw => (hc w hw).mono fun e w' ⟨h1, h2⟩ => ⟨(), h1, h2, New.nil _ _, trivial⟩) hd (fun _ _ => t)
theorem Tr.callC {X : Type} {f : FuncId} {fo : Operand} {first cap : Array Value} (V : X → Value) (H : X → Hp) (Φ : X → Prop) (he : Enters c.P f) (hfo : ev l fo = some (.func (.func f) first cap)) (hv : evs l args.toList = some vs)
    (hc : ∀ w, St c w h → Calls c.P f (first ++ vs.toArray ++ cap) w fun e w' => ∃ x, e = .returned (V x) ∧ Fm No w w' ∧ New w w' (H x) ∧ Φ x) (hd : okD dst c.n = true)
    (t : ∀ x, Φ x → Tr c (putF dst (V x) l) (H x ++ h) K) : Tr c l h (OpK c.P c.r ⟨dst, .call ⟨.value fo, args, ats⟩, ty, pos, af, gd⟩ K) := fun a w ha hw => by
  refine OpK.enter (fun c => by simp) (f := f) (xs := first ++ vs.toArray ++ cap) (w' := w) ?_ ?_
  · simp [execOp, resolve, args_eq ha hv, Deferred.ofValue, ha.ev hfo, invoke, he _ w]
  · refine (hc w hw).mono ?_
    rintro e w' ⟨x, rfl, hF, hN, hx⟩
    exact ⟨V x, rfl, t x hx _ w' (ha.putF hd _) (hw.callNew hF hN)⟩
/-- A function without a body. -/
theorem Tr.ext {f : FuncId} {v : Value} (hv : evs l args.toList = some vs) (hx : ∀ w, (callFunc f vs.toArray).run c.P w = .ok (.value v) w) (hd : okD dst c.n = true)
    (t : Tr c (putF dst v l) h K) : Tr c l h (OpK c.P c.r ⟨dst, .call ⟨.value (.func f), args, ats⟩, ty, pos, af, gd⟩ K) := fun a w ha hw => by
  refine OpK.value (fun c => by simp) (v := v) (w' := w) ?_ (t _ w (ha.putF hd _) hw)
  have e : a.eval (.func f) = .func (.func f) #[] #[] := rfl
  simp [execOp, resolve, args_eq ha hv, Deferred.ofValue, e, invoke, hx]
/-- A builtin that only reckons. -/
theorem Tr.blt {b : Builtin} {v : Value} (hv : evs l args.toList = some vs) (hx : ∀ (cs : Array Bool) w, (builtin b ats ty cs vs.toArray).run c.P w = .ok (.value v) w) (hd : okD dst c.n = true)
    (t : Tr c (putF dst v l) h K) : Tr c l h (OpK c.P c.r ⟨dst, .call ⟨.builtin b, args, ats⟩, ty, pos, af, gd⟩ K) := fun a w ha hw => by
  refine OpK.value (fun c => by simp) (v := v) (w' := w) ?_ (t _ w (ha.putF hd _) hw)
  simp [execOp, resolve, args_eq ha hv, invoke, hx]
theorem blt_lenSlice {P : Program} {T e : TypeId} (hu : P.underlying T = some (.slice e)) (p : Option Addr) (n cp : Nat) (ty : TypeId) (cs : Array Bool) (w : World) : (builtin .len #[T] ty cs #[.slice p n cp]).run P w = .ok (.value (.int .i64 n)) w := by
  simp [builtin, Builtin.len_, run_underlying hu, goInt]
theorem blt_lenStr {P : Program} {T : TypeId} (hu : P.underlying T = some .string) (s : ByteArray) (ty : TypeId) (cs : Array Bool) (w : World) : (builtin .len #[T] ty cs #[.string s]).run P w = .ok (.value (.int .i64 s.size)) w := by
  simp [builtin, Builtin.len_, run_underlying hu, goInt]
theorem blt_min {P : Program} {ats : Array TypeId} (k : IntKind) (x y : Int) (ty : TypeId) (cs : Array Bool) (w : World) : (builtin .min ats ty cs #[.int k x, .int k y]).run P w = .ok (.value (.int k (min x y))) w := by
  simp only [builtin, Builtin.min_, List.foldlM, Builtin.min2, Sem.run_bind, Sem.run_pure, Result.andThen_ok]
  congr 3
  split <;> omega
theorem blt_max {P : Program} {ats : Array TypeId} (k : IntKind) (x y : Int) (ty : TypeId) (cs : Array Bool) (w : World) : (builtin .max ats ty cs #[.int k x, .int k y]).run P w = .ok (.value (.int k (max x y))) w := by
  simp only [builtin, Builtin.max_, List.foldlM, Builtin.max2, Sem.run_bind, Sem.run_pure, Result.andThen_ok]
  congr 3
  split <;> omega

theorem blt_min3 {P : Program} {ats : Array TypeId} (k : IntKind) (x y z : Int) (ty : TypeId) (cs : Array Bool) (w : World) : (builtin .min ats ty cs #[.int k x, .int k y, .int k z]).run P w = .ok (.value (.int k (min (min x y) z))) w := by
  simp only [builtin, Builtin.min_, List.foldlM, Builtin.min2, Sem.run_bind, Sem.run_pure, Result.andThen_ok]
  congr 3
  split <;> split <;> omega
theorem blt_max3 {P : Program} {ats : Array TypeId} (k : IntKind) (x y z : Int) (ty : TypeId) (cs : Array Bool) (w : World) : (builtin .max ats ty cs #[.int k x, .int k y, .int k z]).run P w = .ok (.value (.int k (max (max x y) z))) w := by
  simp only [builtin, Builtin.max_, List.foldlM, Builtin.max2, Sem.run_bind, Sem.run_pure, Result.andThen_ok]
  congr 3
  split <;> split <;> omega
/-- A slice, cut behind so many. -/
theorem Tr.sliceHi {T e : TypeId} {s len cap m : Nat} {p : Option Addr} {k : IntKind} {i : Int} {x y : Operand} (hA : sli c.P T = some (e, s)) (hx : ev l x = some (.slice p len cap)) (hy : ev l y = some (.int k i)) (hi : i = (m : Int)) (hm : m ≤ cap) (hd : okD dst c.n = true)
    (t : Tr c (putF dst (.slice p m cap) l) h K) : Tr c l h (OpK c.P c.r ⟨dst, .slice T x none (some y) none, ty, pos, af, gd⟩ K) := fun a w ha hw => by
  obtain ⟨j, hu, hj, rfl⟩ := sli_spec hA
  subst hi
  refine OpK.value (fun c => by simp) (v := .slice p m cap) (w' := w) ?_ (t _ w (ha.putF hd _) hw)
  have e1 : (p.map fun a : Addr => a.add 0) = p := by cases p <;> simp [Addr.add]
  have e2 : ((0 : Int) ≤ (m : Int) ∧ (m : Int) ≤ (cap : Int)) := by omega
  simp [execOp, Instr.sliceAt, Instr.slice, ha.ev hx, ha.ev hy, run_underlying hu, Instr.sliceBounds, Instr.sliceBound, asIntOf, sizeOf, typeInfo, hj, e2, hm, e1]
theorem strOp_eq (P : Program) (x y : ByteArray) (w : World) : (Op.stringOp .eql x y).run P w = .ok (.bool (x.toList == y.toList)) w := rfl
/-- Two strings compared. -/
theorem Tr.strEq {t1 t2 : TypeId} {x y : Operand} {a b : ByteArray} (v : Bool) (hx : ev l x = some (.string a)) (hy : ev l y = some (.string b)) (e : (a.toList == b.toList) = v) (hd : okD dst c.n = true)
    (t : Tr c (putF dst (.bool v) l) h K) : Tr c l h (OpK c.P c.r ⟨dst, .binOp .eql t1 x y t2, ty, pos, af, gd⟩ K) := fun a' w ha hw => by
  subst e
  refine OpK.value (fun c => by simp) (v := .bool (a.toList == b.toList)) (w' := w) ?_ (t _ w (ha.putF hd _) hw)
  simp [execOp, ha.ev hx, ha.ev hy, eqGuard, binOp, strOp_eq]
/-- Two Bools compared. -/
theorem Tr.boolEq {t1 t2 : TypeId} {x y : Operand} {a b : Bool} (v : Bool) (hT : c.P.underlying t1 = some .bool) (hx : ev l x = some (.bool a)) (hy : ev l y = some (.bool b)) (e : (a == b) = v) (hd : okD dst c.n = true)
    (t : Tr c (putF dst (.bool v) l) h K) : Tr c l h (OpK c.P c.r ⟨dst, .binOp .eql t1 x y t2, ty, pos, af, gd⟩ K) := fun a' w ha hw => by
  subst e
  refine OpK.value (fun c => by simp) (v := .bool (a == b)) (w' := w) ?_ (t _ w (ha.putF hd _) hw)
  have hg : ∀ w, (eqGuard .eql t1 x y (.bool a) (.bool b)).run c.P w = .ok () w := fun w => by simp [eqGuard]
  unfold execOp
  simp only [ha.ev hx, ha.ev hy, Sem.run_bind, hg, Result.andThen_ok, run_eql_bool w t1 a b hT, Sem.run_pure]
/-! ### Values that are built -/
def idx : List (Nat × Operand) → List Operand := List.map (·.2)
theorem parts_zip {ρ : Operand → Value} : ∀ (ps : List (Nat × Operand)), ps.map (fun (i, x) => (i, ρ x)) = (ps.map (·.1)).zip ((idx ps).map ρ)
  | [] => rfl
  | p :: ps => by simp only [List.map_cons, idx, List.zip_cons_cons]; exact congrArg _ (parts_zip ps)
theorem parts_eq {n : Nat} {ds : List Deferred} {a : Act} (ha : Has n ds l a) {parts : Array (Nat × Operand)} (hv : evs l (idx parts.toList) = some vs) : (parts.map fun (i, x) => (i, a.eval x)).toList = (parts.toList.map (·.1)).zip vs := by
  rw [Array.toList_map, ← ha.evs hv, parts_zip]
theorem mapM_sizes {P : Program} (w : World) : ∀ (fs : List Field) (ps : List (Nat × Nat)), (fs.mapM fun f => (P.info? f.type).map fun j => (f.offset, j.size)) = some ps →
    (fs.mapM fun f => do pure (f.offset, ← sizeOf f.type) : Sem (List (Nat × Nat))).run P w = .ok ps w
  | [], ps, h => by simp at h; subst h; rfl
  | f :: fs, ps, h => by
    rw [List.mapM_cons] at h
    cases hj : P.info? f.type with
    | none => simp [hj] at h
    | some j =>
      cases hr : (fs.mapM fun f => (P.info? f.type).map fun j => (f.offset, j.size)) with
      | none => simp [hj, hr] at h
      | some qs =>
        simp [hj, hr] at h
        subst h
        have ih := mapM_sizes w fs qs hr
        rw [List.mapM_cons]
        simp [sizeOf, typeInfo, hj] at ih ⊢
        rw [ih]; rfl
/-- A struct's value, built of its parts. -/
theorem Tr.buildS {T s : Nat} {fs : Array Field} {z : Value} {g : Bool} {ps : List (Nat × Nat)} {parts : Array (Nat × Operand)} (cs : Array Value) (hu : c.P.underlying T = some (.struct fs)) (hT : tyv c.P T = some (z, s, g)) (hP : (fs.toList.mapM fun f => (c.P.info? f.type).map fun j => (f.offset, j.size)) = some ps)
    (hv : evs l (idx parts.toList) = some vs) (hf : Instr.fill (ps[·]?) z.cells ((parts.toList.map (·.1)).zip vs) = some cs) (hd : okD dst c.n = true)
    (t : Tr c (putF dst (.agg cs) l) h K) : Tr c l h (OpK c.P c.r ⟨dst, .build T parts, ty, pos, af, gd⟩ K) := fun a w ha hw => by
  obtain ⟨i, d, h1, h2, h3, h4, h5⟩ := tyv_spec hT
  refine OpK.value (fun c => by simp) (v := .agg cs) (w' := w) ?_ (t _ w (ha.putF hd _) hw)
  have e : ((fs.mapM fun f => do pure (f.offset, ← sizeOf f.type) : Sem (Array (Nat × Nat))).run c.P w) = .ok ps.toArray w := by
    have := mapM_sizes w fs.toList ps hP
    rw [Array.mapM_eq_mapM_toList]
    simp only [map_eq_pure_bind, Sem.run_bind, this, Result.andThen_ok, Sem.run_pure]
  have e2 : parts.toList.map (fun x => (x.1, a.eval x.2)) = (parts.toList.map (·.1)).zip vs := by rw [← ha.evs hv]; exact parts_zip _
  simp at e
  simp [execOp, Instr.build, zeroValue, typeInfo, h1, h2, run_underlying hu, e, e2, hf]
/-- An array's value, built of its parts. -/
theorem Tr.buildA {T e n s s' : Nat} {z z' : Value} {g g' : Bool} {parts : Array (Nat × Operand)} (cs : Array Value) (hu : c.P.underlying T = some (.array n e)) (hT : tyv c.P T = some (z, s, g)) (hE : tyv c.P e = some (z', s', g'))
    (hv : evs l (idx parts.toList) = some vs) (hf : Instr.fill (fun i => some (i * s', s')) z.cells ((parts.toList.map (·.1)).zip vs) = some cs) (hd : okD dst c.n = true)
    (t : Tr c (putF dst (.agg cs) l) h K) : Tr c l h (OpK c.P c.r ⟨dst, .build T parts, ty, pos, af, gd⟩ K) := fun a w ha hw => by
  obtain ⟨i, d, h1, h2, h3, h4, h5⟩ := tyv_spec hT
  obtain ⟨j, d', g1, g2, g3, g4, g5⟩ := tyv_spec hE
  refine OpK.value (fun c => by simp) (v := .agg cs) (w' := w) ?_ (t _ w (ha.putF hd _) hw)
  have e2 : parts.toList.map (fun x => (x.1, a.eval x.2)) = (parts.toList.map (·.1)).zip vs := by rw [← ha.evs hv]; exact parts_zip _
  simp [execOp, Instr.build, zeroValue, typeInfo, h1, h2, run_underlying hu, sizeOf, g1, g3, e2, hf]
/-- A slice's literal: a new row. -/
theorem Tr.buildSl {T e n s : Nat} {z : Value} {g : Bool} {parts : Array (Nat × Operand)} (cs : Array Value) (hu : c.P.underlying T = some (.slice e)) (hE : tyv c.P e = some (z, s, g)) (hn : n * s ≤ 16777216) (hn0 : n * s ≠ 0)
    (hv : evs l (idx parts.toList) = some vs) (hf : Instr.fill (fun i => some (i * s, s)) ((Array.range (n * s)).map (z.cells[· % z.cells.size]!)) ((parts.toList.map (·.1)).zip vs) = some cs) (hd : okD dst c.n = true)
    (t : ∀ b, Tr c (putF dst (.slice (some ⟨b, 0, none⟩) n n) l) ((b, .cells cs e) :: h) K) : Tr c l h (OpK c.P c.r ⟨dst, .buildSlice T n parts, ty, pos, af, gd⟩ K) := fun a w ha hw => by
  obtain ⟨j, d', g1, g2, g3, g4, g5⟩ := tyv_spec hE
  refine OpK.value (fun c => by simp) (v := .slice (some ⟨w.heap.size, 0, none⟩) n n) (w' := w.alloc (.cells cs e)) ?_ (t _ _ _ (ha.putF hd _) (hw.alloc _))
  have e2 : parts.toList.map (fun x => (x.1, a.eval x.2)) = (parts.toList.map (·.1)).zip vs := by rw [← ha.evs hv]; exact parts_zip _
  have hn' : ¬ (16777216 < n * s) := by omega
  simp only [execOp, Instr.buildSlice, run_underlying hu, sizeOf, typeInfo, g1, g3, zeroValue, g2, Sem.run_bind, Sem.run_pure, Result.andThen_ok, run_program]
  simp [hn', hn0, g1, g2, e2, hf, newRow]
/-- make of a slice of so many elements. -/
theorem Tr.makeSl {T e n m s : Nat} {z : Value} {g : Bool} {x y : Operand} {k k' : IntKind} {cs : Array Value} (hu : c.P.underlying T = some (.slice e)) (hE : tyv c.P e = some (z, s, g)) (hx : ev l x = some (.int k n)) (hy : ev l y = some (.int k' m)) (hnm : n ≤ m) (hm : c.P.bytesOf e * m ≤ 281474976710656) (hm2 : m ≤ 9223372036854775807)
    (hcs : madeCells z.cells (m * s) = cs) (hd : okD dst c.n = true)
    (t : ∀ b, Tr c (putF dst (.slice (some ⟨b, 0, none⟩) n m) l) ((b, .cells cs e) :: h) K) : Tr c l h (OpK c.P c.r ⟨dst, .makeSlice T x y, ty, pos, af, gd⟩ K) := fun a w ha hw => by
  subst hcs
  obtain ⟨j, d', g1, g2, g3, g4, g5⟩ := tyv_spec hE
  refine OpK.value (fun c => by simp) (v := .slice (some ⟨w.heap.size, 0, none⟩) n m) (w' := w.alloc (.cells (madeCells z.cells (m * s)) e)) ?_ (t _ _ _ (ha.putF hd _) (hw.alloc _))
  have hb : c.P.bytesOf e = j.bytes := by simp [Program.bytesOf, g1]
  rw [hb] at hm
  have hr := run_make (P := c.P) w T e j z hu g1 g2 k k' n m (by omega) (by omega) (by rw [← Int.natCast_mul]; omega) (by omega)
  simp only [Int.toNat_natCast, g3] at hr
  simp [execOp, ha.ev hx, ha.ev hy, hr]
end call

/-! ### What stands behind a piece of code -/
section behind
variable {Q : Exit → Act → World → Prop}
theorem Tr.thenN {K' : Act → World → Prop} (t : Tr c l h K') : Tr c l h (Exit.then K' Q .normal) := t
theorem Tr.thenR {K' : Act → World → Prop} (t : Tr c l h (Q .ret)) : Tr c l h (Exit.then K' Q .ret) := t
theorem Tr.thenE {K' : Act → World → Prop} {i : Nat} (t : Tr c l h (Q (.exit i))) : Tr c l h (Exit.then K' Q (.exit i)) := t
theorem Tr.scopeN (t : Tr c l h (Q .normal)) : Tr c l h (Exit.noGoto Q .normal) := t
theorem Tr.scopeR (t : Tr c l h (Q .ret)) : Tr c l h (Exit.noGoto Q .ret) := t
theorem Tr.scopeE {i : Nat} (t : Tr c l h (Q (.exit i))) : Tr c l h (Exit.noGoto Q (.exit i)) := t
theorem Tr.blockN {i : Nat} (t : Tr c l h (Q .normal)) : Tr c l h (Exit.inBlock i Q .normal) := t
theorem Tr.blockR {i : Nat} (t : Tr c l h (Q .ret)) : Tr c l h (Exit.inBlock i Q .ret) := t
theorem Tr.blockHit {i : Nat} (t : Tr c l h (Q .normal)) : Tr c l h (Exit.inBlock i Q (.exit i)) := t.cons fun a w h => by simp only [Exit.inBlock, if_true]; exact h
theorem Tr.blockMiss {i j : Nat} (hij : Nat.beq j i = false) (t : Tr c l h (Q (.exit j))) : Tr c l h (Exit.inBlock i Q (.exit j)) := t.cons fun a w h => by
  have : ¬ j = i := fun e => by subst e; simp at hij
  simp only [Exit.inBlock, if_neg this]; exact h
/-- A region that draws its order, its inner points named. -/
theorem Tr.drawG {Y : Type} {id : Nat} {lo : List Oper} (L : Y → Fr) (H : Y → Hp) (hm : c.P.follows .mixedOrders = true)
    (t1 : ∀ (K : Act → World → Prop) (N : Fr → Hp → Nat → Array Bool → Prop), (∀ l h f b, N l h f b ↔ Tr c l h (AnyK c.P c.r lo.toArray K f b)) → (∀ y, Tr c (L y) (H y) K) → N l h lo.length (Array.replicate lo.length false))
    (t2 : ∀ y, Tr c (L y) (H y) (Q .normal)) : Tr c l h (c.W (.region id lo.toArray true) Q) :=
  Tr.draw hm (t1 (Q .normal) (fun l h f b => Tr c l h (AnyK c.P c.r lo.toArray (Q .normal) f b)) (fun _ _ _ _ => Iff.rfl) t2)
end behind
/-- A Bool in a slot is known. -/
theorem Tr.known (d : Nat) {b : Bool} (u : Bool) (hb : look l d = some (.bool b)) (e : b = u) (t : Tr c ((d, .bool u) :: l) h K) : Tr c l h K := fun a w ha hw => t a w (ha.known u e hb) hw
theorem dT {p : Prop} [Decidable p] (h : decide p = true) : p := of_decide_eq_true h
theorem dF {p : Prop} [Decidable p] (h : decide p = false) : ¬ p := of_decide_eq_false h
theorem eT {a b : Int} (h : (a == b) = true) : a = b := by simpa using h
theorem eF {a b : Int} (h : (a == b) = false) : a ≠ b := by simpa using h
theorem nT {a b : Int} (h : (a != b) = true) : a ≠ b := by simpa using h
theorem nF {a b : Int} (h : (a != b) = false) : a = b := by simpa using h
/-- Values lie in a row. -/
def Row (w : World) (b o : Nat) (vs : List Value) : Prop := ∀ i v, vs[i]? = some v → w.cell? ⟨b, o + i, none⟩ = some v
theorem St.row {w : World} (s : St c w h) (k n : Nat) {b o : Nat} {vs : List Value} {cs : Array Value} {T : TypeId} {fz : Nat × Nat} (hk : h[k]? = some (b, .cells cs T fz)) (hv : (cs.toList.drop o).take n = vs) : Row w b o vs := fun i v hi =>
  Cells.own (c := c) k n hk hv i v hi w s
theorem Row.cell {w : World} {b o : Nat} {vs : List Value} (r : Row w b o vs) {i : Nat} {v : Value} (hi : vs[i]? = some v) : w.cell? ⟨b, o + i, none⟩ = some v := r i v hi
theorem Row.call {w w' : World} {b o : Nat} {vs : List Value} (r : Row w b o vs) (f : Fm No w w') : Row w' b o vs := fun i v hi => by
  have hc := r i v hi
  have hlt : b < w.heap.size := by
    unfold World.cell? at hc
    split at hc
    · rename_i e; exact (Array.getElem?_eq_some_iff.1 e).1
    · cases hc
  rw [← hc]; exact World.cell?_of_block (f.block b hlt id)
theorem Row.keep {w w' : World} {b o : Nat} {vs : List Value} (r : Row w b o vs) (e : w'.heap[b]? = w.heap[b]?) : Row w' b o vs := fun i v hi => (World.cell?_of_block (a := ⟨b, o + i, none⟩) e).trans (r i v hi)
theorem Row.lt {w : World} {b o : Nat} {v : Value} {vs : List Value} (r : Row w b o (v :: vs)) : b < w.heap.size := by
  have hc := r 0 v rfl
  unfold World.cell? at hc
  split at hc
  · rename_i e; exact (Array.getElem?_eq_some_iff.1 e).1
  · cases hc
theorem St.ne {w : World} {h : Hp} (s : St c w h) {j k b b' : Nat} {o o' : Obj} (hj : h[j]? = some (b, o)) (hk : h[k]? = some (b', o')) (hne : j ≠ k) : b ≠ b' := by
  obtain ⟨j1, j2⟩ := List.getElem?_eq_some_iff.1 hj
  obtain ⟨k1, k2⟩ := List.getElem?_eq_some_iff.1 hk
  have hpw := List.pairwise_iff_getElem.1 s.nd
  rcases Nat.lt_or_gt_of_ne hne with hlt | hlt
  · have := hpw j k j1 k1 hlt; rw [j2, k2] at this; exact this
  · have := hpw k j k1 j1 hlt; rw [j2, k2] at this; exact fun e => this e.symm
def nums (h : Hp) (js : List Nat) : List Nat := js.map fun j => (h.getD j (0, default)).1
/-- A tracked block is none of those at other places. -/
theorem St.keep {w : World} {h : Hp} (s : St c w h) (k : Nat) (js : List Nat) {b : Nat} {o : Obj} {mb : List Nat} (hk : h[k]? = some (b, o)) (hj : nums h js = mb) (hlt : js.all (fun j => Nat.blt j h.length && !Nat.beq j k) = true) : b < w.heap.size ∧ b ∉ mb := by
  refine ⟨s.lt (List.mem_of_getElem? hk), fun hm => ?_⟩
  subst hj
  obtain ⟨j, hj1, hj2⟩ := List.mem_map.1 hm
  have hq := List.all_eq_true.1 hlt j hj1
  simp only [Bool.and_eq_true, Nat.blt_eq, Bool.not_eq_true'] at hq
  have hjk : j ≠ k := fun e => by subst e; simp at hq
  have hg : h[j]? = some ((h.getD j (0, default)).1, (h.getD j (0, default)).2) := by
    rw [List.getD_eq_getElem?_getD, List.getElem?_eq_getElem hq.1]; rfl
  exact s.ne hg hk hjk hj2
/-- A block that lay ahead is none of those that are tracked. -/
theorem St.keepOld {w : World} {h : Hp} (s : St c w h) (hM : c.M = No) (js : List Nat) {b : Nat} {mb : List Nat} (hb : b < c.w0.heap.size) (hj : nums h js = mb) (hlt : js.all (fun j => Nat.blt j h.length) = true) : b < w.heap.size ∧ b ∉ mb := by
  refine ⟨Nat.lt_of_lt_of_le hb s.fm.size, fun hm => ?_⟩
  subst hj
  obtain ⟨j, hj1, hj2⟩ := List.mem_map.1 hm
  have hq := List.all_eq_true.1 hlt j hj1
  simp only [Nat.blt_eq] at hq
  have hmem : h.getD j (0, default) ∈ h := by
    rw [List.getD_eq_getElem?_getD, List.getElem?_eq_getElem hq]; exact List.getElem_mem _
  rcases s.own _ hmem with h1 | h1
  · rw [hj2] at h1; omega
  · rw [hM] at h1; exact h1
theorem Row.block {w : World} {b o n : Nat} {cs : Array Value} {T : TypeId} {fz : Nat × Nat} {vs : List Value} (e : w.heap[b]? = some (.cells cs T fz)) (hv : (cs.toList.drop o).take n = vs) : Row w b o vs := fun i v hi => by
  rw [← hv, List.getElem?_take] at hi
  split at hi
  · rw [List.getElem?_drop] at hi
    simpa [World.cell?, e] using hi
  · cases hi
theorem Row.toCell {b o o' i : Nat} {v : Value} {vs : List Value} (r : Row c.w0 b o vs) (hm : ¬ c.M b) (hi : vs[i]? = some v) (ho : o + i = o') : Cell c h b o' v := ho ▸ Cell.old (r i v hi) hm
theorem Row.part {b o o' i n : Nat} {vs us : List Value} (r : Row c.w0 b o vs) (hm : ¬ c.M b) (hi : (vs.drop i).take n = us) (ho : o + i = o') : Cells c h b o' us := fun j v hj => by
  subst hi ho
  rw [List.getElem?_take] at hj
  split at hj
  · rw [List.getElem?_drop] at hj
    have := r (i + j) v hj
    rw [← Nat.add_assoc] at this
    exact Cell.old this hm
  · cases hj
theorem St.new {w : World} {h : Hp} (s : St c w h) (hM : c.M = No) (ks : List Nat) (hn : ks.Nodup) {h' : Hp} (hh : Ka.pick h ks = h') : New c.w0 w h' := by
  subst hh
  have s' := s.pick hn
  refine ⟨s'.nd, s'.at_, fun p hp => ?_⟩
  rcases s'.own p hp with h1 | h1
  · exact h1
  · rw [hM] at h1; exact h1.elim
/-- Elements of some cells each lie in a slice. -/
def SlM (w : World) (a : Option Addr) (n s : Nat) (cs : Nat → List Value) : Prop := n = 0 ∨ ∃ b o, a = some ⟨b, o, none⟩ ∧ ∀ i, i < n → Row w b (o + i * s) (cs i)
theorem SlM.call {w w' : World} {a : Option Addr} {n s : Nat} {cs : Nat → List Value} (h : SlM w a n s cs) (f : Fm No w w') : SlM w' a n s cs := by
  rcases h with h | ⟨b, o, h1, h2⟩
  · exact .inl h
  · exact .inr ⟨b, o, h1, fun i hi => (h2 i hi).call f⟩
theorem SlM.le {w : World} {a : Option Addr} {n m s : Nat} {cs : Nat → List Value} (h : SlM w a n s cs) (hm : m ≤ n) : SlM w a m s cs := by
  rcases h with h | ⟨b, o, h1, h2⟩
  · exact .inl (by omega)
  · exact .inr ⟨b, o, h1, fun i hi => h2 i (by omega)⟩
theorem SlM.low {w w' : World} {a : Option Addr} {n s : Nat} {cs : Nat → List Value} (h : SlM w a n s cs) (hne : ∀ i, cs i ≠ []) (e : ∀ b, b < w.heap.size → w'.heap[b]? = w.heap[b]?) : SlM w' a n s cs := by
  rcases h with h | ⟨b, o, h1, h2⟩
  · exact .inl h
  · refine .inr ⟨b, o, h1, fun i hi => ?_⟩
    have r := h2 i hi
    have hb : b < w.heap.size := by
      cases hc : cs i with
      | nil => exact absurd hc (hne i)
      | cons v vs => rw [hc] at r; exact r.lt
    exact r.keep (e b hb)
/-- The first place at which it is so; -1: none. -/
def fidx (n : Nat) (q : Nat → Bool) : Int := match (List.range n).find? q with | some i => (i : Int) | none => -1
theorem idx_at {n : Nat} {q : Nat → Bool} {k : Nat} (hk : k < n) (hq : q k = true) (hl : ∀ j, j < k → q j = false) : fidx n q = (k : Int) := by
  unfold fidx
  have : (List.range n).find? q = some k := by
    rw [List.find?_eq_some_iff_append]
    refine ⟨hq, List.range k, (List.range (n - k - 1)).map (· + (k + 1)), ?_, fun j hj => by simpa using hl j (by simpa using hj)⟩
    apply List.ext_getElem
    · simp; omega
    · intro i h1 h2
      simp only [List.getElem_range, List.getElem_append, List.length_range]
      split
      · simp
      · rename_i hh
        have : i - k = 0 ∨ ∃ d, i - k = d + 1 := by cases i - k with | zero => exact .inl rfl | succ d => exact .inr ⟨d, rfl⟩
        rcases this with e | ⟨d, e⟩
        · simp [e]; omega
        · simp [e]; omega
  rw [this]
theorem idx_no {n : Nat} {q : Nat → Bool} (hl : ∀ j, j < n → q j = false) : fidx n q = -1 := by
  unfold fidx
  have : (List.range n).find? q = none := List.find?_eq_none.2 fun j hj => by simp [hl j (by simpa using hj)]
  rw [this]
theorem allF {q : Nat → Bool} {k : Nat} (h : ∀ j, j < k → q j = false) (hk : q k = false) : ∀ j, j < k + 1 → q j = false := fun j hj => by
  by_cases e : j = k
  · subst e; exact hk
  · exact h j (by omega)
theorem idx_cases (n : Nat) (q : Nat → Bool) : (∃ k, k < n ∧ q k = true ∧ (∀ j, j < k → q j = false) ∧ fidx n q = (k : Int)) ∨ ((∀ j, j < n → q j = false) ∧ fidx n q = -1) := by
  by_cases h : ∀ j, j < n → q j = false
  · exact .inr ⟨h, idx_no h⟩
  · have : ∃ k, k < n ∧ q k = true := by
      apply Classical.byContradiction
      intro hn
      exact h fun j hj => by
        cases e : q j with
        | false => rfl
        | true => exact absurd ⟨j, hj, e⟩ hn
    obtain ⟨k, hk, hq⟩ := this
    obtain ⟨k, ⟨hk, hq⟩, hl⟩ : ∃ k, (k < n ∧ q k = true) ∧ ∀ j, j < k → q j = false := by
      induction k using Nat.strongRecOn with
      | _ k ih =>
        by_cases hh : ∃ j, j < k ∧ q j = true
        · obtain ⟨j, h1, h2⟩ := hh; exact ih j h1 (by omega) h2
        · exact ⟨k, ⟨hk, hq⟩, fun j hj => by
            cases e : q j with
            | false => rfl
            | true => exact absurd ⟨j, hj, e⟩ hh⟩
    exact .inl ⟨k, hk, hq, hl, idx_at hk hq hl⟩
/-- Is it so somewhere? -/
def anyN (n : Nat) (q : Nat → Bool) : Bool := (List.range n).any q
theorem anyN_idx (n : Nat) (q : Nat → Bool) : decide (0 ≤ fidx n q) = anyN n q := by
  rcases idx_cases n q with ⟨k, hk, hq, _, e⟩ | ⟨h, e⟩
  · rw [e, show anyN n q = true from List.any_eq_true.2 ⟨k, by simpa using hk, hq⟩]; exact decide_eq_true (by omega)
  · rw [e, show anyN n q = false from List.any_eq_false.2 fun j hj => by simp [h j (by simpa using hj)]]; rfl
/-- .. of the world in which the function began. -/
theorem Row.cells {b o : Nat} {vs : List Value} (r : Row c.w0 b o vs) (hm : ¬ c.M b) : Cells c h b o vs := Cells.old r hm
/-! ### Wraps -/
theorem w_i64 {n : Int} (h1 : -9223372036854775808 ≤ n) (h2 : n ≤ 9223372036854775807) : IntKind.i64.wrap n = n := by rw [IntKind.wrap_i64]; omega
theorem w_u64 {n : Int} (h1 : 0 ≤ n) (h2 : n ≤ 18446744073709551615) : IntKind.u64.wrap n = n := by rw [IntKind.wrap_u64]; omega
theorem w_u8 {n : Int} (h1 : 0 ≤ n) (h2 : n ≤ 255) : IntKind.u8.wrap n = n := by rw [IntKind.wrap_u8]; omega
theorem vint {k : IntKind} {a b : Int} (e : a = b) : Value.int k a = .int k b := by rw [e]
theorem vbool {a b : Bool} (e : a = b) : Value.bool a = .bool b := by rw [e]
end Go.Ka

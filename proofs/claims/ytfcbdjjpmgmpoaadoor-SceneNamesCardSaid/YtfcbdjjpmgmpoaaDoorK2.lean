/- Rules of the calculus for single operations. -/
import Derived.Test.YtfcbdjjpmgmpoaaDoorK1
import Derived.Laws.CopyRow
import Derived.Laws.Externs
import Derived.Lib.Hide
namespace Go.Ka
open Go.RowKit
variable {c : Cx} {l : Fr} {h h' : Hp} {K : Act → World → Prop}

def putF (dst : Option Nat) (v : Value) (l : Fr) : Fr := match dst with | some d => (d, v) :: l | none => l
def okD (dst : Option Nat) (n : Nat) : Bool := match dst with | some d => Nat.blt d n | none => true
theorem Has.putF {n : Nat} {ds : List Deferred} {l : Fr} {a : Act} (ha : Has n ds l a) {dst : Option Nat} (hd : okD dst n = true) (v : Value) : Has n ds (putF dst v l) (a.put dst v) := by
  cases dst with
  | none => exact ha
  | some d => exact ha.put (by simpa [okD] using hd) v

/-! ### Guards -/
theorem Tr.nil {ops : Array Oper} (t : Tr c l h K) : Tr c l h (ListK c.P c.r ops K []) := t
theorem Tr.one {ops : Array Oper} {o : Oper} (hg : o.guard = none) (t : Tr c l h (OpK c.P c.r o K)) : Tr c l h (OneK c.P c.r ops o K) := fun a w ha hw => by
  have : Region.wanted o (yielded ops a.tmps) = true := by simp [Region.wanted, hg]
  unfold OneK; rw [if_pos this]; exact t a w ha hw
theorem Tr.step {ops : Array Oper} {o : Oper} {rest : List Oper} (hg : o.guard = none) (t : Tr c l h (OpK c.P c.r o (ListK c.P c.r ops K rest))) : Tr c l h (ListK c.P c.r ops K (o :: rest)) := Tr.one hg t
def yb : Value → Option Bool
  | .bool b => some b
  | _ => none
theorem yielded_of {n : Nat} {ds : List Deferred} {a : Act} (ha : Has n ds l a) {ops : Array Oper} {j d : Nat} (hd : (ops[j]?).bind (·.dst) = some d) {v : Value} (hl : look l d = some v) (hn : Nat.blt d n = true) :
    yielded ops a.tmps j = yb v := by
  have h1 := ha.all d v hl
  have h2 : d < a.tmps.size := by rw [ha.size]; simpa using hn
  have h3 : a.tmps[d]? = some v := by
    rw [Array.getD_eq_getD_getElem?] at h1
    rw [Array.getElem?_eq_getElem h2] at h1 ⊢
    simpa using h1
  unfold yielded
  rw [hd, Option.bind_some, h3]
  cases v <;> rfl
theorem Tr.oneYes {ops : Array Oper} {o : Oper} {j d : Nat} {want : Bool} (hg : o.guard = some (j, want)) (hd : (ops[j]?).bind (·.dst) = some d) (hl : look l d = some (.bool want)) (hn : Nat.blt d c.n = true) (t : Tr c l h (OpK c.P c.r o K)) : Tr c l h (OneK c.P c.r ops o K) := fun a w ha hw => by
  have : Region.wanted o (yielded ops a.tmps) = true := by simp [Region.wanted, hg, yielded_of ha hd hl hn, yb]
  unfold OneK; rw [if_pos this]; exact t a w ha hw
/-- Is a guard's value another one than is wanted? -/
def un (want : Bool) : Value → Bool
  | .bool b => b != want
  | _ => true
theorem Tr.oneNo {ops : Array Oper} {o : Oper} {j d : Nat} {want : Bool} {v : Value} (hg : o.guard = some (j, want)) (hd : (ops[j]?).bind (·.dst) = some d) (hl : look l d = some v) (hv : un want v = true) (hn : Nat.blt d c.n = true) (ho : okD o.dst c.n = true)
    (t : Tr c (putF o.dst undef l) h K) : Tr c l h (OneK c.P c.r ops o K) := fun a w ha hw => by
  have : Region.wanted o (yielded ops a.tmps) = false := by
    simp only [Region.wanted, hg, yielded_of ha hd hl hn]
    cases v <;> simp_all [un, yb]
  unfold OneK; rw [if_neg (by simp [this])]; exact t _ w (ha.putF ho undef) hw
theorem Tr.stepYes {ops : Array Oper} {o : Oper} {rest : List Oper} {j d : Nat} {want : Bool} (hg : o.guard = some (j, want)) (hd : (ops[j]?).bind (·.dst) = some d) (hl : look l d = some (.bool want)) (hn : Nat.blt d c.n = true)
    (t : Tr c l h (OpK c.P c.r o (ListK c.P c.r ops K rest))) : Tr c l h (ListK c.P c.r ops K (o :: rest)) := Tr.oneYes hg hd hl hn t
theorem Tr.stepNo {ops : Array Oper} {o : Oper} {rest : List Oper} {j d : Nat} {want : Bool} {v : Value} (hg : o.guard = some (j, want)) (hd : (ops[j]?).bind (·.dst) = some d) (hl : look l d = some v) (hv : un want v = true) (hn : Nat.blt d c.n = true) (ho : okD o.dst c.n = true)
    (t : Tr c (putF o.dst undef l) h (ListK c.P c.r ops K rest)) : Tr c l h (ListK c.P c.r ops K (o :: rest)) := Tr.oneNo hg hd hl hv hn ho t

/-! ### Operations that only reckon -/
theorem OpK.value {o : Oper} {a : Act} {w w' : World} {v : Value} (hd : ∀ c, o.op ≠ .defer c) (hr : (execOp a.eval o).run c.P w = .ok (.value v) w') (hk : K (a.put o.dst v) w') : OpK c.P c.r o K a w := by
  unfold OpK; rw [Oper.semAt_eq _ _ _ hd, hr]; exact hk
theorem OpK.skip {o : Oper} {a : Act} {w w' : World} (hd : ∀ c, o.op ≠ .defer c) (hr : (execOp a.eval o).run c.P w = .ok .skip w') (hk : K (a.put o.dst undef) w') : OpK c.P c.r o K a w := by
  unfold OpK; rw [Oper.semAt_eq _ _ _ hd, hr]; exact hk

def binV (op : BinOp) (k : IntKind) (a b : Int) : Option Value :=
  match op with
  | .add => some (.int k (k.wrap (a + b)))
  | .sub => some (.int k (k.wrap (a - b)))
  | .mul => some (.int k (k.wrap (a * b)))
  | .eql => some (.bool (a == b))
  | .neq => some (.bool (a != b))
  | .lss => some (.bool (decide (a < b)))
  | .leq => some (.bool (decide (a ≤ b)))
  | .gtr => some (.bool (decide (b < a)))
  | .geq => some (.bool (decide (b ≤ a)))
  | _ => none
def shV (op : BinOp) (k : IntKind) (a b : Int) : Option Value :=
  if b < 0 then none else
  match op with
  | .shl => some (.int k (k.wrap (a * 2 ^ (min b.toNat k.bits))))
  | .shr => some (.int k (a.fdiv (2 ^ (min b.toNat k.bits))))
  | _ => none
def quV (op : BinOp) (k : IntKind) (a b : Int) : Option Value :=
  match op with
  | .quo => some (.int k (k.wrap (a.tdiv b)))
  | .rem => some (.int k (a.tmod b))
  | _ => none
def pureV (l : Fr) : Op → Option Value
  | .move x | .assign x => ev l x
  | .pick g a b => match ev l g with
    | some (.bool true) => ev l a
    | some (.bool false) => ev l b
    | _ => none
  | .extract t i => match ev l t with
    | some (.tuple vs) => vs[i]?
    | _ => none
  | .unOp .not _ x => match ev l x with
    | some (.bool b) => some (.bool (!b))
    | _ => none
  | .unOp .neg _ x => match ev l x with
    | some (.int k n) => some (.int k (k.wrap (0 - n)))
    | _ => none
  | .binOp .add _ x y _ => bin .add (ev l x) (ev l y)
  | .binOp .sub _ x y _ => bin .sub (ev l x) (ev l y)
  | .binOp .mul _ x y _ => bin .mul (ev l x) (ev l y)
  | .binOp .eql _ x y _ => bin .eql (ev l x) (ev l y)
  | .binOp .neq _ x y _ => bin .neq (ev l x) (ev l y)
  | .binOp .lss _ x y _ => bin .lss (ev l x) (ev l y)
  | .binOp .leq _ x y _ => bin .leq (ev l x) (ev l y)
  | .binOp .gtr _ x y _ => bin .gtr (ev l x) (ev l y)
  | .binOp .geq _ x y _ => bin .geq (ev l x) (ev l y)
  | .makeFunc fn first captured => match evs l first.toList, evs l captured.toList with
    | some xs, some ys => some (.func fn xs.toArray ys.toArray)
    | _, _ => none
  | _ => none
where
  bin (op : BinOp) : Option Value → Option Value → Option Value
    | some (.int k a), some (.int k' b) => if k = k' then binV op k a b else none
    | _, _ => none

theorem eqGuard_int (P : Program) (op : BinOp) (t : TypeId) (x y : Operand) (k k' : IntKind) (a b : Int) (w : World) : (eqGuard op t x y (.int k a) (.int k' b)).run P w = .ok () w := by
  unfold eqGuard
  cases op <;> simp
theorem bin_run {P : Program} {n : Nat} {ds : List Deferred} {a : Act} (ha : Has n ds l a) {op : BinOp} {t t' : TypeId} {x y : Operand} {v : Value} {o : Oper} (ho : o.op = .binOp op t x y t') (hv : pureV.bin op (ev l x) (ev l y) = some v) (w : World) :
    (execOp a.eval o).run P w = .ok (.value v) w := by
  unfold pureV.bin at hv
  split at hv
  · rename_i k x' k' y' hx hy
    split at hv
    · rename_i hk
      subst hk
      have e1 := ha.ev hx
      have e2 := ha.ev hy
      unfold execOp
      simp only [ho, e1, e2, Sem.run_bind, eqGuard_int, Result.andThen_ok]
      unfold binV at hv
      cases op <;> simp only [Option.some.injEq, reduceCtorEq] at hv <;> subst hv <;> simp [binOp, Op.intArith, Op.intCmp]
    · cases hv
  · cases hv
theorem pureV_run {P : Program} {n : Nat} {ds : List Deferred} {a : Act} (ha : Has n ds l a) {o : Oper} {v : Value} (hv : pureV l o.op = some v) (w : World) :
    (execOp a.eval o).run P w = .ok (.value v) w := by
  cases ho : o.op with
  | move x => rw [ho] at hv; have := ha.ev (show ev l x = some v from hv); simp [execOp, ho, this]
  | assign x => rw [ho] at hv; have := ha.ev (show ev l x = some v from hv); simp [execOp, ho, this]
  | pick g x y =>
    rw [ho] at hv
    simp only [pureV] at hv
    split at hv
    · rename_i hg; have e := ha.ev hg; have := ha.ev hv; simp [execOp, ho, this, e, asBool]
    · rename_i hg; have e := ha.ev hg; have := ha.ev hv; simp [execOp, ho, this, e, asBool]
    · cases hv
  | extract x i =>
    rw [ho] at hv
    simp only [pureV] at hv
    split at hv
    · rename_i hg; have e := ha.ev hg; simp [execOp, ho, e, Instr.extract, hv]
    · cases hv
  | unOp op t x =>
    rw [ho] at hv
    cases op <;> simp only [pureV, reduceCtorEq] at hv
    all_goals
      split at hv
      · rename_i hg
        simp only [Option.some.injEq] at hv
        subst hv
        have e := ha.ev hg
        simp [execOp, ho, e, Op.unary, Op.intArith]
      · cases hv
  | binOp op t x y t' =>
    rw [ho] at hv
    cases op <;> first | exact bin_run ha ho hv w | (simp [pureV] at hv)
  | makeFunc fn first captured =>
    rw [ho] at hv
    simp only [pureV] at hv
    split at hv
    · rename_i xs ys h1 h2
      simp only [Option.some.injEq] at hv
      subst hv
      have e1 : first.map a.eval = xs.toArray := Array.ext' (by rw [Array.toList_map, ha.evs h1])
      have e2 : captured.map a.eval = ys.toArray := Array.ext' (by rw [Array.toList_map, ha.evs h2])
      simp [execOp, ho, Instr.makeFunc, e1, e2]
    · cases hv
  | _ => rw [ho] at hv; simp [pureV] at hv
theorem pureV_defer {o : Oper} {v : Value} (hv : pureV l o.op = some v) : ∀ c, o.op ≠ .defer c := fun c e => by rw [e] at hv; simp [pureV] at hv
/-- An operation that only reckons. -/
theorem Tr.val {o : Oper} {v : Value} (hv : pureV l o.op = some v) (hd : okD o.dst c.n = true) (t : Tr c (putF o.dst v l) h K) : Tr c l h (OpK c.P c.r o K) := fun a w ha hw =>
  OpK.value (pureV_defer hv) (pureV_run ha hv w) (t _ w (ha.putF hd v) hw)
/-- .. its value in another spelling. -/
theorem Tr.valE {o : Oper} {v : Value} (v' : Value) (hv : pureV l o.op = some v) (e : v = v') (hd : okD o.dst c.n = true) (t : Tr c (putF o.dst v' l) h K) : Tr c l h (OpK c.P c.r o K) := by subst e; exact Tr.val hv hd t
theorem Tr.sh {dst : Option Nat} {op : BinOp} {t1 t2 ty : TypeId} {x y : Operand} {pos : String} {af : Array Edge} {g : Option (Nat × Bool)} {k k' : IntKind} {a b : Int} {v : Value} (v' : Value)
    (hx : ev l x = some (.int k a)) (hy : ev l y = some (.int k' b)) (hop : op = .shl ∨ op = .shr) (hv : shV op k a b = some v) (e : v = v') (hd : okD dst c.n = true) (t : Tr c (putF dst v' l) h K) : Tr c l h (OpK c.P c.r ⟨dst, .binOp op t1 x y t2, ty, pos, af, g⟩ K) := fun a' w ha hw => by
  subst e
  refine OpK.value (fun c => by simp) (v := v) (w' := w) ?_ (t _ w (ha.putF hd v) hw)
  have e1 := ha.ev hx
  have e2 := ha.ev hy
  unfold execOp
  simp only [e1, e2, Sem.run_bind, eqGuard_int, Result.andThen_ok]
  unfold shV at hv
  split at hv
  · cases hv
  · rename_i hb
    rcases hop with rfl | rfl <;> simp only [Option.some.injEq] at hv <;> subst hv <;> simp [binOp, Op.shift, hb]
theorem Tr.qu {dst : Option Nat} {op : BinOp} {t1 t2 ty : TypeId} {x y : Operand} {pos : String} {af : Array Edge} {g : Option (Nat × Bool)} {k : IntKind} {a b : Int} {v : Value} (v' : Value)
    (hx : ev l x = some (.int k a)) (hy : ev l y = some (.int k b)) (hb : b ≠ 0) (hop : op = .quo ∨ op = .rem) (hv : quV op k a b = some v) (e : v = v') (hd : okD dst c.n = true) (t : Tr c (putF dst v' l) h K) : Tr c l h (OpK c.P c.r ⟨dst, .binOp op t1 x y t2, ty, pos, af, g⟩ K) := fun a' w ha hw => by
  subst e
  refine OpK.value (fun c => by simp) (v := v) (w' := w) ?_ (t _ w (ha.putF hd v) hw)
  have e1 := ha.ev hx
  have e2 := ha.ev hy
  unfold execOp
  simp only [e1, e2, Sem.run_bind, eqGuard_int, Result.andThen_ok]
  unfold quV at hv
  rcases hop with rfl | rfl <;> simp only [Option.some.injEq] at hv <;> subst hv <;> simp [binOp, Op.intDiv, hb]

/-! ### Types -/
def aggD : TypeDesc → Bool | .struct _ | .array _ _ => true | _ => false
/-- Of a type: its zero value, its cells, and whether it is a struct or an array. -/
def tyv (P : Program) (t : TypeId) : Option (Value × Nat × Bool) :=
  match P.info? t, P.underlying t with
  | some i, some d => match i.zero with
    | some z => some (z, i.size, aggD d)
    | none => none
  | _, _ => none
theorem tyv_spec {P : Program} {t : TypeId} {z : Value} {s : Nat} {g : Bool} (hT : tyv P t = some (z, s, g)) : ∃ i d, P.info? t = some i ∧ i.zero = some z ∧ i.size = s ∧ P.underlying t = some d ∧ aggD d = g := by
  unfold tyv at hT
  split at hT
  · rename_i i d hi hd
    split at hT
    · rename_i z' hz
      simp only [Option.some.injEq, Prod.mk.injEq] at hT
      obtain ⟨rfl, rfl, rfl⟩ := hT
      exact ⟨i, d, hi, hz, rfl, hd, rfl⟩
    · cases hT
  · cases hT
theorem run_isAgg_of {P : Program} {t : TypeId} {d : TypeDesc} (hd : P.underlying t = some d) (w : World) : (isAgg t).run P w = .ok (aggD d) w := by
  unfold isAgg
  rw [Sem.run_bind, run_underlying hd w]
  cases d <;> simp [aggD]

section mem
variable {dst : Option Nat} {ty : TypeId} {pos : String} {af : Array Edge} {gd : Option (Nat × Bool)} {P : Program}
theorem Tr.alloc {T : TypeId} {z : Value} {s : Nat} {g : Bool} {cs : Array Value} (hT : tyv c.P T = some (z, s, g)) (hz : z.cells = cs) (hd : okD dst c.n = true)
    (t : ∀ b, Tr c (putF dst (.pointer (some ⟨b, 0, none⟩)) l) ((b, .cells cs T) :: h) K) : Tr c l h (OpK c.P c.r ⟨dst, .alloc T, ty, pos, af, gd⟩ K) := fun a w ha hw => by
  obtain ⟨i, d, h1, h2, h3, h4, h5⟩ := tyv_spec hT
  subst hz
  refine OpK.value (fun c => by simp) (v := .pointer (some ⟨w.heap.size, 0, none⟩)) (w' := w.alloc (.cells z.cells T)) ?_ (t _ _ _ (ha.putF hd _) (hw.alloc _))
  simp [execOp, Instr.alloc, zeroValue, typeInfo, h1, h2, newVar, newRow]
theorem Tr.box {T : TypeId} {x : Operand} {v : Value} {cs : Array Value} (hx : ev l x = some v) (hz : v.cells = cs) (hd : okD dst c.n = true)
    (t : ∀ b, Tr c (putF dst (.pointer (some ⟨b, 0, none⟩)) l) ((b, .cells cs T) :: h) K) : Tr c l h (OpK c.P c.r ⟨dst, .box T x, ty, pos, af, gd⟩ K) := fun a w ha hw => by
  subst hz
  refine OpK.value (fun c => by simp) (v := .pointer (some ⟨w.heap.size, 0, none⟩)) (w' := w.alloc (.cells v.cells T)) ?_ (t _ _ _ (ha.putF hd _) (hw.alloc _))
  simp [execOp, Instr.box, ha.ev hx, newVar, newRow]

/-- A cell holds a value, wherever the walk stands. -/
def Cell (c : Cx) (h : Hp) (b o : Nat) (v : Value) : Prop := ∀ w, St c w h → w.cell? ⟨b, o, none⟩ = some v
def Cells (c : Cx) (h : Hp) (b o : Nat) (vs : List Value) : Prop := ∀ i v, vs[i]? = some v → Cell c h b (o + i) v
theorem Cell.own (k : Nat) {b o : Nat} {v : Value} {cs : Array Value} {T : TypeId} {fz : Nat × Nat} (hk : h[k]? = some (b, .cells cs T fz)) (hv : cs[o]? = some v) : Cell c h b o v := fun w hw => by
  have := hw.get hk
  simp [World.cell?, this, hv]
theorem Cell.old {b o : Nat} {v : Value} (hc : c.w0.cell? ⟨b, o, none⟩ = some v) (hm : ¬ c.M b) : Cell c h b o v := fun w hw => by
  have hlt : b < c.w0.heap.size := by
    unfold World.cell? at hc
    split at hc
    · rename_i e; exact (Array.getElem?_eq_some_iff.1 e).1
    · cases hc
  rw [← hc]
  exact World.cell?_of_block (hw.fm.block b hlt hm)
theorem Cells.own (k n : Nat) {b o : Nat} {vs : List Value} {cs : Array Value} {T : TypeId} {fz : Nat × Nat} (hk : h[k]? = some (b, .cells cs T fz)) (hv : (cs.toList.drop o).take n = vs) : Cells c h b o vs := fun i v hi => by
  refine Cell.own k hk ?_
  rw [← hv] at hi
  rw [List.getElem?_take] at hi
  split at hi
  · rw [List.getElem?_drop] at hi; simpa using hi
  · cases hi
theorem Cells.old {b o : Nat} {vs : List Value} (hc : ∀ i v, vs[i]? = some v → c.w0.cell? ⟨b, o + i, none⟩ = some v) (hm : ¬ c.M b) : Cells c h b o vs := fun i v hi => Cell.old (hc i v hi) hm
theorem addr_add (b o i : Nat) : (⟨b, o, none⟩ : Addr).add i = ⟨b, o + i, none⟩ := by unfold Addr.add; split <;> simp_all

theorem run_load1 {T : TypeId} {z : Value} {s b o : Nat} {v : Value} (hT : tyv P T = some (z, s, false)) {w : World} (hc : w.cell? ⟨b, o, none⟩ = some v) : (loadVar T ⟨b, o, none⟩).run P w = .ok v w := by
  obtain ⟨i, d, h1, h2, h3, h4, h5⟩ := tyv_spec hT
  simp [loadVar, Sem.run_bind, run_isAgg_of h4, h5, hc]
theorem run_loadN {T : TypeId} {z : Value} {s b o : Nat} {vs : List Value} (hT : tyv P T = some (z, s, true)) (hs : vs.length = s) {w : World} (hc : ∀ i v, vs[i]? = some v → w.cell? ⟨b, o + i, none⟩ = some v) : (loadVar T ⟨b, o, none⟩).run P w = .ok (.agg vs.toArray) w := by
  obtain ⟨i, d, h1, h2, h3, h4, h5⟩ := tyv_spec hT
  have hl := run_loadCells_list (P := P) w ⟨b, o, none⟩ vs (fun j v hv => by rw [addr_add]; exact hc j v hv)
  rw [hs] at hl
  simp [loadVar, Sem.run_bind, run_isAgg_of h4, h5, sizeOf, typeInfo, h1, h3, hl]
theorem Tr.load1 {T : TypeId} {z : Value} {s b o : Nat} {v : Value} {x : Operand} (hT : tyv c.P T = some (z, s, false)) (hx : ev l x = some (.pointer (some ⟨b, o, none⟩))) (hc : Cell c h b o v) (hd : okD dst c.n = true)
    (t : Tr c (putF dst v l) h K) : Tr c l h (OpK c.P c.r ⟨dst, .load T x, ty, pos, af, gd⟩ K) := fun a w ha hw => by
  refine OpK.value (fun c => by simp) (v := v) (w' := w) ?_ (t _ w (ha.putF hd v) hw)
  simp [execOp, Instr.loadAt, Instr.sureAddr, ha.ev hx, run_load1 hT (hc w hw)]
theorem Tr.loadN {T : TypeId} {z : Value} {s b o : Nat} {vs : List Value} {x : Operand} (hT : tyv c.P T = some (z, s, true)) (hx : ev l x = some (.pointer (some ⟨b, o, none⟩))) (hc : Cells c h b o vs) (hs : vs.length = s) (hd : okD dst c.n = true)
    (t : Tr c (putF dst (.agg vs.toArray) l) h K) : Tr c l h (OpK c.P c.r ⟨dst, .load T x, ty, pos, af, gd⟩ K) := fun a w ha hw => by
  refine OpK.value (fun c => by simp) (v := .agg vs.toArray) (w' := w) ?_ (t _ w (ha.putF hd _) hw)
  simp [execOp, Instr.loadAt, Instr.sureAddr, ha.ev hx, run_loadN hT hs (fun i v hi => hc i v hi w hw)]
/-- Cells that are each of one cell. -/
def flat : List Value → Bool
  | [] => true
  | v :: vs => v.oneCell' && flat vs
theorem flat_mem : ∀ {vs : List Value}, flat vs = true → ∀ v ∈ vs, v.oneCell' = true
  | v :: vs, hf, x, hx => by
    simp only [flat, Bool.and_eq_true] at hf
    rcases List.mem_cons.1 hx with rfl | hx
    · exact hf.1
    · exact flat_mem hf.2 x hx
theorem Tr.store {T T' : TypeId} {z : Value} {s b o : Nat} {g : Bool} {v : Value} {vs : List Value} {cs : Array Value} {cs' : List Value} {x y : Operand} (k : Nat) (hT : tyv c.P T = some (z, s, g)) (hx : ev l x = some (.pointer (some ⟨b, o, none⟩))) (hy : ev l y = some v) (hv : v.cells = vs.toArray)
    (hs : vs.length = s) (hf : flat vs = true) (hk : h[k]? = some (b, .cells cs T')) (hb : Nat.ble (o + vs.length) cs.size = true) (hcs : cs.toList.take o ++ (vs ++ cs.toList.drop (o + vs.length)) = cs') (hset : h.set k (b, .cells cs'.toArray T') = h') (hd : okD dst c.n = true)
    (t : Tr c (putF dst undef l) h' K) : Tr c l h (OpK c.P c.r ⟨dst, .store T x y, ty, pos, af, gd⟩ K) := fun a w ha hw => by
  obtain ⟨i, d, h1, h2, h3, h4, h5⟩ := tyv_spec hT
  subst hset
  have hb' : o + vs.length ≤ cs.size := by simpa using hb
  have hg := hw.get hk
  have hst := run_storeCells_at (P := c.P) b o T' vs 0 cs w hg (by simpa using hb') (flat_mem hf)
  rw [Nat.add_zero] at hst
  have hcs2 : (cs.toList.take o ++ vs ++ cs.toList.drop (o + vs.length)) = cs' := by rw [List.append_assoc]; exact hcs
  rw [hcs2] at hst
  refine OpK.skip (fun c => by simp) (w' := w.setRow b cs'.toArray) ?_ (t _ _ (ha.putF hd undef) ?_)
  · simp [execOp, Instr.storeAt, Instr.sureAddr, ha.ev hx, ha.ev hy, storeVar, hv, sizeOf, typeInfo, h1, h3, hs, hst]
  · exact hw.turn hk rfl rfl rfl (by simp) (fun i hi => setRow_other w b i _ hi) (setRow_heap w b cs cs'.toArray T' (0, 0) hg)

/-- Where a field lies (a type without cells: none). -/
def fld (P : Program) (T : TypeId) (i : Nat) : Option Nat :=
  match P.underlying T with
  | some (.struct fs) => match fs[i]? with
    | some f => match P.info? f.type with
      | some j => if j.size = 0 then none else some f.offset
      | none => none
    | none => none
  | _ => none
theorem Tr.fieldAddr {T : TypeId} {i b o o' off : Nat} {x : Operand} (hF : fld c.P T i = some off) (hx : ev l x = some (.pointer (some ⟨b, o, none⟩))) (ho : o + off = o') (hd : okD dst c.n = true)
    (t : Tr c (putF dst (.pointer (some ⟨b, o', none⟩)) l) h K) : Tr c l h (OpK c.P c.r ⟨dst, .fieldAddr T x i, ty, pos, af, gd⟩ K) := fun a w ha hw => by
  subst ho
  refine OpK.value (fun c => by simp) (v := .pointer (some ⟨b, o + off, none⟩)) (w' := w) ?_ (t _ w (ha.putF hd _) hw)
  unfold fld at hF
  split at hF
  · rename_i fs hu
    split at hF
    · rename_i f hf
      split at hF
      · rename_i j hj
        split at hF
        · cases hF
        · rename_i hs
          simp only [Option.some.injEq] at hF
          subst hF
          simp [execOp, Instr.fieldAt, run_underlying hu, hf, Instr.sureAddr, ha.ev hx, fieldPlace, sizeOf, typeInfo, hj, hs, addr_add]
      · cases hF
    · cases hF
  · cases hF
/-- An array's length and its element's cells. -/
def arr (P : Program) (T : TypeId) : Option (Nat × Nat) :=
  match P.underlying T with
  | some (.array n e) => match P.info? e with
    | some j => some (n, j.size)
    | none => none
  | _ => none
/-- A slice type's element's cells. -/
def sli (P : Program) (T : TypeId) : Option (TypeId × Nat) :=
  match P.underlying T with
  | some (.slice e) => match P.info? e with
    | some j => some (e, j.size)
    | none => none
  | _ => none
theorem arr_spec {T : TypeId} {n s : Nat} (hA : arr P T = some (n, s)) : ∃ e j, P.underlying T = some (.array n e) ∧ P.info? e = some j ∧ j.size = s := by
  unfold arr at hA
  split at hA
  · rename_i m e hu
    split at hA
    · rename_i j hj; simp only [Option.some.injEq, Prod.mk.injEq] at hA; obtain ⟨rfl, rfl⟩ := hA; exact ⟨e, j, hu, hj, rfl⟩
    · cases hA
  · cases hA
theorem sli_spec {T e : TypeId} {s : Nat} (hA : sli P T = some (e, s)) : ∃ j, P.underlying T = some (.slice e) ∧ P.info? e = some j ∧ j.size = s := by
  unfold sli at hA
  split at hA
  · rename_i e hu
    split at hA
    · rename_i j hj; simp only [Option.some.injEq, Prod.mk.injEq] at hA; obtain ⟨rfl, rfl⟩ := hA; exact ⟨j, hu, hj, rfl⟩
    · cases hA
  · cases hA
theorem Tr.indexArr {T : TypeId} {n s b o o' : Nat} {k : IntKind} {i : Int} {x y : Operand} (hA : arr c.P T = some (n, s)) (hx : ev l x = some (.pointer (some ⟨b, o, none⟩))) (hy : ev l y = some (.int k i)) (h0 : 0 ≤ i) (h1 : i < n) (ho : o + i.toNat * s = o') (hd : okD dst c.n = true)
    (t : Tr c (putF dst (.pointer (some ⟨b, o', none⟩)) l) h K) : Tr c l h (OpK c.P c.r ⟨dst, .indexAddr T x y, ty, pos, af, gd⟩ K) := fun a w ha hw => by
  obtain ⟨e, j, hu, hj, rfl⟩ := arr_spec hA
  subst ho
  refine OpK.value (fun c => by simp) (v := .pointer (some ⟨b, o + i.toNat * j.size, none⟩)) (w' := w) ?_ (t _ w (ha.putF hd _) hw)
  simp [execOp, Instr.indexAt, ha.ev hx, ha.ev hy, asIntOf, run_underlying hu, Instr.sureAddr, h0, h1, sizeOf, typeInfo, hj, addr_add]
theorem Tr.indexSlice {T e : TypeId} {s b o o' len cap : Nat} {k : IntKind} {i : Int} {x y : Operand} (hA : sli c.P T = some (e, s)) (hx : ev l x = some (.slice (some ⟨b, o, none⟩) len cap)) (hy : ev l y = some (.int k i)) (h0 : 0 ≤ i) (h1 : i < len) (ho : o + i.toNat * s = o') (hd : okD dst c.n = true)
    (t : Tr c (putF dst (.pointer (some ⟨b, o', none⟩)) l) h K) : Tr c l h (OpK c.P c.r ⟨dst, .indexAddr T x y, ty, pos, af, gd⟩ K) := fun a w ha hw => by
  obtain ⟨j, hu, hj, rfl⟩ := sli_spec hA
  subst ho
  refine OpK.value (fun c => by simp) (v := .pointer (some ⟨b, o + i.toNat * j.size, none⟩)) (w' := w) ?_ (t _ w (ha.putF hd _) hw)
  simp [execOp, Instr.indexAt, ha.ev hx, ha.ev hy, asIntOf, run_underlying hu, h0, h1, sizeOf, typeInfo, hj, addr_add]
/-- An array, sliced whole. -/
theorem Tr.sliceArr {T : TypeId} {n s b o : Nat} {x : Operand} (hA : arr c.P T = some (n, s)) (hx : ev l x = some (.pointer (some ⟨b, o, none⟩))) (hd : okD dst c.n = true)
    (t : Tr c (putF dst (.slice (some ⟨b, o, none⟩) n n) l) h K) : Tr c l h (OpK c.P c.r ⟨dst, .slice T x none none none, ty, pos, af, gd⟩ K) := fun a w ha hw => by
  obtain ⟨e, j, hu, hj, rfl⟩ := arr_spec hA
  refine OpK.value (fun c => by simp) (v := .slice (some ⟨b, o, none⟩) n n) (w' := w) ?_ (t _ w (ha.putF hd _) hw)
  have : (⟨b, o, none⟩ : Addr).add 0 = ⟨b, o, none⟩ := rfl
  simp [execOp, Instr.sliceAt, ha.ev hx, run_underlying hu, Instr.sureAddr, Instr.sliceBounds, sizeOf, typeInfo, hj, this]
/-- An element of an array that is a value. -/
theorem Tr.indexVal {T e : TypeId} {n : Nat} {k : IntKind} {i : Int} {x y : Operand} {cs : Array Value} {z v : Value} (hA : c.P.underlying T = some (.array n e)) (hE : tyv c.P e = some (z, 1, false)) (hx : ev l x = some (.agg cs)) (hy : ev l y = some (.int k i)) (h0 : 0 ≤ i) (h1 : i < n) (hv : cs[i.toNat]? = some v) (hd : okD dst c.n = true)
    (t : Tr c (putF dst v l) h K) : Tr c l h (OpK c.P c.r ⟨dst, .index T x y, ty, pos, af, gd⟩ K) := fun a w ha hw => by
  obtain ⟨j, d, g1, g2, g3, g4, g5⟩ := tyv_spec hE
  refine OpK.value (fun c => by simp) (v := v) (w' := w) ?_ (t _ w (ha.putF hd _) hw)
  simp [execOp, Instr.index, ha.ev hx, ha.ev hy, asIntOf, run_underlying hA, h0, h1, sizeOf, typeInfo, g1, g3, part, run_isAgg_of g4, g5, hv]
theorem Tr.indexValN {T e : TypeId} {n s : Nat} {k : IntKind} {i : Int} {x y : Operand} {cs : Array Value} {z : Value} {us : List Value} (hA : c.P.underlying T = some (.array n e)) (hE : tyv c.P e = some (z, s, true)) (hx : ev l x = some (.agg cs)) (hy : ev l y = some (.int k i)) (h0 : 0 ≤ i) (h1 : i < n) (hv : (cs.extract (i.toNat * s) (i.toNat * s + s)) = us.toArray) (hd : okD dst c.n = true)
    (t : Tr c (putF dst (.agg us.toArray) l) h K) : Tr c l h (OpK c.P c.r ⟨dst, .index T x y, ty, pos, af, gd⟩ K) := fun a w ha hw => by
  obtain ⟨j, d, g1, g2, g3, g4, g5⟩ := tyv_spec hE
  refine OpK.value (fun c => by simp) (v := .agg us.toArray) (w' := w) ?_ (t _ w (ha.putF hd _) hw)
  rw [← hv]
  simp [execOp, Instr.index, ha.ev hx, ha.ev hy, asIntOf, run_underlying hA, h0, h1, sizeOf, typeInfo, g1, g3, part, run_isAgg_of g4, g5]
theorem Tr.convInt {S T : TypeId} {k k' : IntKind} {n : Int} {x : Operand} (v : Value) (hS : (c.P.underlying S).isSome = true) (hD : c.P.underlying T = some (.int k')) (hx : ev l x = some (.int k n)) (e : .int k' (k'.wrap n) = v) (hd : okD dst c.n = true)
    (t : Tr c (putF dst v l) h K) : Tr c l h (OpK c.P c.r ⟨dst, .convert S T x, ty, pos, af, gd⟩ K) := fun a w ha hw => by
  subst e
  obtain ⟨d, hS'⟩ := Option.isSome_iff_exists.mp hS
  refine OpK.value (fun c => by simp) (v := .int k' (k'.wrap n)) (w' := w) ?_ (t _ w (ha.putF hd _) hw)
  simp [execOp, ha.ev hx, convert, run_underlying hS', run_underlying hD, Conv.intToInt]
/-- A struct's or an array's value, built: where the parts lie, and how many cells each has. -/
def plc (P : Program) (T : TypeId) : Option (List (Nat × Nat)) :=
  match P.underlying T with
  | some (.struct fs) => fs.toList.mapM fun f => (P.info? f.type).map fun j => (f.offset, j.size)
  | some (.array n e) => (P.info? e).map fun j => (List.range n).map fun i => (i * j.size, j.size)
  | _ => none
end mem
end Go.Ka

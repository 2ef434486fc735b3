/- The calculus' rules for writing an iterator: it calls yield. -/
import Derived.Test.YtfcbdjjpmgmpoaaDoorK4
namespace Go.Ka
open Go.RowKit
open Go.Proofs (Enters enters_of)
variable {c : Cx} {l : Fr} {h : Hp} {K : Act → World → Prop}

/-- The context of an iterator's walk: what is kept may be read; J says what has been handed over. -/
abbrev Cx.it (P : Program) (n : Nat) (Keep : Nat → Prop) (W : World) (J : World → Prop) (hJ : ∀ w w', J w → Fm No w w' → J w') : Cx := ⟨P, none, n, [], fun b => ¬ Keep b, W, J, hJ⟩
/-- .. where a round has said no more. -/
abbrev Cx.over (P : Program) (n : Nat) (W : World) (J : World → Prop) (hJ : ∀ w w', J w → Fm No w w' → J w') : Cx := ⟨P, none, n, [], fun _ => True, W, J, hJ⟩
def IterR {α : Type} (xs : List α) (J Jx : List α → World → Prop) (e : Ending) (w' : World) : Prop := (∃ v, e = .returned v) ∧ ((∃ ys, ys = xs ∧ J ys w') ∨ (∃ pre, pre <+: xs ∧ Jx pre w'))
/-- A round's answer. -/
abbrev YieldsTo (P : Program) (lp : Nat) (vs : Array Value) (Keep : Nat → Prop) (J' Jx' : World → Prop) (w : World) : Prop :=
  YieldAt (Fc none) 97 P lp vs w fun e w' => (e = .returned (.bool true) ∧ J' w' ∧ KeepK Keep w w') ∨ (e = .returned (.bool false) ∧ Jx' w')
theorem iter_enter {α : Type} {P : Program} {gf : Nat} {fn : Func} {code : Code} {lb : Array Value} {lbs : List Value} {n : Nat} {encs : α → Array Value} {Keep : Nat → Prop} {xs : List α} {w : World}
    (hf : P.funcs[gf]? = some fn) (hb : fn.body = some code) (hn : fn.ntmps = n) (hlb : lb = lbs.toArray) (hle : Nat.ble (lbs.length + 1) n = true) (hk : ∀ b, Keep b → b < w.heap.size)
    (t : ∀ (lp : Nat) (J Jx : List α → World → Prop) (hJ : ∀ pre w w', J pre w → Fm No w w' → J pre w') (hJx : ∀ pre w w', Jx pre w → Fm No w w' → Jx pre w') (W : World), (∀ b, Keep b → W.heap[b]? = w.heap[b]?) →
      (∀ pre x W1, J pre W1 → pre.length < xs.length → YieldsTo P lp (encs x) Keep (J (pre ++ [x])) (Jx (pre ++ [x])) W1) →
      Tr (Cx.it P n Keep W (J []) (hJ [])) (initF 0 (.func (.yield lp) #[] #[] :: lbs)) [] ((Cx.it P n Keep W (J []) (hJ [])).W code (Post P fn (IterR xs J Jx)))) : Iter P gf lb encs Keep xs w := by
  intro lp J Jx W hW hJ hJx hY h0
  subst hlb hn
  have hle' : lbs.length + 1 ≤ fn.ntmps := by simpa using hle
  have ab : ∀ (J : List α → World → Prop), AbidesFrom W.heap.size J → ∀ pre w w', J pre w → Fm No w w' → J pre w' := fun J hJ pre w w' hj f =>
    hJ pre w w' none hj ⟨f.os, f.tape, f.output, f.size, fun k hk _ => f.block k hk id⟩ (fun r e => by cases e)
  refine callsIn_Fc (calls_of_Fc (n := 99) (callsIn_of_wp_marks hf hb trivial (wpIn_mono (t lp J Jx (ab J hJ) (ab Jx hJx) W (fun b hb => hW.block b (hk b hb)) hY _ W ⟨by simp; omega, rfl, ?_⟩ (St.nil (c := Cx.it P _ Keep W (J []) (ab J hJ [])) h0)) ?_)))
  · intro i v hi
    obtain ⟨j, rfl, hj⟩ := look_initF (.func (.yield lp) #[] #[] :: lbs) 0 i v hi
    have hlt : j < lbs.length + 1 := by have := (List.getElem?_eq_some_iff.1 hj).1; simpa using this
    have e : (#[Value.func (.yield lp) #[] #[]] ++ lbs.toArray) = (Value.func (.yield lp) #[] #[] :: lbs).toArray := by simp
    simp only [e]
    rw [Nat.zero_add, Array.getD_eq_getD_getElem?, Array.getElem?_append_left (by simpa using hlt)]
    simp [hj]
  · intro e a w2 hq
    exact hq
section yield
variable {dst : Option Nat} {ty : TypeId} {pos : String} {af : Array Edge} {gd : Option (Nat × Bool)} {ats : Array TypeId} {args : Array Operand} {vs : List Value}
theorem OpK.round {o : Oper} {a : Act} {w : World} {lp : Nat} {xs : Array Value} {R : Ending → World → Prop} (hd : ∀ c, o.op ≠ .defer c) (hr : (execOp a.eval o).run c.P w = (Instr.yield lp xs).run c.P w) (hy : YieldAt (Fc none) 97 c.P lp xs w R) (hk : ∀ e w', R e w' → ∃ v, e = .returned v ∧ K (a.put o.dst v) w') : OpK c.P c.r o K a w := by
  obtain ⟨fn, tmps, asg, body, h1, h2⟩ := hy
  unfold OpK; rw [Oper.semAt_eq _ _ _ hd, hr, h1]
  exact (roundIn_Fc h2).mono hk
theorem Tr.yield {lp : Nat} {fo : Operand} {Keep : Nat → Prop} {W : World} {J J' Jx' : World → Prop} {hJ : ∀ w w', J w → Fm No w w' → J w'} {P : Program} {n : Nat} (hJ' : ∀ w w', J' w → Fm No w w' → J' w') (hJx' : ∀ w w', Jx' w → Fm No w w' → Jx' w')
    (hfo : ev l fo = some (.func (.yield lp) #[] #[])) (hv : evs l args.toList = some vs) (hd : okD dst n = true)
    (hy : ∀ w, J w → YieldsTo P lp vs.toArray Keep J' Jx' w)
    (tT : Tr (Cx.it P n Keep W J' hJ') (putF dst (.bool true) l) [] K)
    (tF : ∀ w', Tr (Cx.over P n w' Jx' hJx') (putF dst (.bool false) l) [] K) :
    Tr (Cx.it P n Keep W J hJ) l h (OpK P none ⟨dst, .call ⟨.value fo, args, ats⟩, ty, pos, af, gd⟩ K) := fun a w ha hw => by
  refine OpK.round (c := Cx.it P n Keep W J hJ) (fun c => by simp) (lp := lp) (xs := vs.toArray) ?_ (hy w hw.jw) ?_
  · simp [execOp, resolve, args_eq ha hv, Deferred.ofValue, ha.ev hfo, invoke]
  · rintro e w' (⟨rfl, h1, h2⟩ | ⟨rfl, h1⟩)
    · refine ⟨_, rfl, tT _ w' (ha.putF hd _) ⟨⟨h2.os.trans hw.fm.os, h2.tape.trans hw.fm.tape, h2.output.trans hw.fm.output, Nat.le_trans hw.fm.size h2.size, fun k hk hm => ?_⟩, .nil, by simp, by simp, .inr ⟨w', h1, Fm.refl _ _, by simp⟩⟩⟩
      have hk' : Keep k := Classical.byContradiction hm
      exact (h2.block k hk').trans (hw.fm.block k hk hm)
    · exact ⟨_, rfl, tF w' _ w' (ha.putF hd _) ⟨Fm.refl _ _, .nil, by simp, by simp, .inr ⟨w', h1, Fm.refl _ _, by simp⟩⟩⟩
/-- A region that draws its order and calls yield: it ends in one of several contexts. -/
theorem Tr.drawY {Y : Type} {id : Nat} {lo : List Oper} {Q : Exit → Act → World → Prop} (C : Y → Cx) (L : Y → Fr) (H : Y → Hp) (hm : c.P.follows .mixedOrders = true)
    (t1 : ∀ (K : Act → World → Prop) (N : Cx → Fr → Hp → Nat → Array Bool → Prop), (∀ c' l h f b, N c' l h f b ↔ Tr c' l h (AnyK c.P c.r lo.toArray K f b)) → (∀ y, Tr (C y) (L y) (H y) K) → N c l h lo.length (Array.replicate lo.length false))
    (t2 : ∀ y, Tr (C y) (L y) (H y) (Q .normal)) : Tr c l h (c.W (.region id lo.toArray true) Q) :=
  Tr.draw hm (t1 (Q .normal) (fun c' l h f b => Tr c' l h (AnyK c.P c.r lo.toArray (Q .normal) f b)) (fun _ _ _ _ _ => Iff.rfl) t2)
theorem it_eq {α : Type} {P : Program} {n : Nat} {Keep : Nat → Prop} {W : World} {J : List α → World → Prop} {hJ : ∀ pre w w', J pre w → Fm No w w' → J pre w'} {pre pre' : List α} (e : pre = pre') : Cx.it P n Keep W (J pre) (hJ pre) = Cx.it P n Keep W (J pre') (hJ pre') := by subst e; rfl
theorem St.itKeep {P : Program} {n : Nat} {Keep : Nat → Prop} {W w0 w' : World} {J : World → Prop} {hJ : ∀ w w', J w → Fm No w w' → J w'} {h : Hp} (s : St (Cx.it P n Keep W J hJ) w' h) (hlt : ∀ b, Keep b → b < w0.heap.size) (hW : ∀ b, Keep b → W.heap[b]? = w0.heap[b]?) : ∀ b, Keep b → w'.heap[b]? = w0.heap[b]? := fun b hb => by
  have h1 := hW b hb
  have : b < W.heap.size := by
    have h2 := hlt b hb
    rw [Array.getElem?_eq_getElem h2] at h1
    exact (Array.getElem?_eq_some_iff.1 h1).1
  exact (s.fm.block b this (fun h => h hb)).trans h1
/-- The iterator's ends. -/
theorem Tr.itDone {α : Type} {P : Program} {n : Nat} {Keep : Nat → Prop} {W : World} {xs ys : List α} {J Jx : List α → World → Prop} {hJ : ∀ w w', J ys w → Fm No w w' → J ys w'} {fn : Func} (hr : fn.results = #[]) (hy : ys = xs) :
    Tr (Cx.it P n Keep W (J ys) hJ) l h (LeaveK (Cx.it P n Keep W (J ys) hJ) fn (IterR xs J Jx)) := Tr.res0 hr fun w hw => ⟨⟨_, rfl⟩, .inl ⟨ys, hy, hw.jw⟩⟩
theorem Tr.itOver {α : Type} {P : Program} {n : Nat} {W : World} {xs ys : List α} {J Jx : List α → World → Prop} {hJ : ∀ w w', Jx ys w → Fm No w w' → Jx ys w'} {fn : Func} (hr : fn.results = #[]) (hy : ys <+: xs) :
    Tr (Cx.over P n W (Jx ys) hJ) l h (LeaveK (Cx.over P n W (Jx ys) hJ) fn (IterR xs J Jx)) := Tr.res0 hr fun w hw => ⟨⟨_, rfl⟩, .inr ⟨ys, hy, hw.jw⟩⟩
end yield
end Go.Ka

/- In a region that draws its order: an operation that only reckons may be taken first. -/
import Derived.Test.YtfcbdjjpmgmpoaaDoorK5
namespace Go.Ka
open Go.RowKit
variable {c : Cx} {l : Fr} {h : Hp} {K K' : Act → World → Prop} {P : Program} {r : Option Nat} {ops : Array Oper}

def Yields (P : Program) (ops : Array Oper) (o : Oper) (v : Value) (a : Act) : Prop :=
  (∀ c, o.op ≠ .defer c) ∧ Region.wanted o (yielded ops a.tmps) = true ∧ ∀ w, (execOp a.eval o).run P w = .ok (.value v) w
theorem OneK.mono {o : Oper} {a : Act} {w : World} (h1 : OneK P r ops o K a w) (hk : ∀ a w, K a w → K' a w) : OneK P r ops o K' a w := by
  unfold OneK at *
  split
  · rename_i hw; rw [if_pos hw] at h1; exact OpK.mono (c := Cx.mk0 P r 0 [] No default) h1 hk
  · rename_i hw; rw [if_neg hw] at h1; exact hk _ _ h1
theorem Yields.one {o : Oper} {v : Value} {a : Act} {w : World} (hy : Yields P ops o v a) (hk : K (a.put o.dst v) w) : OneK P r ops o K a w := by
  unfold OneK; rw [if_pos hy.2.1]
  exact OpK.value (c := Cx.mk0 P r 0 [] No default) hy.1 (hy.2.2 w) hk
theorem Yields.same {o : Oper} {v : Value} {a a' : Act} (hy : Yields P ops o v a) (he : execOp a'.eval o = execOp a.eval o) (hw : Region.wanted o (yielded ops a'.tmps) = Region.wanted o (yielded ops a.tmps)) : Yields P ops o v a' := by
  unfold Yields at *
  rw [he, hw]; exact hy
theorem semAt_put {o : Oper} (hs : ∀ cs b, o.op ≠ .select cs b) (hd : ∀ c, o.op ≠ .defer c) (a : Act) (dst : Option Tmp) (v : Value) (hx : ∀ d, dst = some d → d ∉ o.looksAt ops) (r : Option Nat) : Oper.semAt r (a.put dst v).eval o = Oper.semAt r a.eval o := by
  rw [Oper.semAt_eq _ _ _ hd, Oper.semAt_eq _ _ _ hd, execOp_put o hs a dst v hx]
theorem OneK.put {oi oj : Oper} {v : Value} (hap : oi.apart ops oj = true) (hsi : ∀ cs b, oi.op ≠ .select cs b) (hsj : ∀ cs b, oj.op ≠ .select cs b) (hdj : ∀ c, oj.op ≠ .defer c) {a : Act} {w : World}
    (hy : Yields P ops oi v a) (h1 : OneK P r ops oj K (a.put oi.dst v) w) : OneK P r ops oj (fun a' w' => Yields P ops oi v a' ∧ K (a'.put oi.dst v) w') a w := by
  obtain ⟨g1, g2, g3⟩ := Oper.apart_spec hap
  have keep : ∀ (a : Act), Yields P ops oi v a → ∀ u, Yields P ops oi v (a.put oj.dst u) := fun a hy u =>
    hy.same (execOp_put oi hsi a oj.dst u g3) (wanted_put oi a oj.dst u g3)
  unfold OneK at *
  rw [wanted_put oj a oi.dst v g1] at h1
  split
  · rename_i hw
    rw [if_pos hw] at h1
    unfold OpK at *
    rw [semAt_put hsj hdj a oi.dst v g1 r] at h1
    generalize (oj.semAt r a.eval).run P w = x at h1 ⊢
    split at h1
    · exact ⟨keep a hy _, by rw [← Act.put_comm a v _ g2]; exact h1⟩
    · exact ⟨keep a hy _, by rw [← Act.put_comm a v undef g2]; exact h1⟩
    · exact Calls.mono h1 fun e w'' ⟨u, he, hk⟩ => ⟨u, he, keep a hy u, by rw [← Act.put_comm a v u g2]; exact hk⟩
    · exact RoundIn.mono h1 fun e w'' ⟨u, he, hk⟩ => ⟨u, he, keep a hy u, by rw [← Act.put_comm a v u g2]; exact hk⟩
    · exact h1.elim
  · rename_i hw
    rw [if_neg hw] at h1
    exact ⟨keep a hy _, by rw [← Act.put_comm a v undef g2]; exact h1⟩
def noDefer (ops : Array Oper) : Bool := ops.all fun o => match o.op with | .defer .. => false | .select .. => false | _ => true
theorem noDefer_spec (hh : noDefer ops = true) (j : Nat) (o : Oper) (ho : ops[j]? = some o) : (∀ c, o.op ≠ .defer c) ∧ ∀ cs b, o.op ≠ .select cs b := by
  have h1 := Array.all_eq_true_iff_forall_mem.1 hh o (Array.mem_of_getElem? ho)
  exact ⟨fun c heq => by simp [heq] at h1, fun cs b heq => by simp [heq] at h1⟩
theorem AnyK.first {i : Nat} {oi : Oper} {v : Value} (hi : ops[i]? = some oi) (hnd : noDefer ops = true) :
    ∀ (fuel : Nat) (listed : Array Bool) (a : Act) (w : World),
      (∀ j oj, ops[j]? = some oj → j ≠ i → listed.getD j true = false → (∀ e ∈ oj.after, Region.binds .any e = true → e.on ≠ i) → oi.apart ops oj = true) →
      i ∈ Region.ready .any ops listed → Yields P ops oi v a →
      AnyK P r ops K fuel (listed.setIfInBounds i true) (a.put oi.dst v) w → AnyK P r ops K (fuel + 1) listed a w := by
  intro fuel
  induction fuel with
  | zero =>
    intro listed a w _ hr hy H
    refine ⟨fun h => (by rw [h] at hr; cases hr), fun j hj => ?_⟩
    by_cases hji : j = i
    · subst hji; exact ⟨oi, hi, hy.one H⟩
    · have := ready_mono hj hji
      rw [H.1] at this
      cases this
  | succ fuel ih =>
    intro listed a w hfree hr hy H
    refine ⟨fun h => (by rw [h] at hr; cases hr), fun j hj => ?_⟩
    by_cases hji : j = i
    · subst hji; exact ⟨oi, hi, hy.one H⟩
    · obtain ⟨oj', hoj', h1⟩ := H.2 j (ready_mono hj hji)
      obtain ⟨hjun, oj, hoj, hall⟩ := mem_ready.1 hj
      obtain rfl : oj = oj' := Option.some.inj (hoj.symm.trans hoj')
      have hnot : ∀ e ∈ oj.after, Region.binds .any e = true → e.on ≠ i := fun e he hb heq => by
        have h1 := hall e he hb
        have h0 := (mem_ready.1 hr).1
        rw [heq] at h1
        rcases Nat.lt_or_ge i listed.size with h' | h'
        · simp [h'] at h0 h1; rw [h0] at h1; cases h1
        · simp [Array.getElem?_eq_none h'] at h1
      have h2 := OneK.put (hfree j oj hoj hji hjun hnot) (noDefer_spec hnd i oi hi).2 (noDefer_spec hnd j oj hoj).2 (noDefer_spec hnd j oj hoj).1 hy h1
      have hfree' : ∀ k ok, ops[k]? = some ok → k ≠ i → (listed.setIfInBounds j true).getD k true = false →
          (∀ e ∈ ok.after, Region.binds .any e = true → e.on ≠ i) → oi.apart ops ok = true := fun k ok hk hki hun hno => by
        refine hfree k ok hk hki ?_ hno
        by_cases hjk : j = k
        · subst hjk; exact hjun
        · rw [getD_set_ne true hjk] at hun; exact hun
      refine ⟨oj, hoj, OneK.mono h2 (fun a' w' h3 => ih (listed.setIfInBounds j true) a' w' hfree' (ready_mono hr (Ne.symm hji)) h3.1 ?_)⟩
      rw [Array.setIfInBounds_comm _ _ hji]
      exact h3.2
theorem Tr.takeY {lo : List Oper} {fuel : Nat} {listed : Array Bool} {o : Oper} {v : Value} (i : Nat) (ho : nth lo i = some o) (hnd : noDefer lo.toArray = true) (hf : Region.free .any lo.toArray listed i = true) (hr : (Region.ready .any lo.toArray listed).contains i = true)
    (hy : ∀ a, Has c.n c.ds l a → Yields P lo.toArray o v a) (hd : okD o.dst c.n = true) (t : Tr c (putF o.dst v l) h (AnyK P r lo.toArray K fuel (listed.setIfInBounds i true))) : Tr c l h (AnyK P r lo.toArray K (fuel + 1) listed) := fun a w ha hw => by
  have hi : lo.toArray[i]? = some o := by simpa using nth_spec lo i o ho
  exact AnyK.first hi hnd fuel listed a w (fun j oj hj hne hun hno => Region.free_spec hi hf j oj hj hne hun hno) (by simpa using hr) (hy a ha) (t _ w (ha.putF hd v) hw)
/-- An operation that only reckons, taken first. -/
theorem Tr.take {lo : List Oper} {fuel : Nat} {listed : Array Bool} {o : Oper} {v : Value} (i : Nat) (v' : Value) (ho : nth lo i = some o) (hnd : noDefer lo.toArray = true) (hf : Region.free .any lo.toArray listed i = true) (hr : (Region.ready .any lo.toArray listed).contains i = true)
    (hg : o.guard = none) (hv : pureV l o.op = some v) (e : v = v') (hd : okD o.dst c.n = true) (t : Tr c (putF o.dst v' l) h (AnyK P r lo.toArray K fuel (listed.setIfInBounds i true))) : Tr c l h (AnyK P r lo.toArray K (fuel + 1) listed) := by
  subst e
  exact Tr.takeY i ho hnd hf hr (fun a ha => ⟨pureV_defer hv, by simp [Region.wanted, hg], fun w => pureV_run ha hv w⟩) hd t
end Go.Ka

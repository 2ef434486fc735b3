/- The calculus' rule for a range over a function. -/
import Derived.Test.YtfcbdjjpmgmpoaaDoorK3
namespace Go.Ka
open Go.RowKit
open Go.Proofs (Enters enters_of)
variable {c : Cx} {l : Fr} {h : Hp} {K : Act → World → Prop}

theorem wpIn_n {r : Option Nat} {n m : Nat} {P : Program} {x : Code} {Q : Exit → Act → World → Prop} {a : Act} {w : World} (hh : x.wpIn (Fc r) n P Q a w) : x.wpIn (Fc r) m P Q a w :=
  fun b k cs hro hb _ => hh b k cs hro hb (room_Fc _ _)
/-- What a round keeps. -/
structure KeepK (Keep : Nat → Prop) (W W' : World) : Prop where
  os : W'.os = W.os
  tape : W'.tape = W.tape
  output : W'.output = W.output
  size : W.heap.size ≤ W'.heap.size
  block : ∀ b, Keep b → W'.heap[b]? = W.heap[b]?
theorem KeepK.trans {Keep : Nat → Prop} {A B C : World} (h1 : KeepK Keep A B) (h2 : KeepK Keep B C) : KeepK Keep A C :=
  ⟨h2.os.trans h1.os, h2.tape.trans h1.tape, h2.output.trans h1.output, Nat.le_trans h1.size h2.size, fun b hb => (h2.block b hb).trans (h1.block b hb)⟩
/-- An iterator's contract: it hands over xs, one by one; it reads what is kept. -/
abbrev Iter {α : Type} (P : Program) (gf : Nat) (lb : Array Value) (encs : α → Array Value) (Keep : Nat → Prop) (xs : List α) (w : World) : Prop :=
  SeqStopsK (Fc none) 98 P gf lb encs (KeepK Keep) (fun ys => ys = xs) (fun pre => pre <+: xs) xs.length w

def puts : List (Nat × Value) → Fr → Fr
  | [], l => l
  | (p, v) :: r, l => puts r ((p, v) :: l)
theorem Has.puts {n : Nat} {ds : List Deferred} : ∀ (r : List (Nat × Value)) {l : Fr} {a : Act}, Has n ds l a → (∀ p ∈ r, p.1 < n) → Has n ds (puts r l) { tmps := r.foldl (fun t q => t.setIfInBounds q.1 q.2) a.tmps, defers := a.defers }
  | [], _, _, ha, _ => ha
  | (p, v) :: r, l, a, ha, hp => by
    have := Has.puts r (ha.put (hp (p, v) (by simp)) v) (fun q hq => hp q (by simp [hq]))
    exact this
theorem foldl_zip (ps : Array Nat) (vs : Array Value) (t : Array Value) : (ps.zip vs).foldl (fun t (q : Nat × Value) => t.setIfInBounds q.1 q.2) t = (ps.toList.zip vs.toList).foldl (fun t q => t.setIfInBounds q.1 q.2) t := by
  rw [← Array.foldl_toList, Array.toList_zip]

/-- How a round may end. -/
def RoundQ (cb : Cx) (PN : Prop) (hN : Hp) (hX : Code → Hp) (JX : Code → Prop) : Exit → Act → World → Prop
  | .normal, _, w' => PN ∧ St cb w' hN
  | .ret, _, w' => JX .ret ∧ St cb w' (hX .ret)
  | .exit i, _, w' => JX (.exit i) ∧ St cb w' (hX (.exit i))
  | _, _, _ => False
section rq
variable {PN : Prop} {hN : Hp} {hX : Code → Hp} {JX : Code → Prop}
theorem Tr.roundN {cc : Cx} (hP : PN) (ks : List Nat) (hn : ks.Nodup) (hh : pick h ks = hN) : Tr cc l h (RoundQ cc PN hN hX JX .normal) := fun a w ha hw => ⟨hP, hh ▸ hw.pick hn⟩
theorem Tr.roundR {cc : Cx} (hJ : JX .ret) (ks : List Nat) (hn : ks.Nodup) (hh : pick h ks = hX .ret) : Tr cc l h (RoundQ cc PN hN hX JX .ret) := fun a w ha hw => ⟨hJ, hh ▸ hw.pick hn⟩
theorem Tr.roundE {cc : Cx} {i : Nat} (hJ : JX (.exit i)) (ks : List Nat) (hn : ks.Nodup) (hh : pick h ks = hX (.exit i)) : Tr cc l h (RoundQ cc PN hN hX JX (.exit i)) := fun a w ha hw => ⟨hJ, hh ▸ hw.pick hn⟩
/-- Behind the assignment to the loop's variables. -/
theorem Tr.assigned {cc : Cx} {Y : Type} {la : Y → Fr} {hb : Y → Hp} {hmr : Hp} {Q : Exit → Act → World → Prop} (y : Y) (hM : cc.M = (· ∈ hmr.map Prod.fst)) (ks : List Nat) (hn : ks.Nodup) (hh : pick h ks = hb y ++ hmr) (hs : Sub l (la y)) (hds : cc.ds = []) :
    Tr cc l h (Exit.then (fun a w => ∃ y, Has cc.n [] (la y) a ∧ St cc w (hb y ++ hmr) ∧ ∀ p ∈ hb y, cc.w0.heap.size ≤ p.1) Q .normal) := fun a w ha hw => by
  have h1 : St cc w (hb y ++ hmr) := hh ▸ hw.pick hn
  refine ⟨y, hds ▸ ha.sub hs, h1, fun p hp => ?_⟩
  rcases h1.own p (by simp [hp]) with h2 | h2
  · exact h2
  · rw [hM] at h2
    obtain ⟨q, hq, e⟩ := List.mem_map.1 h2
    exact absurd e.symm ((List.pairwise_append.1 h1.nd).2.2 p hp q hq)
end rq

/-- All are blocks of cells. -/
def allC : Hp → Bool
  | [] => true
  | p :: h => p.2.isCells && allC h
theorem allC_mem : ∀ {h : Hp}, allC h = true → ∀ p ∈ h, p.2.isCells = true
  | p :: h, e, q, hq => by
    simp only [allC, Bool.and_eq_true] at e
    rcases List.mem_cons.1 hq with rfl | hq
    · exact e.1
    · exact allC_mem e.2 q hq
theorem mem_fst {h : Hp} {b : Nat} (hb : b ∈ h.map Prod.fst) : ∃ o, (b, o) ∈ h := by
  obtain ⟨⟨b', o⟩, h1, rfl⟩ := List.mem_map.1 hb
  exact ⟨o, h1⟩
theorem St.uniq {w : World} (s : St c w h) {b : Nat} {o o' : Obj} (h1 : (b, o) ∈ h) (h2 : (b, o') ∈ h) : o = o' := Option.some.inj ((s.at_ _ h1).symm.trans (s.at_ _ h2))

set_option maxHeartbeats 1000000 in
theorem Tr.range {α Y : Type} {gf : Nat} {lb : Array Value} {encs : α → Array Value} (xs : List α) {g : Operand} {ps : Array Nat} {assign body : Code} {Q : Exit → Act → World → Prop}
    (hr0 : c.r = none) (hJ : ∀ w, c.J w) (hg : ev l g = some (.func (.func gf) #[] lb)) (he : Enters c.P gf) (hps : ∀ x, (encs x).size = ps.size) (hpn' : ps.toList.all (fun p => Nat.blt p c.n) = true)
    (hm : List α → Hp) (hr : Hp) (mb : List Nat) (hX : Code → List α → Hp) (JX : Code → List α → Prop) (Φ : List α → Prop) (hΦ0 : Φ [])
    (hmb : ∀ pre, (hm pre).map Prod.fst = mb) (hXb : ∀ e pre, (hX e pre).map Prod.fst = mb) (hmc' : ∀ pre, allC (hm pre) = true)
    (hit : ∀ w, St c w h → Iter c.P gf lb encs (fun b => b < w.heap.size ∧ b ∉ mb) xs w)
    (ks : List Nat) (hn : ks.Nodup) (hh : pick h ks = hm [] ++ hr)
    (la : α → Y → Fr) (hb : α → Y → Hp) (hbc' : ∀ x y, allC (hb x y) = true)
    (hassign : ∀ (lp : Nat) (pre : List α) (x : α) (W : World), St c W (hm pre ++ hr) →
      Tr (Cx.mk0 c.P (some lp) c.n [] (· ∈ (hm pre ++ hr).map Prod.fst) W) (puts (ps.toList.zip (encs x).toList) l) (hm pre ++ hr)
        ((Cx.mk0 c.P (some lp) c.n [] (· ∈ (hm pre ++ hr).map Prod.fst) W).W assign (Exit.then (fun a w => ∃ y, Has c.n [] (la x y) a ∧ St (Cx.mk0 c.P (some lp) c.n [] (· ∈ (hm pre ++ hr).map Prod.fst) W) w (hb x y ++ (hm pre ++ hr)) ∧ ∀ p ∈ hb x y, W.heap.size ≤ p.1) (fun _ _ _ => False))))
    (hbody : ∀ (lp : Nat) (pre : List α) (x : α) (y : Y) (W : World), St c W (hm pre ++ hr) → pre.length < xs.length → Φ pre →
      Tr (Cx.mk0 c.P (some lp) c.n [] (· ∈ (hb x y ++ (hm pre ++ hr)).map Prod.fst) W) (la x y) (hb x y ++ (hm pre ++ hr))
        ((Cx.mk0 c.P (some lp) c.n [] (· ∈ (hb x y ++ (hm pre ++ hr)).map Prod.fst) W).W body
          (RoundQ (Cx.mk0 c.P (some lp) c.n [] (· ∈ (hb x y ++ (hm pre ++ hr)).map Prod.fst) W) (Φ (pre ++ [x])) (hm (pre ++ [x]) ++ hr) (fun e => hX e (pre ++ [x]) ++ hr) (fun e => JX e (pre ++ [x])))))
    (hdone : Φ xs → ∀ D, Tr ⟨c.P, c.r, c.n, markD D :: c.ds, c.M, c.w0, c.J, c.hJ⟩ l ((D, .deferred (some [])) :: (hm xs ++ hr)) (Q .normal))
    (hstop : ∀ D e pre, pre <+: xs → JX e pre → Tr ⟨c.P, c.r, c.n, markD D :: c.ds, c.M, c.w0, c.J, c.hJ⟩ l ((D, .deferred (some [])) :: (hX e pre ++ hr)) (c.W e Q)) :
    Tr c l h (c.W (.rangeFunc g ps assign body) Q) := fun a w ha hw => by
  have hpn : ∀ p ∈ ps.toList, p < c.n := fun p hp => by simpa using List.all_eq_true.1 hpn' p hp
  clear hpn'
  have hmc : ∀ pre, ∀ p ∈ hm pre, p.2.isCells = true := fun pre => allC_mem (hmc' pre)
  have hbc : ∀ x y, ∀ p ∈ hb x y, p.2.isCells = true := fun x y => allC_mem (hbc' x y)
  clear hmc' hbc'
  obtain ⟨P, r, n, ds, M, w0, J, hJ'⟩ := c
  simp only at *
  subst hr0
  have hsz0 : w0.heap.size ≤ w.heap.size := hw.fm.size
  have hw1 : St (⟨P, none, n, ds, M, w0, J, hJ'⟩ : Cx) w (hm [] ++ hr) := hh ▸ hw.pick hn
  have trk : ∀ pre, ∀ p ∈ hm pre ++ hr, p.1 < w.heap.size := by
    intro pre p hp
    rcases List.mem_append.1 hp with hp | hp
    · have : p.1 ∈ (hm []).map Prod.fst := by rw [hmb, ← hmb pre]; exact List.mem_map_of_mem hp
      obtain ⟨o, ho⟩ := mem_fst this
      exact hw1.lt (p := (p.1, o)) (by simp [ho])
    · exact hw1.lt (by simp [hp])
  have trkX : ∀ e pre, ∀ p ∈ hX e pre ++ hr, p.1 < w.heap.size := by
    intro e pre p hp
    rcases List.mem_append.1 hp with hp | hp
    · have : p.1 ∈ (hm []).map Prod.fst := by rw [hmb, ← hXb e pre]; exact List.mem_map_of_mem hp
      obtain ⟨o, ho⟩ := mem_fst this
      exact hw1.lt (p := (p.1, o)) (by simp [ho])
    · exact hw1.lt (by simp [hp])
  -- an assertion on tracked blocks abides the turn of a block that is none of them
  have ownSt : ∀ (H : Hp) (W W' : World) (row : Option Nat), (∀ p ∈ H, p.1 < w.heap.size) → St (⟨P, none, n, ds, M, w0, J, hJ'⟩ : Cx) W H → W.grownBy W' row → (∀ q, row = some q → w.heap.size ≤ q ∧ ∃ o : Obj, W.heap[q]? = some o ∧ o.isCells = false) → St (⟨P, none, n, ds, M, w0, J, hJ'⟩ : Cx) W' H := by
    intro H W W' row hlt s gr hrow
    refine ⟨⟨gr.os.trans s.fm.os, gr.tape.trans s.fm.tape, gr.output.trans s.fm.output, Nat.le_trans s.fm.size gr.size, fun k hk hM => ?_⟩, s.nd, fun p hp => ?_, s.own, .inl hJ⟩
    · exact (gr.block k (Nat.lt_of_lt_of_le hk s.fm.size) (fun e => by have := (hrow k e.symm).1; have := hw.fm.size; omega)).trans (s.fm.block k hk hM)
    · exact (gr.block p.1 (s.lt hp) (fun e => by have := (hrow p.1 e.symm).1; have := hlt p hp; omega)).trans (s.at_ p hp)
  have hRest : ∀ (cb : Cx) (W w' : World) (H H' : Hp), cb.w0 = W → St (⟨P, none, n, ds, M, w0, J, hJ'⟩ : Cx) W H → (∀ p ∈ H, p.1 < w.heap.size) → (∀ b, cb.M b → b ∈ H.map Prod.fst ∨ w.heap.size ≤ b) → St cb w' H' → H'.map Prod.fst = H.map Prod.fst → St (⟨P, none, n, ds, M, w0, J, hJ'⟩ : Cx) w' H' := by
    intro cb W w' H H' hcW s hlt hM' s' hfst
    subst hcW
    refine ⟨⟨s'.fm.os.trans s.fm.os, s'.fm.tape.trans s.fm.tape, s'.fm.output.trans s.fm.output, Nat.le_trans s.fm.size s'.fm.size, fun k hk hMk => ?_⟩, s'.nd, s'.at_, fun p hp => ?_, .inl hJ⟩
    · refine (s'.fm.block k (Nat.lt_of_lt_of_le hk s.fm.size) (fun hm' => ?_)).trans (s.fm.block k hk hMk)
      rcases hM' k hm' with h1 | h1
      · obtain ⟨o, ho⟩ := mem_fst h1
        rcases s.own _ ho with h2 | h2
        · have h2' : w0.heap.size ≤ k := h2
          have hk' : k < w0.heap.size := hk
          omega
        · exact hMk h2
      · have hk' : k < w0.heap.size := hk
        omega
    · have : p.1 ∈ H.map Prod.fst := by rw [← hfst]; exact List.mem_map_of_mem hp
      obtain ⟨o, ho⟩ := mem_fst this
      have := s.own (p.1, o) ho
      exact this
  have fstm : ∀ pre pre', (hm pre ++ hr).map Prod.fst = (hm pre' ++ hr).map Prod.fst := fun pre pre' => by rw [List.map_append, List.map_append, hmb, hmb]
  have fstX : ∀ e pre pre', (hX e pre ++ hr).map Prod.fst = (hm pre' ++ hr).map Prod.fst := fun e pre pre' => by rw [List.map_append, List.map_append, hmb, hXb]
  refine wpIn_rangeFunc_ownH (F := Fc none) (n := 99) (w0 := w) rfl (by decide) (ha.ev hg) trivial he (Kp := KeepK fun b => b < w.heap.size ∧ b ∉ mb) (S := fun ys => ys = xs) (Sp := fun pre => pre <+: xs) (N := xs.length) (hit w hw)
    (fun h1 h2 => h1.trans h2) (fun W lp o o' hl _ _ _ => ⟨rfl, rfl, rfl, by simp [World.putObj], fun b hb => World.putObj_heap_other (fun e => by have := hb.1; omega)⟩) (Below.refl _ _) hps
    (fun pre W => (Φ pre ∧ St (⟨P, none, n, ds, M, w0, J, hJ'⟩ : Cx) W (hm pre ++ hr)) ∧ w.heap.size ≤ W.heap.size) (fun e pre W => JX e pre ∧ St (⟨P, none, n, ds, M, w0, J, hJ'⟩ : Cx) W (hX e pre ++ hr) ∧ w.heap.size ≤ W.heap.size)
    (fun pre W W' row s gr hrow => ⟨⟨s.1.1, ownSt _ W W' row (trk pre) s.1.2 gr hrow⟩, Nat.le_trans s.2 gr.size⟩)
    (fun e pre W W' row s gr hrow => ⟨s.1, ownSt _ W W' row (trkX e pre) s.2.1 gr hrow, Nat.le_trans s.2.2 gr.size⟩)
    ⟨⟨hΦ0, hw1⟩, Nat.le_refl _⟩
    (fun x a' W => ∃ y, Has n [] (la x y) a' ∧ (∀ p ∈ hb x y, W.heap[p.1]? = some p.2 ∧ w.heap.size ≤ p.1) ∧ (hb x y).Pairwise (fun p q => p.1 ≠ q.1))
    ?hAx ?assign ?body ?done ?stop
  case hAx =>
    rintro x a' - W W' row ⟨y, h1, h2, h3⟩ gr hrow
    refine ⟨y, h1, fun p hp => ⟨?_, (h2 p hp).2⟩, h3⟩
    have hlt : p.1 < W.heap.size := (Array.getElem?_eq_some_iff.1 (h2 p hp).1).1
    refine (gr.block p.1 hlt (fun e => ?_)).trans (h2 p hp).1
    obtain ⟨_, o, ho, hc⟩ := hrow p.1 e.symm
    rw [(h2 p hp).1] at ho
    have := hbc x y p hp
    rw [Option.some.inj ho] at this
    rw [hc] at this; cases this
  case assign =>
    rintro lp pre x W K' ⟨⟨hPh, hI⟩, hsz⟩ hK
    have ha0 : Has n [] (puts (ps.toList.zip (encs x).toList) l) { tmps := (ps.zip (encs x)).foldl (fun t (p, v) => t.setIfInBounds p v) a.tmps, defers := [] } := by
      have h00 : Has n [] l { tmps := a.tmps, defers := [] } := ⟨ha.size, rfl, ha.all⟩
      have := Has.puts (ps.toList.zip (encs x).toList) h00 (fun p hp => hpn p.1 (List.of_mem_zip hp).1)
      rw [show ((ps.zip (encs x)).foldl (fun t (p, v) => t.setIfInBounds p v) a.tmps) = (ps.toList.zip (encs x).toList).foldl (fun t q => t.setIfInBounds q.1 q.2) a.tmps from foldl_zip ps (encs x) a.tmps]
      exact this
    have hst : St (Cx.mk0 P (some lp) n [] (· ∈ (hm pre ++ hr).map Prod.fst) W) W (hm pre ++ hr) := ⟨Fm.refl _ _, hI.nd, hI.at_, fun p hp => .inr (List.mem_map_of_mem hp), .inl fun _ => trivial⟩
    refine wpIn_n (wpIn_mono (hassign lp pre x W hI _ W ha0 hst) ?_)
    intro e a2 w2 hq
    cases e with
    | normal =>
      obtain ⟨y, h1, h2, h3⟩ := hq
      have sub : St (Cx.mk0 P (some lp) n [] (· ∈ (hm pre ++ hr).map Prod.fst) W) w2 (hm pre ++ hr) := ⟨h2.fm, (List.pairwise_append.1 h2.nd).2.1, fun p hp => h2.at_ p (by simp only [List.mem_append]; exact .inr (List.mem_append.1 hp)), fun p hp => .inr (List.mem_map_of_mem hp), .inl fun _ => trivial⟩
      have same : ∀ k, k < W.heap.size → w2.heap[k]? = W.heap[k]? := by
        intro k hk
        by_cases hk2 : k ∈ (hm pre ++ hr).map Prod.fst
        · obtain ⟨o, ho⟩ := mem_fst hk2
          exact (sub.at_ _ ho).trans (hI.at_ _ ho).symm
        · exact h2.fm.block k hk hk2
      refine hK a2 w2 ⟨h2.fm.size, fun k o hB hk _ => (same k (Array.getElem?_eq_some_iff.1 hk).1).trans hk⟩ ⟨h2.fm.os, h2.fm.tape, h2.fm.output, h2.fm.size, fun b hb => same b (Nat.lt_of_lt_of_le hb.1 hsz)⟩ ⟨⟨hPh, hRest _ W w2 _ _ rfl hI (trk pre) (fun b hb => .inl hb) sub rfl⟩, Nat.le_trans hsz h2.fm.size⟩
        ⟨y, h1, fun p hp => ⟨h2.at_ p (by simp [hp]), Nat.le_trans hsz (h3 p hp)⟩, (List.pairwise_append.1 h2.nd).1⟩
    | ret => exact hq.elim
    | exit i => exact hq.elim
    | goto i => exact hq.elim
    | panic i => exact hq.elim
    | outgrown => exact hq.elim
  case body =>
    rintro lp pre x a' W hlp hrec ⟨⟨hPh, hI⟩, hsz⟩ ⟨y, h1, h2, h3⟩ hlen
    have hst : St (Cx.mk0 P (some lp) n [] (· ∈ (hb x y ++ (hm pre ++ hr)).map Prod.fst) W) W (hb x y ++ (hm pre ++ hr)) := by
      refine ⟨Fm.refl _ _, ?_, fun p hp => ?_, fun p hp => .inr (List.mem_map_of_mem hp), .inl fun _ => trivial⟩
      · rw [List.pairwise_append]
        exact ⟨h3, hI.nd, fun p hp q hq e => by have := (h2 p hp).2; have := trk pre q hq; omega⟩
      · rcases List.mem_append.1 hp with hp | hp
        · exact (h2 p hp).1
        · exact hI.at_ p hp
    refine wpIn_n (wpIn_mono (hbody lp pre x y W hI hlen hPh _ W h1 hst) ?_)
    have fin : ∀ (w2 : World) (H' : Hp), H'.map Prod.fst = mb → St (Cx.mk0 P (some lp) n [] (· ∈ (hb x y ++ (hm pre ++ hr)).map Prod.fst) W) w2 (H' ++ hr) →
        KeepsFrom w.heap.size W w2 ∧ KeepK (fun b => b < w.heap.size ∧ b ∉ mb) W w2 ∧ St (⟨P, none, n, ds, M, w0, J, hJ'⟩ : Cx) w2 (H' ++ hr) ∧ w.heap.size ≤ w2.heap.size := by
      intro w2 H' hfst s2
      refine ⟨⟨s2.fm.size, fun k o hB hk hc => ?_⟩, ⟨s2.fm.os, s2.fm.tape, s2.fm.output, s2.fm.size, fun b hb' => ?_⟩, ?_, Nat.le_trans hsz s2.fm.size⟩
      · refine (s2.fm.block k (Array.getElem?_eq_some_iff.1 hk).1 (fun hm' => ?_)).trans hk
        obtain ⟨o', ho'⟩ := mem_fst hm'
        have heq := hst.at_ _ ho'
        simp only at heq
        rw [hk] at heq
        obtain rfl := Option.some.inj heq
        rcases List.mem_append.1 ho' with ho' | ho'
        · have := hbc x y _ ho'; simp only at this; rw [hc] at this; cases this
        · have := trk pre _ ho'; simp only at this; omega
      · by_cases hk2 : b ∈ (hb x y ++ (hm pre ++ hr)).map Prod.fst
        · obtain ⟨o, ho⟩ := mem_fst hk2
          rcases List.mem_append.1 ho with ho | ho
          · have := (h2 _ ho).2; simp only at this; have := hb'.1; omega
          · rcases List.mem_append.1 ho with ho | ho
            · exact absurd (by rw [← hmb pre]; exact List.mem_map_of_mem ho) hb'.2
            · exact (s2.at_ (b, o) (by simp [ho])).trans (hI.at_ (b, o) (by simp [ho])).symm
        · exact s2.fm.block b (Nat.lt_of_lt_of_le hb'.1 hsz) hk2
      · refine hRest _ W w2 _ _ rfl hI (trk pre) (fun b hb' => ?_) s2 (by rw [List.map_append, List.map_append, hfst, hmb])
        rw [List.map_append] at hb'
        rcases List.mem_append.1 hb' with hb' | hb'
        · obtain ⟨o, ho⟩ := mem_fst hb'
          exact .inr (h2 _ ho).2
        · exact .inl hb'
    intro e a2 w2 hq
    cases e with
    | normal =>
      obtain ⟨k1, k2, k3, k4⟩ := fin w2 _ (hmb _) hq.2
      exact ⟨k1, k2, ⟨hq.1, k3⟩, k4⟩
    | ret =>
      obtain ⟨k1, k2, k3, k4⟩ := fin w2 _ (hXb _ _) hq.2
      exact ⟨k1, hq.1, k3, k4⟩
    | exit i =>
      obtain ⟨k1, k2, k3, k4⟩ := fin w2 _ (hXb _ _) hq.2
      exact ⟨k1, hq.1, k3, k4⟩
    | goto i => exact hq.elim
    | panic i => exact hq.elim
    | outgrown => exact hq.elim
  case done =>
    rintro D ys W hD rfl ⟨⟨hPh, hI⟩, hsz⟩ hDW
    refine hdone hPh D _ W ⟨ha.size, by simp [markD, ha.defers], ha.all⟩ ⟨hI.fm, ?_, ?_, ?_, .inl hJ⟩
    · exact .cons (fun q hq e => by have := trk _ q hq; simp only at e; omega) hI.nd
    · intro p hp
      rcases List.mem_cons.1 hp with rfl | hp
      · exact hDW
      · exact hI.at_ p hp
    · intro p hp
      rcases List.mem_cons.1 hp with rfl | hp
      · exact .inl (show w0.heap.size ≤ D by omega)
      · exact hI.own p hp
  case stop =>
    rintro D e pre W hD hpre ⟨hJx, hI, hsz⟩ hDW
    refine hstop D e pre hpre hJx _ W ⟨ha.size, by simp [markD, ha.defers], ha.all⟩ ⟨hI.fm, ?_, ?_, ?_, .inl hJ⟩
    · exact .cons (fun q hq e' => by have := trkX _ _ q hq; simp only at e'; omega) hI.nd
    · intro p hp
      rcases List.mem_cons.1 hp with rfl | hp
      · exact hDW
      · exact hI.at_ p hp
    · intro p hp
      rcases List.mem_cons.1 hp with rfl | hp
      · exact .inl (show w0.heap.size ≤ D by omega)
      · exact hI.own p hp
end Go.Ka

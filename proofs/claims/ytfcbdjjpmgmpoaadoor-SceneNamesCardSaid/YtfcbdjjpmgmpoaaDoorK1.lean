/- A calculus of triples over the model: what a frame's slots hold ('Has'), what blocks hold and what has not turned ('St'), and rules for code and for regions, whatever order they draw. -/
import Derived.CallsIn
import Derived.RangeFuncLeaves
import Derived.RangeFuncNested
import Derived.Below
import Derived.Scope
import Derived.Orders
import Derived.Shelf.Abstract
import Derived.WalkKit
namespace Go.Ka
open Go.RowKit

/-- The fence that lets all by, in a round or not. -/
def Fc (r : Option Nat) : Fence := { Fence.wide with round := r }
theorem room_Fc (r : Option Nat) (n : Nat) : (Fc r).room n := fun _ h => by simp [Fc, Fence.wide] at h
theorem callsIn_Fc {r : Option Nat} {n : Nat} {P : Program} {f : FuncId} {args : Array Value} {w : World} {R : Ending → World → Prop} (h : Calls P f args w R) : CallsIn (Fc r) n P f args w R :=
  let h' := (callsIn_wide (n := n)).2 h
  ⟨trivial, fun cs _ => let ⟨e, w', fr, a, b, c, d⟩ := h'.2 cs (room_wide _); ⟨e, w', fr, a, b, c, d⟩⟩
theorem calls_of_Fc {n : Nat} {P : Program} {f : FuncId} {args : Array Value} {w : World} {R : Ending → World → Prop} (h : CallsIn (Fc none) n P f args w R) : Calls P f args w R :=
  (callsIn_wide (n := n)).1 h
theorem roundIn_Fc {r r' : Option Nat} {n m : Nat} {P : Program} {l : Nat} {f : FuncId} {tmps : Array Value} {asg body : Code} {w : World} {R : Ending → World → Prop}
    (h : RoundIn (Fc r) n P l f tmps asg body w R) : RoundIn (Fc r') m P l f tmps asg body w R :=
  ⟨trivial, fun c cs _ => let ⟨e, w', a, b⟩ := h.2 c cs (room_Fc _ _); ⟨e, w', a, b⟩⟩

/-! ### Slots -/
abbrev Fr := List (Nat × Value)
def look : Fr → Nat → Option Value
  | [], _ => none
  | p :: l, i => cond (Nat.beq p.1 i) (some p.2) (look l i)
theorem look_cons_same (d : Nat) (v : Value) (l : Fr) : look ((d, v) :: l) d = some v := by simp [look]
theorem look_cons_other {d i : Nat} (v : Value) (l : Fr) (h : d ≠ i) : look ((d, v) :: l) i = look l i := by
  have : Nat.beq d i = false := by
    cases e : Nat.beq d i with
    | false => rfl
    | true => exact absurd (Nat.eq_of_beq_eq_true e) h
  simp [look, this]

structure Has (n : Nat) (ds : List Deferred) (l : Fr) (a : Act) : Prop where
  size : a.tmps.size = n
  defers : a.defers = ds
  all : ∀ i v, look l i = some v → a.tmps.getD i undef = v

theorem Has.put {n : Nat} {ds : List Deferred} {l : Fr} {a : Act} (h : Has n ds l a) {d : Nat} (hd : d < n) (v : Value) : Has n ds ((d, v) :: l) (a.put (some d) v) := by
  refine ⟨by simp [Act.put, h.size], by simp [Act.put, h.defers], fun i u hi => ?_⟩
  by_cases e : d = i
  · subst e
    rw [look_cons_same] at hi
    have hs := h.size
    simp only [Option.some.injEq] at hi
    subst hi
    simp [Act.put, hs, hd]
  · rw [look_cons_other _ _ e] at hi
    have := h.all i u hi
    simp only [Act.put, Array.getD_eq_getD_getElem?] at this ⊢
    rw [Array.getElem?_setIfInBounds_ne e]
    exact this
theorem Has.put_none {n : Nat} {ds : List Deferred} {l : Fr} {a : Act} (h : Has n ds l a) (v : Value) : Has n ds l (a.put none v) := h

/-- Every entry of l' can be looked up in l. -/
def Sub (l : Fr) : Fr → Prop
  | [] => True
  | p :: l' => look l p.1 = some p.2 ∧ Sub l l'
theorem Sub.look {l : Fr} : ∀ {l' : Fr}, Sub l l' → ∀ i v, look l' i = some v → look l i = some v
  | [], _, i, v, h => by simp [Ka.look] at h
  | p :: l', hs, i, v, h => by
    by_cases e : p.1 = i
    · obtain ⟨d, u⟩ := p
      simp only at e; subst e
      rw [look_cons_same] at h
      exact hs.1.trans h
    · obtain ⟨d, u⟩ := p
      rw [look_cons_other _ _ e] at h
      exact Sub.look hs.2 i v h
theorem lk {l : Fr} {i : Nat} {v v' : Value} (h : look l i = some v) (e : v = v') : look l i = some v' := e ▸ h
theorem Has.sub {n : Nat} {ds : List Deferred} {l l' : Fr} {a : Act} (h : Has n ds l a) (hs : Sub l l') : Has n ds l' a := ⟨h.size, h.defers, fun i v hi => h.all i v (hs.look i v hi)⟩

def ev (l : Fr) : Operand → Option Value
  | .tmp t => look l t
  | .const v => some v
  | .global g => some (.pointer (some ⟨g, 0, none⟩))
  | .func f => some (.func (.func f) #[] #[])
theorem Has.ev {n : Nat} {ds : List Deferred} {l : Fr} {a : Act} (h : Has n ds l a) : ∀ {x : Operand} {v : Value}, Ka.ev l x = some v → a.eval x = v
  | .tmp t, v, e => h.all t v e
  | .const u, v, e => by simp [Ka.ev] at e; subst e; rfl
  | .global g, v, e => by simpa [Ka.ev, Act.eval] using e
  | .func f, v, e => by simpa [Ka.ev, Act.eval] using e
def evs (l : Fr) : List Operand → Option (List Value)
  | [] => some []
  | x :: xs => match ev l x, evs l xs with
    | some v, some vs => some (v :: vs)
    | _, _ => none
theorem Has.evs {n : Nat} {ds : List Deferred} {l : Fr} {a : Act} (h : Has n ds l a) : ∀ {xs : List Operand} {vs : List Value}, Ka.evs l xs = some vs → xs.map a.eval = vs
  | [], vs, e => by simp [Ka.evs] at e; simp [e]
  | x :: xs, vs, e => by
    simp only [Ka.evs] at e
    split at e
    · rename_i v us h1 h2
      simp only [Option.some.injEq] at e
      subst e
      simp [h.ev h1, h.evs h2]
    · simp at e

/-! ### Blocks -/
abbrev Hp := List (Nat × Obj)
structure Fm (M : Nat → Prop) (w0 w : World) : Prop where
  os : w.os = w0.os
  tape : w.tape = w0.tape
  output : w.output = w0.output
  size : w0.heap.size ≤ w.heap.size
  block : ∀ k, k < w0.heap.size → ¬ M k → w.heap[k]? = w0.heap[k]?
/-- No block that lay turns. -/
abbrev No : Nat → Prop := fun _ => False
theorem Fm.refl (M : Nat → Prop) (w : World) : Fm M w w := ⟨rfl, rfl, rfl, Nat.le_refl _, fun _ _ _ => rfl⟩
theorem Fm.trans {M : Nat → Prop} {a b c : World} (h : Fm M a b) (k : Fm No b c) : Fm M a c :=
  ⟨k.os.trans h.os, k.tape.trans h.tape, k.output.trans h.output, Nat.le_trans h.size k.size, fun i hi hm => (k.block i (Nat.lt_of_lt_of_le hi h.size) id).trans (h.block i hi hm)⟩
theorem Fm.mono {M M' : Nat → Prop} {a b : World} (h : Fm M a b) (hM : ∀ k, M k → M' k) : Fm M' a b := ⟨h.os, h.tape, h.output, h.size, fun i hi hm => h.block i hi (fun m => hm (hM i m))⟩
theorem Fm.below {w0 w : World} (h : Fm No w0 w) : Below w0.heap.size w0 w := ⟨h.os, h.tape, h.output, h.size, fun k hk => h.block k hk id⟩
theorem Fm.of_below {w0 w : World} (h : Below w0.heap.size w0 w) : Fm No w0 w := ⟨h.os, h.tape, h.output, h.size, fun k hk _ => h.block k hk⟩

/-- What a walk is within: the program, the loop whose round it is, slots, deferred calls, blocks that may turn, the world at the start, and a word on the world that abides new blocks. -/
structure Cx where
  P : Program
  r : Option Nat
  n : Nat
  ds : List Deferred
  M : Nat → Prop
  w0 : World
  J : World → Prop
  hJ : ∀ w w', J w → Fm No w w' → J w'
abbrev Cx.mk0 (P : Program) (r : Option Nat) (n : Nat) (ds : List Deferred) (M : Nat → Prop) (w0 : World) : Cx := ⟨P, r, n, ds, M, w0, fun _ => True, fun _ _ _ _ => trivial⟩
structure St (c : Cx) (w : World) (h : Hp) : Prop where
  fm : Fm c.M c.w0 w
  nd : h.Pairwise (fun p q => p.1 ≠ q.1)
  at_ : ∀ p ∈ h, w.heap[p.1]? = some p.2
  own : ∀ p ∈ h, c.w0.heap.size ≤ p.1 ∨ c.M p.1
  j : (∀ v, c.J v) ∨ ∃ wj, c.J wj ∧ Fm No wj w ∧ ∀ p ∈ h, wj.heap.size ≤ p.1

theorem St.jw {c : Cx} {w : World} {h : Hp} (s : St c w h) : c.J w := s.j.elim (fun h => h w) (fun ⟨wj, h1, h2, _⟩ => c.hJ wj w h1 h2)
theorem St.lt {c : Cx} {w : World} {h : Hp} (s : St c w h) {p : Nat × Obj} (hp : p ∈ h) : p.1 < w.heap.size := (Array.getElem?_eq_some_iff.1 (s.at_ p hp)).1
theorem St.nil {c : Cx} (hj : c.J c.w0) : St c c.w0 [] := ⟨Fm.refl _ _, .nil, by simp, by simp, .inr ⟨_, hj, Fm.refl _ _, by simp⟩⟩
theorem Fm.alloc (w : World) (o : Obj) : Fm No w (w.alloc o) := ⟨rfl, rfl, rfl, by simp, fun k hk _ => Below.heap_alloc w o k hk⟩
theorem St.alloc {c : Cx} {w : World} {h : Hp} (s : St c w h) (o : Obj) : St c (w.alloc o) ((w.heap.size, o) :: h) := by
  refine ⟨⟨s.fm.os, s.fm.tape, s.fm.output, Nat.le_trans s.fm.size (by simp), fun k hk hm => (Below.heap_alloc w o k (Nat.lt_of_lt_of_le hk s.fm.size)).trans (s.fm.block k hk hm)⟩, ?_, ?_, ?_, s.j.imp id fun ⟨wj, h1, h2, h3⟩ => ⟨wj, h1, h2.trans (Fm.alloc w o), fun p hp => ?_⟩⟩
  · exact .cons (fun q hq e => by have := s.lt hq; simp only at e; omega) s.nd
  · intro p hp
    rcases List.mem_cons.1 hp with rfl | hp
    · exact World.alloc_heap_new w o
    · exact (Below.heap_alloc w o _ (s.lt hp)).trans (s.at_ p hp)
  · intro p hp
    rcases List.mem_cons.1 hp with rfl | hp
    · exact .inl s.fm.size
    · exact s.own p hp
  · rcases List.mem_cons.1 hp with rfl | hp
    · exact h2.size
    · exact h3 p hp
theorem St.call {c : Cx} {w w' : World} {h : Hp} (s : St c w h) (f : Fm No w w') : St c w' h :=
  ⟨s.fm.trans f, s.nd, fun p hp => (f.block p.1 (s.lt hp) id).trans (s.at_ p hp), s.own, s.j.imp id fun ⟨wj, h1, h2, h3⟩ => ⟨wj, h1, h2.trans f, h3⟩⟩
/-- New blocks that a callee hands back. -/
structure New (w w' : World) (h : Hp) : Prop where
  nd : h.Pairwise (fun p q => p.1 ≠ q.1)
  at_ : ∀ p ∈ h, w'.heap[p.1]? = some p.2
  own : ∀ p ∈ h, w.heap.size ≤ p.1
theorem New.nil (w w' : World) : New w w' [] := ⟨.nil, by simp, by simp⟩
theorem St.callNew {c : Cx} {w w' : World} {h h' : Hp} (s : St c w h) (f : Fm No w w') (n : New w w' h') : St c w' (h' ++ h) := by
  have s' := s.call f
  refine ⟨s'.fm, ?_, ?_, ?_, s.j.imp id fun ⟨wj, h1, h2, h3⟩ => ⟨wj, h1, h2.trans f, fun p hp => ?_⟩⟩
  · rw [List.pairwise_append]
    exact ⟨n.nd, s.nd, fun p hp q hq e => by have := n.own p hp; have := s.lt hq; omega⟩
  · intro p hp
    rcases List.mem_append.1 hp with hp | hp
    · exact n.at_ p hp
    · exact s'.at_ p hp
  · intro p hp
    rcases List.mem_append.1 hp with hp | hp
    · exact .inl (Nat.le_trans s.fm.size (n.own p hp))
    · exact s.own p hp
  · rcases List.mem_append.1 hp with hp | hp
    · exact Nat.le_trans h2.size (n.own p hp)
    · exact h3 p hp
/-- A block is laid anew. -/
theorem St.turn {c : Cx} {w w' : World} {h : Hp} (s : St c w h) {k b : Nat} {o o' : Obj} (hk : h[k]? = some (b, o))
    (h1 : w'.os = w.os) (h2 : w'.tape = w.tape) (h3 : w'.output = w.output) (h4 : w'.heap.size = w.heap.size) (h5 : ∀ i, i ≠ b → w'.heap[i]? = w.heap[i]?) (h6 : w'.heap[b]? = some o') :
    St c w' (h.set k (b, o')) := by
  have hm : (b, o) ∈ h := List.mem_of_getElem? hk
  have hkl : k < h.length := (List.getElem?_eq_some_iff.1 hk).1
  have hkg : h[k] = (b, o) := (List.getElem?_eq_some_iff.1 hk).2
  have key : ∀ p ∈ h.set k (b, o'), p = (b, o') ∨ (p ∈ h ∧ p.1 ≠ b) := by
    intro p hp
    obtain ⟨i, hi, e⟩ := List.mem_iff_getElem.1 hp
    by_cases hik : k = i
    · subst hik; left; rw [← e]; simp
    · rw [List.getElem_set_ne hik] at e
      simp only [List.length_set] at hi
      refine .inr ⟨e ▸ List.getElem_mem hi, ?_⟩
      have hpw := List.pairwise_iff_getElem.1 s.nd
      rcases Nat.lt_or_gt_of_ne hik with hlt | hlt
      · have := hpw k i hkl hi hlt
        rw [hkg, e] at this; exact fun x => this x.symm
      · have := hpw i k hi hkl hlt
        rw [hkg, e] at this; exact this
  refine ⟨⟨h1.trans s.fm.os, h2.trans s.fm.tape, h3.trans s.fm.output, h4 ▸ s.fm.size, fun i hi hM => ?_⟩, ?_, ?_, ?_, s.j.imp id fun ⟨wj, g1, g2, g3⟩ => ⟨wj, g1, ⟨h1.trans g2.os, h2.trans g2.tape, h3.trans g2.output, h4 ▸ g2.size, fun i hi hf => ?_⟩, fun p hp => ?_⟩⟩
  · have : i ≠ b := by
      rintro rfl
      rcases s.own _ hm with h | h
      · simp only at h; omega
      · exact hM h
    exact (h5 i this).trans (s.fm.block i hi hM)
  · rw [List.pairwise_iff_getElem]
    intro i j hi hj hij
    simp only [List.length_set] at hi hj
    have hpw := List.pairwise_iff_getElem.1 s.nd i j hi hj hij
    rw [List.getElem_set, List.getElem_set]
    split <;> split <;> simp_all
  · intro p hp
    rcases key p hp with rfl | ⟨hp, hne⟩
    · exact h6
    · exact (h5 _ hne).trans (s.at_ p hp)
  · intro p hp
    rcases key p hp with rfl | ⟨hp, _⟩
    · exact (s.own _ hm : c.w0.heap.size ≤ b ∨ c.M b)
    · exact s.own p hp
  · have hbj : wj.heap.size ≤ b := g3 _ hm
    exact (h5 i (by omega)).trans (g2.block i hi hf)
  · rcases key p hp with rfl | ⟨hp, _⟩
    · exact g3 (b, o) hm
    · exact g3 p hp
/-- Fewer blocks, or in another order: by their places. -/
def pick (h : Hp) : List Nat → Hp
  | [] => []
  | k :: ks => match h[k]? with
    | some p => p :: pick h ks
    | none => pick h ks
theorem pick_mem {h : Hp} : ∀ {ks : List Nat} {p : Nat × Obj}, p ∈ pick h ks → ∃ k ∈ ks, h[k]? = some p
  | [], p, hp => by simp [pick] at hp
  | k :: ks, p, hp => by
    simp only [pick] at hp
    split at hp
    · rename_i q hq
      rcases List.mem_cons.1 hp with rfl | hp
      · exact ⟨k, by simp, hq⟩
      · obtain ⟨j, hj, e⟩ := pick_mem hp; exact ⟨j, by simp [hj], e⟩
    · obtain ⟨j, hj, e⟩ := pick_mem hp; exact ⟨j, by simp [hj], e⟩
theorem pick_nd {h : Hp} (nd : h.Pairwise (fun p q => p.1 ≠ q.1)) : ∀ {ks : List Nat}, ks.Nodup → (pick h ks).Pairwise (fun p q => p.1 ≠ q.1)
  | [], _ => .nil
  | k :: ks, hn => by
    have ih := pick_nd nd (List.nodup_cons.1 hn).2
    simp only [pick]
    split
    · rename_i q hq
      refine .cons (fun p hp e => ?_) ih
      obtain ⟨j, hj, hpj⟩ := pick_mem hp
      have hkj : k ≠ j := fun e => (List.nodup_cons.1 hn).1 (e ▸ hj)
      have hpw := List.pairwise_iff_getElem.1 nd
      obtain ⟨hk1, hk2⟩ := List.getElem?_eq_some_iff.1 hq
      obtain ⟨hj1, hj2⟩ := List.getElem?_eq_some_iff.1 hpj
      rcases Nat.lt_or_gt_of_ne hkj with hlt | hlt
      · exact hpw k j hk1 hj1 hlt (by rw [hk2, hj2]; exact e)
      · exact hpw j k hj1 hk1 hlt (by rw [hk2, hj2]; exact e.symm)
    · exact ih
theorem St.pick {c : Cx} {w : World} {h : Hp} (s : St c w h) {ks : List Nat} (hn : ks.Nodup) : St c w (pick h ks) :=
  ⟨s.fm, pick_nd s.nd hn, fun p hp => let ⟨_, _, e⟩ := pick_mem hp; s.at_ p (List.mem_of_getElem? e), fun p hp => let ⟨_, _, e⟩ := pick_mem hp; s.own p (List.mem_of_getElem? e), s.j.imp id fun ⟨wj, h1, h2, h3⟩ => ⟨wj, h1, h2, fun p hp => let ⟨_, _, e⟩ := pick_mem hp; h3 p (List.mem_of_getElem? e)⟩⟩
theorem St.get {c : Cx} {w : World} {h : Hp} (s : St c w h) {k b : Nat} {o : Obj} (hk : h[k]? = some (b, o)) : w.heap[b]? = some o := s.at_ _ (List.mem_of_getElem? hk)
theorem St.drew {c : Cx} {w : World} {h : Hp} (s : St c w h) (n : Nat) : St c { w with drawn := n } h := ⟨⟨s.fm.os, s.fm.tape, s.fm.output, s.fm.size, s.fm.block⟩, s.nd, s.at_, s.own, s.j.imp id fun ⟨wj, h1, h2, h3⟩ => ⟨wj, h1, ⟨h2.os, h2.tape, h2.output, h2.size, h2.block⟩, h3⟩⟩

/-! ### Triples -/
def Tr (c : Cx) (l : Fr) (h : Hp) (K : Act → World → Prop) : Prop := ∀ a w, Has c.n c.ds l a → St c w h → K a w
variable {c : Cx} {l l' : Fr} {h h' : Hp} {K K' : Act → World → Prop}
theorem Tr.cons (t : Tr c l h K) (hk : ∀ a w, K a w → K' a w) : Tr c l h K' := fun a w ha hw => hk a w (t a w ha hw)
theorem Tr.sub (t : Tr c l' h' K) (ks : List Nat) (hn : ks.Nodup) (hh : pick h ks = h') (hs : Sub l l') : Tr c l h K := fun a w ha hw => t a w (ha.sub hs) (hh ▸ hw.pick hn)

abbrev Cx.W (c : Cx) (x : Code) (Q : Exit → Act → World → Prop) (a : Act) (w : World) : Prop := x.wpIn (Fc c.r) 99 c.P Q a w

def OpK (P : Program) (r : Option Nat) (o : Oper) (K : Act → World → Prop) (a : Act) (w : World) : Prop :=
  match (o.semAt r a.eval).run P w with
  | .ok (.value v) w' => K (a.put o.dst v) w'
  | .ok .skip w' => K (a.put o.dst undef) w'
  | .ok (.enter f args) w' => Calls P f args w' fun e w'' => ∃ v, e = .returned v ∧ K (a.put o.dst v) w''
  | .ok (.round l f tmps asg body) w' => RoundIn (Fc none) 9 P l f tmps asg body w' fun e w'' => ∃ v, e = .returned v ∧ K (a.put o.dst v) w''
  | _ => False
theorem OpK.wpIn {o : Oper} {a : Act} {w : World} {Q : Exit → Act → World → Prop} {n : Nat} (hh : OpK c.P c.r o K a w) : o.wpIn (Fc c.r) n c.P a w K Q := by
  refine ⟨fun _ _ => trivial, ?_⟩
  show o.uponIn (Fc c.r) n c.P a K Q ((o.semAt c.r a.eval).run c.P w)
  unfold OpK at hh
  generalize (o.semAt c.r a.eval).run c.P w = x at hh ⊢
  split at hh
  · exact hh
  · exact hh
  · exact ⟨fun hd => by simp [Fc, Fence.wide] at hd, (callsIn_Fc hh).mono fun e w' ⟨v, he, hk⟩ => by subst he; exact hk⟩
  · exact ⟨fun hd => by simp [Fc, Fence.wide] at hd, (roundIn_Fc hh).mono fun e w' ⟨v, he, hk⟩ => by subst he; exact hk⟩
  · exact hh.elim
theorem OpK.mono {o : Oper} {a : Act} {w : World} (hh : OpK c.P c.r o K a w) (hk : ∀ a w, K a w → K' a w) : OpK c.P c.r o K' a w := by
  unfold OpK at hh ⊢
  generalize (o.semAt c.r a.eval).run c.P w = x at hh ⊢
  split at hh
  · exact hk _ _ hh
  · exact hk _ _ hh
  · exact Calls.mono hh fun e w' ⟨v, he, h⟩ => ⟨v, he, hk _ _ h⟩
  · exact RoundIn.mono hh fun e w' ⟨v, he, h⟩ => ⟨v, he, hk _ _ h⟩
  · exact hh.elim

def OneK (P : Program) (r : Option Nat) (ops : Array Oper) (o : Oper) (K : Act → World → Prop) (a : Act) (w : World) : Prop :=
  if Region.wanted o (yielded ops a.tmps) then OpK P r o K a w else K (a.put o.dst undef) w
def ListK (P : Program) (r : Option Nat) (ops : Array Oper) (K : Act → World → Prop) : List Oper → Act → World → Prop
  | [], a, w => K a w
  | o :: rest, a, w => OneK P r ops o (ListK P r ops K rest) a w
theorem OneK.opsIn {ops : Array Oper} {i : Nat} {o : Oper} (ho : ops[i]? = some o) {rest : List Nat} {n : Nat} {Q : Exit → Act → World → Prop} {a : Act} {w : World}
    (h1 : OneK c.P c.r ops o K a w) (hk : ∀ a w, K a w → wpOpsIn (Fc c.r) n c.P ops Q rest a w) : wpOpsIn (Fc c.r) n c.P ops Q (i :: rest) a w := by
  simp only [wpOpsIn, ho]
  unfold OneK at h1
  split
  · rename_i hw; rw [if_pos hw] at h1; exact (OpK.mono h1 hk).wpIn
  · rename_i hw; rw [if_neg hw] at h1; exact ⟨fun _ _ => trivial, hk _ _ h1⟩
theorem ListK.opsIn {ops : Array Oper} {n : Nat} {Q : Exit → Act → World → Prop} : ∀ (lo : List Oper) (k : Nat), (∀ j, lo[j]? = ops[k + j]?) → ∀ a w, ListK c.P c.r ops (Q .normal) lo a w → wpOpsIn (Fc c.r) n c.P ops Q (List.range' k lo.length) a w
  | [], _, _, a, w, h => h
  | o :: rest, k, hj, a, w, h => by
    rw [List.length_cons, List.range'_succ]
    have h0 : ops[k]? = some o := by have := hj 0; simpa using this.symm
    refine OneK.opsIn h0 h fun a w h' => ListK.opsIn rest (k + 1) (fun j => ?_) a w h'
    have := hj (j + 1)
    rw [List.getElem?_cons_succ] at this
    rw [this]; congr 1; omega
theorem Tr.region {id : Nat} {lo : List Oper} {Q : Exit → Act → World → Prop} (t : Tr c l h (ListK c.P c.r lo.toArray (Q .normal) lo)) : Tr c l h (c.W (.region id lo.toArray false) Q) :=
  fun a w ha hw => wpIn_region (by
    have := ListK.opsIn (c := c) (n := 99) (Q := Q) lo 0 (fun j => by simp) a w (t a w ha hw)
    rwa [List.range_eq_range', List.size_toArray])

/-! ### A region that draws its order -/
def AnyK (P : Program) (r : Option Nat) (ops : Array Oper) (K : Act → World → Prop) : Nat → Array Bool → Act → World → Prop
  | 0, listed, a, w => Region.ready .any ops listed = [] ∧ K a w
  | fuel + 1, listed, a, w =>
    (Region.ready .any ops listed = [] → K a w) ∧ ∀ i ∈ Region.ready .any ops listed, ∃ o, ops[i]? = some o ∧ OneK P r ops o (AnyK P r ops K fuel (listed.setIfInBounds i true)) a w
theorem AnyK.opsIn {ops : Array Oper} {n : Nat} {Q : Exit → Act → World → Prop} : ∀ (fuel t : Nat) (listed : Array Bool) (a : Act) (w : World), AnyK c.P c.r ops (Q .normal) fuel listed a w →
    wpOpsIn (Fc c.r) n c.P ops Q (Region.linearise.go .any ops fuel t listed []) a w := by
  intro fuel
  induction fuel with
  | zero => intro t listed a w h; simpa [Region.linearise.go, wpOpsIn] using h.2
  | succ fuel ih =>
    intro t listed a w h
    obtain ⟨h₀, h₁⟩ := h
    simp only [Region.linearise.go]
    change wpOpsIn (Fc c.r) n c.P ops Q (match (Region.ready .any ops listed)[t % (Region.ready .any ops listed).length]? with
      | some i => Region.linearise.go .any ops fuel (t / (Region.ready .any ops listed).length) (listed.setIfInBounds i true) [i]
      | none => [].reverse) a w
    cases hi : (Region.ready .any ops listed)[t % (Region.ready .any ops listed).length]? with
    | none =>
      have hnil : Region.ready .any ops listed = [] := by
        cases hr : Region.ready .any ops listed with
        | nil => rfl
        | cons x xs =>
          rw [hr] at hi
          have hlt : t % (x :: xs).length < (x :: xs).length := Nat.mod_lt _ (by simp)
          simp at hi
          simp at hlt
          omega
      simpa [wpOpsIn] using h₀ hnil
    | some i =>
      simp only []
      rw [linearise_go_acc, List.reverse_singleton, List.singleton_append]
      obtain ⟨o, ho, h2⟩ := h₁ i (List.mem_of_getElem? hi)
      exact OneK.opsIn ho h2 fun a w h3 => ih _ _ a w h3
theorem Tr.draw {id : Nat} {ops : Array Oper} {Q : Exit → Act → World → Prop} (hm : c.P.follows .mixedOrders = true) (t : Tr c l h (AnyK c.P c.r ops (Q .normal) ops.size (Array.replicate ops.size false))) :
    Tr c l h (c.W (.region id ops true) Q) :=
  fun a w ha hw => wpIn_region_draw fun q => by
    simp only [Region.schedule, hm, Bool.true_or, if_true]
    exact AnyK.opsIn ops.size q _ a _ (t a _ ha (hw.drew _))
def nth : List Oper → Nat → Option Oper
  | [], _ => none
  | o :: _, 0 => some o
  | _ :: lo, i + 1 => nth lo i
theorem nth_spec : ∀ (lo : List Oper) (i : Nat) (o : Oper), nth lo i = some o → lo[i]? = some o
  | [], i, o, h => by simp [nth] at h
  | x :: lo, 0, o, h => by simpa [nth] using h
  | x :: lo, i + 1, o, h => by simpa using nth_spec lo i o (by simpa [nth] using h)
/-- Each of the operations that may come up is borne. -/
def Each (c : Cx) (l : Fr) (h : Hp) (lo : List Oper) (K : Nat → Act → World → Prop) : List Nat → Prop
  | [] => True
  | i :: rest => (∃ o, nth lo i = some o ∧ Tr c l h (OneK c.P c.r lo.toArray o (K i))) ∧ Each c l h lo K rest
theorem Each.mem {lo : List Oper} {K : Nat → Act → World → Prop} : ∀ {rs : List Nat}, Each c l h lo K rs → ∀ i ∈ rs, ∃ o, lo.toArray[i]? = some o ∧ Tr c l h (OneK c.P c.r lo.toArray o (K i))
  | i :: rest, e, j, hj => by
    rcases List.mem_cons.1 hj with rfl | hj
    · obtain ⟨o, h1, h2⟩ := e.1
      exact ⟨o, by simpa using nth_spec lo j o h1, h2⟩
    · exact Each.mem e.2 j hj
theorem Tr.any {lo : List Oper} {fuel : Nat} {listed : Array Bool} (r : Nat) (rs : List Nat) (hr : Region.ready .any lo.toArray listed = r :: rs)
    (e : Each c l h lo (fun i => AnyK c.P c.r lo.toArray K fuel (listed.setIfInBounds i true)) (r :: rs)) : Tr c l h (AnyK c.P c.r lo.toArray K (fuel + 1) listed) := fun a w ha hw => by
  refine ⟨fun hn => (by rw [hr] at hn; cases hn), fun i hi => ?_⟩
  rw [hr] at hi
  obtain ⟨o, ho, t⟩ := e.mem i hi
  exact ⟨o, ho, t a w ha hw⟩
theorem Tr.anyEnd {ops : Array Oper} {fuel : Nat} {listed : Array Bool} (hr : Region.ready .any ops listed = []) (t : Tr c l h K) : Tr c l h (AnyK c.P c.r ops K fuel listed) := fun a w ha hw => by
  cases fuel with
  | zero => exact ⟨hr, t a w ha hw⟩
  | succ n => exact ⟨fun _ => t a w ha hw, fun i hi => (by rw [hr] at hi; cases hi)⟩

/-! ### Code -/
section scope
variable {P : Program} {b : Frame} {a : Act} {k : List Item} {cs : List Frame} {w : World} {Q : Exit → Act → World → Prop}
theorem stepR_scope {c : Code} : step P (lone (b.atR a (.code (.scope c) :: k)) cs w) = .next (lone (b.atR a (.code c :: .inScope c :: k)) cs w) :=
  step_lone_go (by simp [stepG, stepG.exec, Frame.atR])
theorem stepR_inScope {c : Code} : step P (lone (b.atR a (.inScope c :: k)) cs w) = .next (lone (b.atR a k) cs w) :=
  step_lone_go (by simp [stepG, stepG.exec, Frame.atR])
theorem wpIn_scope {F : Fence} {n : Nat} {c : Code} (h : c.wpIn F n P (Exit.noGoto Q) a w) : (Code.scope c).wpIn F n P Q a w := by
  intro b k cs hro hb hr
  have h0 : (lone (b.atR a (.code (.scope c) :: k)) cs w).fenced P F := fenced_calm hb hr rfl
  obtain ⟨e, a₁, w₁, hq, harr⟩ := h b (.inScope c :: k) cs hro hb hr
  cases e with
  | normal => exact ⟨.normal, a₁, w₁, hq, .head h0 stepR_scope (StepsIn.trans harr (.one (fenced_calm hb hr rfl) stepR_inScope))⟩
  | exit id =>
    have hx : exitTo id (.inScope c :: k) = exitTo id k := by simp [exitTo]
    exact ⟨.exit id, a₁, w₁, hq, fun k' hk => .head h0 stepR_scope (harr.1 k' (by rw [hx]; exact hk)),
      fun hr' hk => let ⟨k₁, h1, h2⟩ := harr.2 hr' (by rw [hx]; exact hk); ⟨k₁, h1, .head h0 stepR_scope h2⟩⟩
  | goto l => exact hq.elim
  | ret => exact ⟨_, a₁, w₁, hq, .of_steps (.one h0 stepR_scope) harr⟩
  | panic ch => exact ⟨_, a₁, w₁, hq, .of_steps (.one h0 stepR_scope) harr⟩
  | outgrown => exact ⟨_, a₁, w₁, hq, .of_steps (.one h0 stepR_scope) harr⟩
end scope
section code
variable {Q : Exit → Act → World → Prop} {x y : Code}
theorem Tr.seq (t : Tr c l h (c.W x (Exit.then (c.W y Q) Q))) : Tr c l h (c.W (.seq x y) Q) := fun a w ha hw => wpIn_seq (t a w ha hw)
theorem Tr.skip (t : Tr c l h (Q .normal)) : Tr c l h (c.W .skip Q) := fun a w ha hw => wpIn_skip (t a w ha hw)
theorem Tr.label {i : Nat} (t : Tr c l h (Q .normal)) : Tr c l h (c.W (.label i) Q) := fun a w ha hw => wpIn_label (t a w ha hw)
theorem Tr.exit {i : Nat} (t : Tr c l h (Q (.exit i))) : Tr c l h (c.W (.exit i) Q) := fun a w ha hw => wpIn_exit (t a w ha hw)
theorem Tr.ret (t : Tr c l h (Q .ret)) : Tr c l h (c.W .ret Q) := fun a w ha hw => wpIn_ret (t a w ha hw)
theorem Tr.block {i : Nat} (t : Tr c l h (c.W x (Exit.inBlock i Q))) : Tr c l h (c.W (.block i x) Q) := fun a w ha hw => wpIn_block (t a w ha hw)
theorem Tr.scope (t : Tr c l h (c.W x (Exit.noGoto Q))) : Tr c l h (c.W (.scope x) Q) := fun a w ha hw => wpIn_scope (t a w ha hw)
theorem Tr.yes {o : Operand} (hc : ev l o = some (.bool true)) (t : Tr c l h (c.W x Q)) : Tr c l h (c.W (.cond o x y) Q) := fun a w ha hw => wpIn_cond_true (ha.ev hc) (t a w ha hw)
theorem Tr.not {o : Operand} (hc : ev l o = some (.bool false)) (t : Tr c l h (c.W y Q)) : Tr c l h (c.W (.cond o x y) Q) := fun a w ha hw => wpIn_cond_false (ha.ev hc) (t a w ha hw)
theorem Has.known {n : Nat} {ds : List Deferred} {l : Fr} {a : Act} {d : Nat} {b : Bool} (ha : Has n ds l a) (u : Bool) (e : b = u) (hb : look l d = some (.bool b)) : Has n ds ((d, .bool u) :: l) a :=
  ⟨ha.size, ha.defers, fun i v hi => by
    by_cases hd : d = i
    · subst hd; rw [look_cons_same] at hi; subst e; exact ha.all d v (hb.trans hi)
    · rw [look_cons_other _ _ hd] at hi; exact ha.all i v hi⟩
/-- A Bool in a slot is decided. -/
theorem Tr.decide (d : Nat) {b : Bool} (hb : look l d = some (.bool b)) (t : b = true → Tr c ((d, .bool true) :: l) h K) (f : b = false → Tr c ((d, .bool false) :: l) h K) : Tr c l h K := fun a w ha hw => by
  cases b with
  | true => exact t rfl a w (ha.known true rfl hb) hw
  | false => exact f rfl a w (ha.known false rfl hb) hw
theorem Tr.loop {X : Type} (L : X → Fr) (H : X → Hp) (Φ : X → Prop) (μ : X → Nat) (x0 : X) (h0 : Φ x0) (ks : List Nat) (hn : ks.Nodup) (hh : pick h ks = H x0) (hs : Sub l (L x0))
    (round : ∀ s, Φ s → Tr c (L s) (H s) (c.W x (Exit.then (fun a w => ∃ s', Φ s' ∧ μ s' < μ s ∧ Has c.n c.ds (L s') a ∧ St c w (H s')) Q))) : Tr c l h (c.W (.loop x) Q) := fun a w ha hw => by
  intro b k cs hro hb hr
  have key : ∀ n s a w, μ s = n → Φ s → Has c.n c.ds (L s) a → St c w (H s) →
      ∃ e a' w', Q e a' w' ∧ ArrivesIn (Machine.fenced c.P (Fc c.r)) c.P (lone (b.atR a (.code x :: .inLoop x :: k)) cs w) b k cs e a' w' := by
    intro n
    induction n using Nat.strongRecOn with
    | _ n ih =>
      intro s a w hn hΦ ha hw
      obtain ⟨e, a₁, w₁, hq, harr⟩ := round s hΦ a w ha hw b (.inLoop x :: k) cs hro hb hr
      cases e with
      | normal =>
        obtain ⟨s', h1, hlt, h2, h3⟩ := hq
        obtain ⟨e₂, a₂, w₂, hq₂, harr₂⟩ := ih (μ s') (hn ▸ hlt) s' a₁ w₁ rfl h1 h2 h3
        exact ⟨e₂, a₂, w₂, hq₂, .of_steps (StepsIn.trans harr (.one (fenced_calm hb hr rfl) stepR_inLoop)) harr₂⟩
      | exit id => exact ⟨_, a₁, w₁, hq, .pass (x := .inLoop x) rfl (fun _ _ => .inl (by simp)) harr⟩
      | goto l => exact ⟨_, a₁, w₁, hq, .pass (x := .inLoop x) rfl (fun _ _ => .inl (by simp)) harr⟩
      | ret => exact ⟨_, a₁, w₁, hq, .pass (x := .inLoop x) rfl (fun _ _ => .inl (by simp)) harr⟩
      | panic ch => exact ⟨_, a₁, w₁, hq, .pass (x := .inLoop x) rfl (fun _ _ => .inl (by simp)) harr⟩
      | outgrown => exact ⟨_, a₁, w₁, hq, .pass (x := .inLoop x) rfl (fun _ _ => .inl (by simp)) harr⟩
  obtain ⟨e, a', w', hq, harr⟩ := key _ x0 a w rfl h0 (ha.sub hs) (hh ▸ hw.pick hn)
  exact ⟨e, a', w', hq, .of_steps (.one (fenced_calm hb hr rfl) stepR_loop) harr⟩
/-- At the head of a loop's round. -/
def WL (P : Program) (r : Option Nat) (x : Code) (Q : Exit → Act → World → Prop) (a : Act) (w : World) : Prop :=
  ∀ (b : Frame) (k : List Item) (cs : List Frame), b.roundOf = (Fc r).round → (Fc r).fn b.fn → (Fc r).room (cs.length + 1 + 99) →
    ∃ e a' w', Q e a' w' ∧ ArrivesIn (Machine.fenced P (Fc r)) P (lone (b.atR a (.code x :: .inLoop x :: k)) cs w) b k cs e a' w'
theorem Tr.loopU (t : Tr c l h (WL c.P c.r x Q)) : Tr c l h (c.W (.loop x) Q) := fun a w ha hw => by
  intro b k cs hro hb hr
  obtain ⟨e, a', w', hq, harr⟩ := t a w ha hw b k cs hro hb hr
  exact ⟨e, a', w', hq, .of_steps (.one (fenced_calm hb hr rfl) stepR_loop) harr⟩
/-- One round, walked by itself. -/
theorem Tr.roundU (t : Tr c l h (c.W x (Exit.then (WL c.P c.r x Q) Q))) : Tr c l h (WL c.P c.r x Q) := fun a w ha hw => by
  intro b k cs hro hb hr
  obtain ⟨e, a₁, w₁, hq, harr⟩ := t a w ha hw b (.inLoop x :: k) cs hro hb hr
  cases e with
  | normal =>
    obtain ⟨e₂, a₂, w₂, hq₂, harr₂⟩ := hq b k cs hro hb hr
    exact ⟨e₂, a₂, w₂, hq₂, .of_steps (StepsIn.trans harr (.one (fenced_calm hb hr rfl) stepR_inLoop)) harr₂⟩
  | exit id => exact ⟨_, a₁, w₁, hq, .pass (x := .inLoop x) rfl (fun _ _ => .inl (by simp)) harr⟩
  | goto l => exact ⟨_, a₁, w₁, hq, .pass (x := .inLoop x) rfl (fun _ _ => .inl (by simp)) harr⟩
  | ret => exact ⟨_, a₁, w₁, hq, .pass (x := .inLoop x) rfl (fun _ _ => .inl (by simp)) harr⟩
  | panic ch => exact ⟨_, a₁, w₁, hq, .pass (x := .inLoop x) rfl (fun _ _ => .inl (by simp)) harr⟩
  | outgrown => exact ⟨_, a₁, w₁, hq, .pass (x := .inLoop x) rfl (fun _ _ => .inl (by simp)) harr⟩
theorem Tr.loopG {X : Type} (L : X → Fr) (H : X → Hp) (C : X → Cx) (hC : ∀ s, (C s).P = c.P ∧ (C s).r = c.r ∧ (C s).n = c.n) (Φ : X → Prop) (μ : X → Nat) (x0 : X) (h0 : Φ x0) (ks : List Nat) (hn : ks.Nodup) (hh : pick h ks = H x0) (hs : Sub l (L x0)) (hc0 : C x0 = c)
    (round : ∀ s, Φ s → Tr (C s) (L s) (H s) ((C s).W x (Exit.then (fun a w => ∃ s', Φ s' ∧ μ s' < μ s ∧ Has (C s').n (C s').ds (L s') a ∧ St (C s') w (H s')) Q))) : Tr c l h (c.W (.loop x) Q) := fun a w ha hw => by
  intro b k cs hro hb hr
  have key : ∀ n s a w, μ s = n → Φ s → Has (C s).n (C s).ds (L s) a → St (C s) w (H s) →
      ∃ e a' w', Q e a' w' ∧ ArrivesIn (Machine.fenced c.P (Fc c.r)) c.P (lone (b.atR a (.code x :: .inLoop x :: k)) cs w) b k cs e a' w' := by
    intro n
    induction n using Nat.strongRecOn with
    | _ n ih =>
      intro s a w hn hΦ ha hw
      have hR := round s hΦ a w ha hw
      obtain ⟨e1, e2, e3⟩ := hC s
      unfold Cx.W at hR
      rw [e1, e2] at hR
      obtain ⟨e, a₁, w₁, hq, harr⟩ := hR b (.inLoop x :: k) cs hro hb hr
      cases e with
      | normal =>
        obtain ⟨s', h1, hlt, h2, h3⟩ := hq
        obtain ⟨e₂, a₂, w₂, hq₂, harr₂⟩ := ih (μ s') (hn ▸ hlt) s' a₁ w₁ rfl h1 h2 h3
        exact ⟨e₂, a₂, w₂, hq₂, .of_steps (StepsIn.trans harr (.one (fenced_calm hb hr rfl) stepR_inLoop)) harr₂⟩
      | exit id => exact ⟨_, a₁, w₁, hq, .pass (x := .inLoop x) rfl (fun _ _ => .inl (by simp)) harr⟩
      | goto l => exact ⟨_, a₁, w₁, hq, .pass (x := .inLoop x) rfl (fun _ _ => .inl (by simp)) harr⟩
      | ret => exact ⟨_, a₁, w₁, hq, .pass (x := .inLoop x) rfl (fun _ _ => .inl (by simp)) harr⟩
      | panic ch => exact ⟨_, a₁, w₁, hq, .pass (x := .inLoop x) rfl (fun _ _ => .inl (by simp)) harr⟩
      | outgrown => exact ⟨_, a₁, w₁, hq, .pass (x := .inLoop x) rfl (fun _ _ => .inl (by simp)) harr⟩
  obtain ⟨e, a', w', hq, harr⟩ := key _ x0 a w rfl h0 (by rw [hc0]; exact ha.sub hs) (by rw [hc0]; exact hh ▸ hw.pick hn)
  exact ⟨e, a', w', hq, .of_steps (.one (fenced_calm hb hr rfl) stepR_loop) harr⟩
theorem Tr.againG {X : Type} {L : X → Fr} {H : X → Hp} {C : X → Cx} {Φ : X → Prop} {μ : X → Nat} {s : X} (s' : X) (hΦ : Φ s') (hμ : μ s' < μ s) (hc : C s' = c) (ks : List Nat) (hn : ks.Nodup) (hh : pick h ks = H s') (hs : Sub l (L s')) :
    Tr c l h (fun a w => ∃ s', Φ s' ∧ μ s' < μ s ∧ Has (C s').n (C s').ds (L s') a ∧ St (C s') w (H s')) := fun a w ha hw => ⟨s', hΦ, hμ, by rw [hc]; exact ha.sub hs, by rw [hc]; exact hh ▸ hw.pick hn⟩
/-- The round's end: the relation holds again. -/
theorem Tr.again {X : Type} {L : X → Fr} {H : X → Hp} {Φ : X → Prop} {μ : X → Nat} {s : X} (s' : X) (hΦ : Φ s') (hμ : μ s' < μ s) (ks : List Nat) (hn : ks.Nodup) (hh : pick h ks = H s') (hs : Sub l (L s')) :
    Tr c l h (fun a w => ∃ s', Φ s' ∧ μ s' < μ s ∧ Has c.n c.ds (L s') a ∧ St c w (H s')) := fun a w ha hw => ⟨s', hΦ, hμ, ha.sub hs, hh ▸ hw.pick hn⟩
end code
end Go.Ka

import Derived.Test.YteidggmgknnibaaDoorW2
import Derived.Test.YteidggmgknnibaaDoorShelf
import Derived.WalkSmall
import Derived.Lib.Hide
namespace Go.Proofs.YteidggmgknnibaaDoor
open Go.RowKit Go.Lines Go.Sort

/-- An operation as a value. -/
def opV (o : O) : Value := .agg #[.int .i64 o.k, .int .i64 o.node, .int .i64 o.frm, .int .i64 o.too, .int .i64 o.plc, .int .i64 o.bit]
def mayB (o : O) : Bool := decide (mayS o)

theorem may_any (o : O) (w : World) : Calls Tryd.prog 8 #[opV o] w fun e w' => e = .returned (.bool (mayB o)) ∧ Below w.heap.size w w' := by
  obtain ⟨k, a, b, c, d, f⟩ := o
  have bad : ∀ (r : Bool), r = mayB ⟨k, a, b, c, d, f⟩ → (∀ {Q : Ending → World → Prop}, Calls Tryd.prog 8 #[opV ⟨k, a, b, c, d, f⟩] w Q → Calls Tryd.prog 8 #[opV ⟨k, a, b, c, d, f⟩] w Q) := fun _ _ _ h => h
  have fin : ∀ (r : Bool), r = mayB ⟨k, a, b, c, d, f⟩ → Calls Tryd.prog 8 #[opV ⟨k, a, b, c, d, f⟩] w (fun e w' => e = .returned (.bool r) ∧ Below w.heap.size w w') →
      Calls Tryd.prog 8 #[opV ⟨k, a, b, c, d, f⟩] w fun e w' => e = .returned (.bool (mayB ⟨k, a, b, c, d, f⟩)) ∧ Below w.heap.size w w' := fun r hr h => by rw [← hr]; exact h
  by_cases h1 : k = 1 ∨ k = 6 ∨ k = 7
  · have n2 : ¬ (k = 2 ∨ k = 3 ∨ k = 4) := by omega
    have n5 : ¬ k = 5 := by omega
    by_cases ha : a < 0
    · exact fin false (by simp [mayB, mayS, okN, n2, n5]; omega) (may_one_0lo k a b c d f w h1 ha)
    by_cases hA : 2147483647 < a
    · exact fin false (by simp [mayB, mayS, okN, n2, n5]; omega) (may_one_0hi k a b c d f w h1 hA)
    exact fin _ (by
      have e : okN a := by unfold okN; omega
      simp [mayB, mayS, h1, n2, n5, e]) (may_one_1 k a b c d f w h1 (by omega) (by omega))
  by_cases h2 : k = 2 ∨ k = 3 ∨ k = 4
  · have n5 : ¬ k = 5 := by omega
    by_cases hb : b < 0
    · exact fin false (by simp [mayB, mayS, okN, h1, n5]; omega) (may_three_0lo k a b c d f w h2 hb)
    by_cases hB : 2147483647 < b
    · exact fin false (by simp [mayB, mayS, okN, h1, n5]; omega) (may_three_0hi k a b c d f w h2 hB)
    by_cases hc : c < 0
    · exact fin false (by simp [mayB, mayS, okN, h1, n5]; omega) (may_three_1lo k a b c d f w h2 (by omega) (by omega) hc)
    by_cases hC : 2147483647 < c
    · exact fin false (by simp [mayB, mayS, okN, h1, n5]; omega) (may_three_1hi k a b c d f w h2 (by omega) (by omega) hC)
    by_cases hd : d < 0
    · exact fin false (by simp [mayB, mayS, okN, h1, n5]; omega) (may_three_2lo k a b c d f w h2 (by omega) (by omega) (by omega) (by omega) hd)
    by_cases hD : 2147483647 < d
    · exact fin false (by simp [mayB, mayS, okN, h1, n5]; omega) (may_three_2hi k a b c d f w h2 (by omega) (by omega) (by omega) (by omega) hD)
    exact fin _ (by
      have e1 : okN b := by unfold okN; omega
      have e2 : okN c := by unfold okN; omega
      have e3 : okN d := by unfold okN; omega
      simp [mayB, mayS, h1, h2, n5, e1, e2, e3]) (may_three_3 k a b c d f w h2 (by omega) (by omega) (by omega) (by omega) (by omega) (by omega))
  by_cases h5 : k = 5
  · subst h5
    by_cases hb : b < 0
    · exact fin false (by simp [mayB, mayS, okN]; omega) (may_four_0lo a b c d f w hb)
    by_cases hB : 2147483647 < b
    · exact fin false (by simp [mayB, mayS, okN]; omega) (may_four_0hi a b c d f w hB)
    by_cases hc : c < 0
    · exact fin false (by simp [mayB, mayS, okN]; omega) (may_four_1lo a b c d f w (by omega) (by omega) hc)
    by_cases hC : 2147483647 < c
    · exact fin false (by simp [mayB, mayS, okN]; omega) (may_four_1hi a b c d f w (by omega) (by omega) hC)
    by_cases hd : d < 0
    · exact fin false (by simp [mayB, mayS, okN]; omega) (may_four_2lo a b c d f w (by omega) (by omega) (by omega) (by omega) hd)
    by_cases hD : 2147483647 < d
    · exact fin false (by simp [mayB, mayS, okN]; omega) (may_four_2hi a b c d f w (by omega) (by omega) (by omega) (by omega) hD)
    by_cases hf : f < 0
    · exact fin false (by simp [mayB, mayS, okN]; omega) (may_four_3lo a b c d f w (by omega) (by omega) (by omega) (by omega) (by omega) (by omega) hf)
    by_cases hF : 2147483647 < f
    · exact fin false (by simp [mayB, mayS, okN]; omega) (may_four_3hi a b c d f w (by omega) (by omega) (by omega) (by omega) (by omega) (by omega) hF)
    exact fin _ (by
      have e1 : okN b := by unfold okN; omega
      have e2 : okN c := by unfold okN; omega
      have e3 : okN d := by unfold okN; omega
      have e4 : okN f := by unfold okN; omega
      simp [mayB, mayS, e1, e2, e3, e4]) (may_four_4 a b c d f w (by omega) (by omega) (by omega) (by omega) (by omega) (by omega) (by omega) (by omega))
  · exact fin false (by simp [mayB, mayS, h1, h2, h5]) (may_none k a b c d f w (by omega))

/-! ### What the package-level variables hold, in every later world -/
structure Env (w : World) : Prop where
  words : ∀ i : Nat, i < 8 → w.cell? ⟨0, i, none⟩ = some (.string ⟨(wordS i).toArray⟩)
  pow : Lib.TabIs Tryd.prog w "internal/strconv.uint64pow10" .u64 Lib.pow10Tab
  syn : ∃ tp p, w.var? Tryd.prog "strconv.ErrSyntax" = some #[.iface tp p]
  ran : ∃ tp p, w.var? Tryd.prog "strconv.ErrRange" = some #[.iface tp p]
  most : ∃ m : Int, w.cell? ⟨4, 0, none⟩ = some (.int .i64 m)
  size : 9 ≤ w.heap.size

theorem gPow : Tryd.prog.globalNamed "internal/strconv.uint64pow10" = some 3 := by kernel_rfl
theorem gSyn : Tryd.prog.globalNamed "strconv.ErrSyntax" = some 1 := by kernel_rfl
theorem gRan : Tryd.prog.globalNamed "strconv.ErrRange" = some 2 := by kernel_rfl

theorem Env.below {w w' : World} (h : Env w) {B : Nat} (hB : 9 ≤ B) (hb : Below B w w') : Env w' := by
  obtain ⟨tp, p, hs⟩ := h.syn
  obtain ⟨tq, q, hr⟩ := h.ran
  obtain ⟨m, hm⟩ := h.most
  exact {
    words := fun i hi => (hb.cell (p := ⟨0, i, none⟩) (by show 0 < B; omega)).trans (h.words i hi)
    pow := var?_below hb gPow (by omega) h.pow
    syn := ⟨tp, p, var?_below hb gSyn (by omega) hs⟩
    ran := ⟨tq, q, var?_below hb gRan (by omega) hr⟩
    most := ⟨m, (hb.cell (p := ⟨4, 0, none⟩) (by show 4 < B; omega)).trans hm⟩
    size := Nat.le_trans h.size hb.size }

theorem below_grow_drewN (w : World) (n : Nat) (os : Array Obj) : Below w.heap.size w (grow (w.drewN n) os) :=
  ⟨rfl, rfl, rfl, by simp [grow, World.drewN], fun k hk => by
    show (w.heap ++ os)[k]? = w.heap[k]?
    rw [Array.getElem?_append_left hk]⟩

theorem below_bytesWorld (w : World) (e : TypeId) (s : ByteArray) : Below w.heap.size w (Lib.bytesWorld w e s) :=
  ⟨by simp [Lib.bytesWorld, World.freeze, World.alloc, World.drew, -World.alloc_eq, -World.drew_eq], by simp [Lib.bytesWorld, World.freeze, World.alloc, World.drew, -World.alloc_eq, -World.drew_eq], by simp [Lib.bytesWorld, World.freeze, World.alloc, World.drew, -World.alloc_eq, -World.drew_eq],
    by simp [Lib.bytesWorld, World.freeze, World.alloc, World.drew, -World.alloc_eq, -World.drew_eq], fun k hk => by
      have h1 : w.heap.size ≠ k := by omega
      simp [Lib.bytesWorld, World.freeze, World.alloc, World.drew, -World.alloc_eq, -World.drew_eq, Array.getElem?_modify, Array.getElem?_push, h1, Ne.symm h1]⟩

theorem itoa_any (n : Int) (h0 : 0 ≤ n) (h1 : n ≤ 2147483647) (w : World) (hE : Env w) :
    Calls Tryd.prog 10 #[.int .i64 n] w fun e w' => e = .returned (.string ⟨(Lib.itoa n).toArray⟩) ∧ Below w.heap.size w w' :=
  (Tryd.strconv_Itoa n (by omega) (by omega) w hE.pow).mono fun e w' ⟨he, k, os, hw⟩ => ⟨he, by rw [hw]; exact below_grow_drewN w k os⟩

theorem atoi_any (s : ByteArray) (hs : s.size ≤ 200) (w : World) (hE : Env w) :
    Calls Tryd.prog 16 #[.string s] w fun e w' => ∃ ev, e = .returned (.tuple #[.int .i64 (atoiVal s.data.toList), ev]) ∧ Below w.heap.size w w' := by
  unfold atoiVal
  rcases h : Lib.atoiAll s.data.toList with v | _ | _
  · refine (Tryd.strconv_Atoi_ok s (by omega) v h w).mono fun e w' ⟨he, hw⟩ => ⟨_, he, ?_⟩
    rcases hw with rfl | ⟨t, rfl⟩
    · exact Below.refl _ _
    · exact below_bytesWorld _ _ _
  · obtain ⟨tp, p, hv⟩ := hE.syn
    exact (Tryd.strconv_Atoi_syntax_var s (by omega) h tp p w hv).mono fun e w' ⟨N, he, _, _, hb⟩ => ⟨_, he, hb⟩
  · obtain ⟨tp, p, hv⟩ := hE.ran
    exact (Tryd.strconv_Atoi_range_var s (by omega) h tp p w hv).mono fun e w' ⟨N, he, _, _, hb⟩ => ⟨_, he, hb⟩

end Go.Proofs.YteidggmgknnibaaDoor

import Derived.Test.YtfcbdjjpmgmpoaaDoorRows
import Derived.Test.YtfcbdjjpmgmpoaaDoorShelf
import Derived.WalkKit
import Derived.WalkSpells
import Derived.WalkSmall
import Derived.WalkLawsBesides
import Derived.Deep.DeepFit
import Derived.Deep.QuietTactic
import Derived.BigQuiet
import Derived.Lib.Hide
import Derived.Shelf.SlSortCmp.QuietGrown
import Derived.Shelf.Spec.BitsCarry
import Derived.Test.YtfcbdjjpmgmpoaaDoorMath
namespace Go.Proofs.YtfcbdjjpmgmpoaaDoor
open Go.RowKit Go.Mat

/-- Behind a call: what lay below B lies there still, and no draw is taken back. -/
structure G (B : Nat) (w w' : World) : Prop where
  below : Below B w w'
  drawn : w.drawn ≤ w'.drawn
theorem G.refl (B : Nat) (w : World) : G B w w := ⟨Below.refl B w, Nat.le_refl _⟩
theorem G.trans {B : Nat} {a b c : World} (h : G B a b) (k : G B b c) : G B a c := ⟨h.below.trans k.below, Nat.le_trans h.drawn k.drawn⟩
theorem G.mono {B C : Nat} {w w' : World} (h : G B w w') (hC : C ≤ B) : G C w w' := ⟨h.below.mono hC, h.drawn⟩
theorem G.alloc {B : Nat} {w w' : World} (h : G B w w') (hB : B ≤ w'.heap.size) (o : Obj) : G B w (w'.alloc o) := ⟨h.below.alloc hB o, h.drawn⟩
theorem G.setCell {B : Nat} {w w' : World} (h : G B w w') {p : Addr} (hB : B ≤ p.block) (v : Value) : G B w (w'.setCell p v) := ⟨h.below.setCell hB v, by
  have : (w'.setCell p v).drawn = w'.drawn := by unfold World.setCell; split <;> rfl
  rw [this]; exact h.drawn⟩
theorem G.drewN {B : Nat} {w w' : World} (h : G B w w') (n : Nat) : G B w (w'.drewN n) := ⟨⟨h.below.os, h.below.tape, h.below.output, h.below.size, h.below.block⟩, Nat.le_trans h.drawn (Nat.le_add_right _ _)⟩
theorem G.drew {B : Nat} {w w' : World} (h : G B w w') : G B w w'.drew := h.drewN 1
theorem G.cell {B : Nat} {w w' : World} (h : G B w w') {p : Addr} (hp : p.block < B) : w'.cell? p = w.cell? p := h.below.cell hp
theorem G.frozen {B : Nat} {w w' : World} (h : G B w w') {p : Addr} (hp : p.block < B) : w'.frozen? p = w.frozen? p := h.below.frozen hp
theorem G.size {B : Nat} {w w' : World} (h : G B w w') : w.heap.size ≤ w'.heap.size := h.below.size
theorem G.out {w w' : World} (h : G w.heap.size w w') : ∃ q os, w' = Sort.grow (w.drewN q) os := by
  obtain ⟨⟨h1, h2, h3, h4, h5⟩, h6⟩ := h
  refine ⟨w'.drawn - w.drawn, w'.heap.extract w.heap.size w'.heap.size, ?_⟩
  cases w with | mk hp tp dr os ou =>
  cases w' with | mk hp' tp' dr' os' ou' =>
  simp only at h1 h2 h3 h4 h5 h6
  subst h1 h2 h3
  have e : hp' = hp ++ hp'.extract hp.size hp'.size := by
    apply Array.ext_getElem?
    intro i
    by_cases hi : i < hp.size
    · rw [Array.getElem?_append_left hi]; exact h5 i hi
    · rw [Array.getElem?_append_right (by omega), Array.getElem?_extract]
      by_cases hj : i < hp'.size
      · rw [if_pos (by omega)]; congr 1; omega
      · rw [if_neg (by omega), Array.getElem?_eq_none (by omega)]
  have d : dr + (dr' - dr) = dr' := by omega
  unfold Sort.grow World.drewN
  simp only [World.mk.injEq, and_true, true_and]
  exact ⟨e, d.symm⟩
theorem G.grown {B : Nat} {w w' : World} (h : G B w w') (hB : B ≤ w'.heap.size) (q : Nat) (os : Array Obj) : G B w (Sort.grow (w'.drewN q) os) := h.trans ⟨⟨rfl, rfl, rfl, by simp [Sort.grow, World.drewN], fun k hk => by
    show (w'.heap ++ os)[k]? = w'.heap[k]?
    rw [Array.getElem?_append_left (by omega)]⟩, by simp [Sort.grow, World.drewN]⟩
theorem calls_grown {P : Program} {f : FuncId} {args : Array Value} {W : World} {v : Value} (h : Calls P f args W fun e w' => e = .returned v ∧ G W.heap.size W w') :
    Calls P f args W fun e w' => e = .returned v ∧ ∃ q os', w' = Sort.grow (W.drewN q) os' := h.mono fun _ _ ⟨he, hg⟩ => ⟨he, hg.out⟩

theorem wrap64_eq (n : Int) : wrap64 n = (n + 9223372036854775808) % 18446744073709551616 - 9223372036854775808 := by unfold wrap64; omega

theorem run_Add64 (x y c : Nat) (hc : c ≤ 1) (w : World) :
    (callFunc 55 #[.int .u64 x, .int .u64 y, .int .u64 c]).run Tryd.prog w =
      .ok (.value (.tuple #[.int .u64 (((x + y + c) % 18446744073709551616 : Nat) : Int), .int .u64 (((x + y + c) / 18446744073709551616 : Nat) : Int)])) w := by
  rw [run_callFunc_extern Tryd.func55 (by kernel_rfl) (by kernel_rfl) (by kernel_rfl) (e := add64Entry) (by kernel_rfl), run_add64 x y c (by omega) (by omega) (by omega) (by omega)]
  simp only [Result.andThen]
  congr 5 <;> omega

theorem run_Sub64 (x y b : Nat) (hb : b ≤ 1) (w : World) :
    (callFunc 53 #[.int .u64 x, .int .u64 y, .int .u64 b]).run Tryd.prog w =
      .ok (.value (.tuple #[.int .u64 (((x + 18446744073709551616 - y - b) % 18446744073709551616 : Nat) : Int), .int .u64 ((if x < y + b then 1 else 0 : Nat) : Int)])) w := by
  rw [run_callFunc_extern Tryd.func53 (by kernel_rfl) (by kernel_rfl) (by kernel_rfl) (e := sub64Entry) (by kernel_rfl), run_sub64 x y b hb]
  rfl

/-- wide.size. -/
theorem size_any (n : Int) (h0 : -9223372036854775808 ≤ n) (h1 : n ≤ 9223372036854775807) (w : World) :
    Calls Tryd.prog 48 #[.int .i64 n] w fun e w' => e = .returned (.int .u64 (n.natAbs : Int)) ∧ w = w' := by
  by_cases hn : n < 0
  · go_enter Tryd.func48, Tryd.ntmps48
    go_wp2
    go_ret
    refine ⟨?_, rfl⟩
    have e : IntKind.u64.wrap (-IntKind.u64.wrap n) = (n.natAbs : Int) := by rw [IntKind.wrap_u64, IntKind.wrap_u64]; omega
    simp [e]
  · go_enter Tryd.func48, Tryd.ntmps48
    go_wp2
    go_ret
    refine ⟨?_, rfl⟩
    have e : n = (n.natAbs : Int) := by omega
    simp [← e]

/-- The low word of a wide number that was turned, and what was borrowed. -/
theorem turned_x (h : Int) (l : Nat) (hh : -9223372036854775808 ≤ h ∧ h ≤ 9223372036854775807) (hl : l < 18446744073709551616) (hm : -9223372036854775808 < h ∨ 0 < l) (w : World) :
    Calls Tryd.prog 46 #[.agg #[.int .i64 h, .int .u64 l]] w fun e w' => e = .returned (.agg #[.int .i64 (hiW (-(h * 18446744073709551616 + l))), .int .u64 (loW (-(h * 18446744073709551616 + l)))]) ∧ G w.heap.size w w' := by
  obtain ⟨d, hd⟩ : ∃ d : Nat, d = (0 + 18446744073709551616 - l - 0) % 18446744073709551616 := ⟨_, rfl⟩
  obtain ⟨b, hb⟩ : ∃ b : Nat, b = if 0 < l + 0 then 1 else 0 := ⟨_, rfl⟩
  have hb1 : b ≤ 1 := by rw [hb]; split <;> omega
  have hb2 : (l = 0 ∧ b = 0) ∨ (0 < l ∧ b = 1) := by rw [hb]; split <;> omega
  obtain ⟨u, hu⟩ : ∃ u : Nat, IntKind.u64.wrap h = (u : Int) := ⟨(h % 18446744073709551616).toNat, by rw [IntKind.wrap_u64]; omega⟩
  have hu2 : (u : Int) = h % 18446744073709551616 := by rw [← hu, IntKind.wrap_u64]
  obtain ⟨d2, hd2⟩ : ∃ d : Nat, d = (0 + 18446744073709551616 - u - b) % 18446744073709551616 := ⟨_, rfl⟩
  obtain ⟨b2, hb3⟩ : ∃ b2 : Nat, b2 = if 0 < u + b then 1 else 0 := ⟨_, rfl⟩
  have s1 := run_Sub64 0 l 0 (by omega)
  have s2 := run_Sub64 0 u b (by omega)
  rw [← hd, ← hb] at s1
  rw [← hd2, ← hb3] at s2
  simp only [Int.ofNat_zero, Int.cast_ofNat_Int] at s1 s2
  have e1 : wrap64 (d2 : Int) = hiW (-(h * 18446744073709551616 + l)) := by
    symm; rw [wrap64_eq]
    apply hiW_eq _ _ d (by omega); omega
  have e2 : (d : Int) = (loW (-(h * 18446744073709551616 + l)) : Int) := by
    have := loW_eq (-(h * 18446744073709551616 + l)) (wrap64 (d2 : Int)) d (by omega) (by rw [wrap64_eq]; omega)
    rw [this]
  clear hd hb hb1 hb2 hu2 hd2 hb3
  have E1 := Lib.hid e1
  have E2 := Lib.hid e2
  clear e1 e2
  go_enter Tryd.func46, Tryd.ntmps46
  go_wp2_with (first | simp only [s1] | simp only [hu, s2])
  refine bodyPost_ret (v := .agg #[.int .i64 (wrap64 (d2 : Int)), .int .u64 d]) (by simp [results, Tryd.results46, go_sem]) rfl ⟨?_, ?_⟩
  · rw [E1.out, E2.out]
  · exact ((G.refl _ w).alloc (Nat.le_refl _) _).alloc (by simp) _

theorem plus_x (h1 : Int) (l1 : Nat) (h2 : Int) (l2 : Nat) (hh1 : -9223372036854775808 ≤ h1 ∧ h1 ≤ 9223372036854775807) (hl1 : l1 < 18446744073709551616) (hh2 : -9223372036854775808 ≤ h2 ∧ h2 ≤ 9223372036854775807) (hl2 : l2 < 18446744073709551616)
    (hm : is128 (h1 * 18446744073709551616 + l1 + (h2 * 18446744073709551616 + l2))) (w : World) :
    Calls Tryd.prog 49 #[.agg #[.int .i64 h1, .int .u64 l1], .agg #[.int .i64 h2, .int .u64 l2]] w fun e w' => e = .returned (.agg #[.int .i64 (hiW (h1 * 18446744073709551616 + l1 + (h2 * 18446744073709551616 + l2))), .int .u64 (loW (h1 * 18446744073709551616 + l1 + (h2 * 18446744073709551616 + l2)))]) ∧ G w.heap.size w w' := by
  obtain ⟨d, hd⟩ : ∃ d : Nat, d = (l1 + l2 + 0) % 18446744073709551616 := ⟨_, rfl⟩
  obtain ⟨b, hb⟩ : ∃ b : Nat, b = (l1 + l2 + 0) / 18446744073709551616 := ⟨_, rfl⟩
  have s1 := run_Add64 l1 l2 0 (by omega)
  rw [← hd, ← hb] at s1
  simp only [Int.ofNat_zero, Int.cast_ofNat_Int] at s1
  unfold is128 at hm
  have hbb : wrap64 (b : Int) = b := by rw [wrap64_eq]; omega
  have e1 : wrap64 (wrap64 (h1 + h2) + b) = hiW (h1 * 18446744073709551616 + l1 + (h2 * 18446744073709551616 + l2)) := by
    symm; rw [wrap64_eq, wrap64_eq]
    apply hiW_eq _ _ d (by omega); omega
  have e2 : (d : Int) = (loW (h1 * 18446744073709551616 + l1 + (h2 * 18446744073709551616 + l2)) : Int) := by
    have := loW_eq (h1 * 18446744073709551616 + l1 + (h2 * 18446744073709551616 + l2)) (wrap64 (wrap64 (h1 + h2) + b)) d (by omega) (by rw [wrap64_eq, wrap64_eq]; omega)
    rw [this]
  clear hd hb hm
  have E1 := Lib.hid e1
  have E2 := Lib.hid e2
  clear e1 e2
  go_enter Tryd.func49, Tryd.ntmps49
  go_wp2_with (simp only [s1])
  refine bodyPost_ret (v := .agg #[.int .i64 (wrap64 (wrap64 (h1 + h2) + b)), .int .u64 d]) (by simp [results, Tryd.results49, go_sem, hbb]) rfl ⟨?_, ?_⟩
  · rw [E1.out, E2.out]
  · exact (((G.refl _ w).alloc (Nat.le_refl _) _).alloc (by simp) _).alloc (by simp; omega) _

theorem of_x (n : Int) (h0 : -9223372036854775808 ≤ n) (h1 : n ≤ 9223372036854775807) (w : World) :
    Calls Tryd.prog 50 #[.int .i64 n] w fun e w' => e = .returned (.agg #[.int .i64 (hiW n), .int .u64 (loW n)]) ∧ G w.heap.size w w' := by
  have e1 : n / 9223372036854775808 = hiW n := by unfold hiW; omega
  have e2 : IntKind.u64.wrap n = (loW n : Int) := by rw [IntKind.wrap_u64]; unfold loW; omega
  have E1 := Lib.hid e1
  have E2 := Lib.hid e2
  clear e1 e2
  go_enter Tryd.func50, Tryd.ntmps50
  go_wp2
  refine bodyPost_ret (v := .agg #[.int .i64 (n / 9223372036854775808), .int .u64 (IntKind.u64.wrap n)]) (by simp [results, Tryd.results50, go_sem]) rfl ⟨?_, ?_⟩
  · rw [E1.out, E2.out]
  · exact (G.refl _ w).alloc (Nat.le_refl _) _

set_option maxRecDepth 100000 in
theorem mul_x (a b : Int) (a0 : -9223372036854775808 ≤ a) (a1 : a ≤ 9223372036854775807) (b0 : -9223372036854775808 ≤ b) (b1 : b ≤ 9223372036854775807) (w : World) :
    Calls Tryd.prog 45 #[.int .i64 a, .int .i64 b] w fun e w' => e = .returned (.agg #[.int .i64 (hiW (a * b)), .int .u64 (loW (a * b))]) ∧ G w.heap.size w w' := by
  have hP : a.natAbs * b.natAbs ≤ 9223372036854775808 * 9223372036854775808 := Nat.mul_le_mul (by omega) (by omega)
  have hM := Tryd.bits_Mul64 a.natAbs b.natAbs (by omega) (by omega)
  have hab : a * b = (a.natAbs * b.natAbs : Nat) ∨ a * b = -((a.natAbs * b.natAbs : Nat) : Int) := by
    rw [← Int.natAbs_mul]; omega
  have hsame : (a < 0 ↔ b < 0) → a * b = (a.natAbs * b.natAbs : Nat) := by
    intro h
    by_cases ha : a < 0
    · have e1 : a = -(a.natAbs : Int) := by omega
      have e2 : b = -(b.natAbs : Int) := by have := h.1 ha; omega
      rw [Int.natCast_mul]
      conv => lhs; rw [e1, e2, Int.neg_mul_neg]
    · have e1 : a = (a.natAbs : Int) := by omega
      have e2 : b = (b.natAbs : Int) := by have : ¬ b < 0 := fun hb => ha (h.2 hb); omega
      rw [Int.natCast_mul]
      conv => lhs; rw [e1, e2]
  have hother : ¬ (a < 0 ↔ b < 0) → a * b = -((a.natAbs * b.natAbs : Nat) : Int) := by
    intro h
    by_cases ha : a < 0
    · have e1 : a = -(a.natAbs : Int) := by omega
      have e2 : b = (b.natAbs : Int) := by have : ¬ b < 0 := fun hb => h ⟨fun _ => hb, fun _ => ha⟩; omega
      rw [Int.natCast_mul]
      conv => lhs; rw [e1, e2, Int.neg_mul]
    · have e1 : a = (a.natAbs : Int) := by omega
      have e2 : b = -(b.natAbs : Int) := by
        have : b < 0 := by
          by_cases hb : b < 0
          · exact hb
          · exact absurd ⟨fun h => absurd h ha, fun h => absurd h hb⟩ h
        omega
      rw [Int.natCast_mul]
      conv => lhs; rw [e1, e2, Int.mul_neg]
  clear hab
  generalize a * b = m at hsame hother ⊢
  generalize a.natAbs * b.natAbs = Q at hP hM hsame hother
  obtain ⟨ph, hph⟩ : ∃ p : Nat, p = Q / 18446744073709551616 := ⟨_, rfl⟩
  obtain ⟨pl, hpl⟩ : ∃ p : Nat, p = Q % 18446744073709551616 := ⟨_, rfl⟩
  rw [← hph, ← hpl] at hM
  have hw : wrap64 (ph : Int) = ph := by rw [wrap64_eq]; omega
  have hq : Q = ph * 18446744073709551616 + pl := by omega
  have hpl2 : pl < 18446744073709551616 := by omega
  have hph2 : ph < 9223372036854775808 := by omega
  clear hph hpl
  subst hq
  have hz : m = 0 ∨ 0 < (ph : Int) * 18446744073709551616 + pl := by omega
  have fin : (a < 0 ↔ b < 0) → hiW m = (ph : Int) ∧ (loW m : Int) = pl := by
    intro h
    have := hsame h
    exact ⟨hiW_eq _ _ pl hpl2 (by omega), by rw [loW_eq m ph pl hpl2 (by omega)]⟩
  have Fin := Lib.hid fin
  have Hother := Lib.hid hother
  clear fin hsame hother hz
  have hA := size_any a a0 a1
  have hB := size_any b b0 b1
  have hT := fun W => turned_x ph pl (by omega) hpl2 (by omega) W
  generalize (a.natAbs : Int) = xa at hM hA
  generalize (b.natAbs : Int) = xb at hM hB
  have go : (((a < 0) = True ∧ (b < 0) = True) ∨ ((a < 0) = False ∧ (b < 0) = False)) ∨ (((a < 0) = True ∧ (b < 0) = False) ∨ ((a < 0) = False ∧ (b < 0) = True)) → Calls Tryd.prog 45 #[.int .i64 a, .int .i64 b] w fun e w' => e = .returned (.agg #[.int .i64 (hiW m), .int .u64 (loW m)]) ∧ G w.heap.size w w' := by
    clear a0 a1 b0 b1
    rintro ((⟨i1, i2⟩ | ⟨i1, i2⟩) | (⟨i1, i2⟩ | ⟨i1, i2⟩))
    · skip
      have F := Lib.hid (Fin.out (by simp [i1, i2]))
      go_enter Tryd.func45, Tryd.ntmps45
      go_wp2_with fail
      refine (hA _).mono ?_
      rintro e w1 ⟨rfl, rfl⟩
      go_wp2_with fail
      refine (hB _).mono ?_
      rintro e w1 ⟨rfl, rfl⟩
      go_wp2_with fail
      refine (hM _).mono ?_
      rintro e w1 ⟨rfl, rfl⟩
      go_wp2_with fail
      refine bodyPost_ret (v := .agg #[.int .i64 ph, .int .u64 pl]) (by simp [results, Tryd.results45, go_sem, hw]) rfl ⟨?_, ?_⟩
      · rw [F.out.1, F.out.2]
      · exact ((G.refl _ w).alloc (Nat.le_refl _) _).alloc (by simp) _
    · skip
      have F := Lib.hid (Fin.out (by simp [i1, i2]))
      go_enter Tryd.func45, Tryd.ntmps45
      go_wp2_with fail
      refine (hA _).mono ?_
      rintro e w1 ⟨rfl, rfl⟩
      go_wp2_with fail
      refine (hB _).mono ?_
      rintro e w1 ⟨rfl, rfl⟩
      go_wp2_with fail
      refine (hM _).mono ?_
      rintro e w1 ⟨rfl, rfl⟩
      go_wp2_with fail
      refine bodyPost_ret (v := .agg #[.int .i64 ph, .int .u64 pl]) (by simp [results, Tryd.results45, go_sem, hw]) rfl ⟨?_, ?_⟩
      · rw [F.out.1, F.out.2]
      · exact ((G.refl _ w).alloc (Nat.le_refl _) _).alloc (by simp) _
    · skip
      have hm := Hother.out (by simp [i1, i2])
      rw [Int.natCast_add, Int.natCast_mul] at hm
      have hm2 : m = -((ph : Int) * 18446744073709551616 + pl) := hm
      rw [← hm2] at hT
      clear hm hm2
      go_enter Tryd.func45, Tryd.ntmps45
      go_wp2_with fail
      refine (hA _).mono ?_
      rintro e w1 ⟨rfl, rfl⟩
      go_wp2_with fail
      refine (hB _).mono ?_
      rintro e w1 ⟨rfl, rfl⟩
      go_wp2_with fail
      refine (hM _).mono ?_
      rintro e w1 ⟨rfl, rfl⟩
      go_wp2_with fail
      refine (hT _).mono ?_
      rintro e w1 ⟨rfl, hb1⟩
      have c0 : w1.cell? ⟨w.heap.size, 0, none⟩ = some (.int .i64 0) := (hb1.cell (p := ⟨w.heap.size, 0, none⟩) (by simp; omega)).trans (by go_simp)
      have c1 : w1.cell? ⟨w.heap.size, 1, none⟩ = some (.int .u64 0) := (hb1.cell (p := ⟨w.heap.size, 1, none⟩) (by simp; omega)).trans (by go_simp)
      have f0 : ∀ o, w1.frozen? ⟨w.heap.size, o, none⟩ = false := fun o => (hb1.frozen (p := ⟨w.heap.size, o, none⟩) (by simp; omega)).trans (by go_simp)
      go_wp2_with fail
      refine bodyPost_ret (v := .agg #[.int .i64 (hiW m), .int .u64 (loW m)]) (by simp [results, Tryd.results45, go_sem, c0, c1]) rfl ⟨rfl, ?_⟩
      exact (((((G.refl _ w).alloc (Nat.le_refl _) _).alloc (by simp) _).trans (hb1.mono (by simp; omega))).setCell (p := ⟨w.heap.size, 0, none⟩) (Nat.le_refl _) _).setCell (p := ⟨w.heap.size, 1, none⟩) (Nat.le_refl _) _
    · skip
      have hm := Hother.out (by simp [i1, i2])
      rw [Int.natCast_add, Int.natCast_mul] at hm
      have hm2 : m = -((ph : Int) * 18446744073709551616 + pl) := hm
      rw [← hm2] at hT
      clear hm hm2
      go_enter Tryd.func45, Tryd.ntmps45
      go_wp2_with fail
      refine (hA _).mono ?_
      rintro e w1 ⟨rfl, rfl⟩
      go_wp2_with fail
      refine (hB _).mono ?_
      rintro e w1 ⟨rfl, rfl⟩
      go_wp2_with fail
      refine (hM _).mono ?_
      rintro e w1 ⟨rfl, rfl⟩
      go_wp2_with fail
      refine (hT _).mono ?_
      rintro e w1 ⟨rfl, hb1⟩
      have c0 : w1.cell? ⟨w.heap.size, 0, none⟩ = some (.int .i64 0) := (hb1.cell (p := ⟨w.heap.size, 0, none⟩) (by simp; omega)).trans (by go_simp)
      have c1 : w1.cell? ⟨w.heap.size, 1, none⟩ = some (.int .u64 0) := (hb1.cell (p := ⟨w.heap.size, 1, none⟩) (by simp; omega)).trans (by go_simp)
      have f0 : ∀ o, w1.frozen? ⟨w.heap.size, o, none⟩ = false := fun o => (hb1.frozen (p := ⟨w.heap.size, o, none⟩) (by simp; omega)).trans (by go_simp)
      go_wp2_with fail
      refine bodyPost_ret (v := .agg #[.int .i64 (hiW m), .int .u64 (loW m)]) (by simp [results, Tryd.results45, go_sem, c0, c1]) rfl ⟨rfl, ?_⟩
      exact (((((G.refl _ w).alloc (Nat.le_refl _) _).alloc (by simp) _).trans (hb1.mono (by simp; omega))).setCell (p := ⟨w.heap.size, 0, none⟩) (Nat.le_refl _) _).setCell (p := ⟨w.heap.size, 1, none⟩) (Nat.le_refl _) _
  by_cases ha : a < 0
  · by_cases hb : b < 0
    · exact go (.inl (.inl ⟨eq_true ha, eq_true hb⟩))
    · exact go (.inr (.inl ⟨eq_true ha, eq_false hb⟩))
  · by_cases hb : b < 0
    · exact go (.inr (.inr ⟨eq_false ha, eq_true hb⟩))
    · exact go (.inl (.inr ⟨eq_false ha, eq_false hb⟩))

set_option maxRecDepth 100000 in
set_option maxHeartbeats 1000000 in
theorem add_x (h1 : Int) (l1 : Nat) (h2 : Int) (l2 : Nat) (hh1 : -9223372036854775808 ≤ h1 ∧ h1 ≤ 9223372036854775807) (hl1 : l1 < 18446744073709551616) (hh2 : -9223372036854775808 ≤ h2 ∧ h2 ≤ 9223372036854775807) (hl2 : l2 < 18446744073709551616)
    (hm : is128 (h1 * 18446744073709551616 + l1 + (h2 * 18446744073709551616 + l2))) (w : World) :
    Calls Tryd.prog 44 #[.agg #[.int .i64 h1, .int .u64 l1], .agg #[.int .i64 h2, .int .u64 l2]] w fun e w' => e = .returned (.tuple #[.agg #[.int .i64 (hiW (h1 * 18446744073709551616 + l1 + (h2 * 18446744073709551616 + l2))), .int .u64 (loW (h1 * 18446744073709551616 + l1 + (h2 * 18446744073709551616 + l2)))], .int .i64 0]) ∧ G w.heap.size w w' := by
  have hp := plus_x h1 l1 h2 l2 hh1 hl1 hh2 hl2 hm
  have hz : ∀ m : Int, m = h1 * 18446744073709551616 + l1 + (h2 * 18446744073709551616 + l2) → (h1 < 0 → h2 < 0 → hiW m < 0) ∧ (¬ h1 < 0 → ¬ h2 < 0 → 0 ≤ hiW m) := by
    unfold hiW
    intro m hm
    constructor <;> intro i1 i2 <;> omega
  have hz2 := hz _ rfl
  clear hz
  generalize h1 * 18446744073709551616 + l1 + (h2 * 18446744073709551616 + l2) = m at hp hz2 hm ⊢
  generalize hiW m = zh at hp hz2 ⊢
  generalize loW m = zl at hp ⊢
  have go : ∀ (Q : ((h1 < 0) = True ∧ (h2 < 0) = True ∧ (zh < 0) = True) ∨ ((h1 < 0) = True ∧ (h2 < 0) = False) ∨ ((h1 < 0) = False ∧ (h2 < 0) = True) ∨ ((h1 < 0) = False ∧ (h2 < 0) = False ∧ (zh < 0) = False)), Calls Tryd.prog 44 #[.agg #[.int .i64 h1, .int .u64 l1], .agg #[.int .i64 h2, .int .u64 l2]] w fun e w' => e = .returned (.tuple #[.agg #[.int .i64 zh, .int .u64 zl], .int .i64 0]) ∧ G w.heap.size w w' := by
    intro Q
    clear hz2 hm hh1 hh2 hl1 hl2
    rcases Q with ⟨i1, i2, i3⟩ | ⟨i1, i2⟩ | ⟨i1, i2⟩ | ⟨i1, i2, i3⟩
    all_goals
      go_enter Tryd.func44, Tryd.ntmps44
      go_wp2_with fail
      refine (hp _).mono ?_
      rintro e w1 ⟨rfl, hb1⟩
      have z1 := hb1.size
      simp at z1
      have a0 : w1.cell? ⟨w.heap.size, 0, none⟩ = some (.int .i64 h1) := (hb1.cell (p := ⟨w.heap.size, 0, none⟩) (by simp; omega)).trans (by go_simp)
      have b0 : w1.cell? ⟨w.heap.size + 1, 0, none⟩ = some (.int .i64 h2) := (hb1.cell (p := ⟨w.heap.size + 1, 0, none⟩) (by simp)).trans (by go_simp)
      have r0 : w1.cell? ⟨w.heap.size + 1 + 1, 0, none⟩ = some (.int .i64 0) := (hb1.cell (p := ⟨w.heap.size + 1 + 1, 0, none⟩) (by simp)).trans (by go_simp)
      have r1 : w1.cell? ⟨w.heap.size + 1 + 1, 1, none⟩ = some (.int .u64 0) := (hb1.cell (p := ⟨w.heap.size + 1 + 1, 1, none⟩) (by simp)).trans (by go_simp)
      have a0' : (w1.alloc (.cells #[.int .i64 zh, .int .u64 zl] 83)).cell? ⟨w.heap.size, 0, none⟩ = some (.int .i64 h1) := (((G.refl _ w1).alloc (Nat.le_refl _) _).cell (p := ⟨w.heap.size, 0, none⟩) (show w.heap.size < w1.heap.size by omega)).trans a0
      have b0' : (w1.alloc (.cells #[.int .i64 zh, .int .u64 zl] 83)).cell? ⟨w.heap.size + 1, 0, none⟩ = some (.int .i64 h2) := (((G.refl _ w1).alloc (Nat.le_refl _) _).cell (p := ⟨w.heap.size + 1, 0, none⟩) (show w.heap.size + 1 < w1.heap.size by omega)).trans b0
      have r0' : (w1.alloc (.cells #[.int .i64 zh, .int .u64 zl] 83)).cell? ⟨w.heap.size + 1 + 1, 0, none⟩ = some (.int .i64 0) := (((G.refl _ w1).alloc (Nat.le_refl _) _).cell (p := ⟨w.heap.size + 1 + 1, 0, none⟩) (show w.heap.size + 1 + 1 < w1.heap.size by omega)).trans r0
      have r1' : (w1.alloc (.cells #[.int .i64 zh, .int .u64 zl] 83)).cell? ⟨w.heap.size + 1 + 1, 1, none⟩ = some (.int .u64 0) := (((G.refl _ w1).alloc (Nat.le_refl _) _).cell (p := ⟨w.heap.size + 1 + 1, 1, none⟩) (show w.heap.size + 1 + 1 < w1.heap.size by omega)).trans r1
      have f0 : ∀ o, (w1.alloc (.cells #[.int .i64 zh, .int .u64 zl] 83)).frozen? ⟨w.heap.size + 1 + 1, o, none⟩ = false := fun o => (((G.refl _ w1).alloc (Nat.le_refl _) _).frozen (p := ⟨w.heap.size + 1 + 1, o, none⟩) (show w.heap.size + 1 + 1 < w1.heap.size by omega)).trans ((hb1.frozen (p := ⟨w.heap.size + 1 + 1, o, none⟩) (by simp)).trans (by go_simp))
      clear a0 b0 r0 r1
      go_wp2_with fail
      refine bodyPost_ret (v := .tuple #[.agg #[.int .i64 zh, .int .u64 zl], .int .i64 0]) (by simp [results, Tryd.results44, go_sem, r0', r1']) rfl ⟨rfl, ?_⟩
      exact ((((((G.refl _ w).alloc (Nat.le_refl _) _).alloc (by simp) _).alloc (by simp; omega) _).trans ((hb1.mono (by simp; omega)).alloc (by omega) _)).setCell (p := ⟨w.heap.size + 1 + 1, 0, none⟩) (by show w.heap.size ≤ w.heap.size + 1 + 1; omega) _).setCell (p := ⟨w.heap.size + 1 + 1, 1, none⟩) (by show w.heap.size ≤ w.heap.size + 1 + 1; omega) _
  by_cases i1 : h1 < 0
  · by_cases i2 : h2 < 0
    · exact go (.inl ⟨eq_true i1, eq_true i2, eq_true (hz2.1 i1 i2)⟩)
    · exact go (.inr (.inl ⟨eq_true i1, eq_false i2⟩))
  · by_cases i2 : h2 < 0
    · exact go (.inr (.inr (.inl ⟨eq_false i1, eq_true i2⟩)))
    · exact go (.inr (.inr (.inr ⟨eq_false i1, eq_false i2, eq_false (by have := hz2.2 i1 i2; omega)⟩)))
end Go.Proofs.YtfcbdjjpmgmpoaaDoor

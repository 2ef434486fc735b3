import Derived.Test.YtfcbdjjpmgmpoaaDoorW4
import Derived.Deep.Cut
namespace Go.Proofs.YtfcbdjjpmgmpoaaDoor
open Go.RowKit Go.Mat

/-- Behind the drawn region: the block was laid behind the call. -/
theorem relA {w wr w' : World} {a b c : Nat} (hsz : w.heap.size + 1 + 1 + 1 ≤ wr.heap.size) (hG : G w.heap.size w wr) (hs : wr.heap.size ≤ w'.heap.size)
    (e0 : w'.cell? ⟨w.heap.size + 1, 0, none⟩ = some (.int .i64 0)) (e1 : w'.cell? ⟨w.heap.size + 1, 1, none⟩ = some (.int .u64 0)) (ez : ∀ o, w'.frozen? ⟨w.heap.size + 1, o, none⟩ = false) (hb : G wr.heap.size wr w') :
    ∃ B, Value.pointer (some ⟨w'.heap.size, 0, none⟩) = .pointer (some ⟨B, 0, none⟩) ∧ Value.int .u64 (c : Int) = .int .u64 c ∧ w.heap.size + 1 < B ∧ B < (w'.alloc (.cells #[.int .i64 a, .int .u64 b] 83)).heap.size ∧ (w'.alloc (.cells #[.int .i64 a, .int .u64 b] 83)).cell? ⟨B, 0, none⟩ = some (.int .i64 a) ∧ (w'.alloc (.cells #[.int .i64 a, .int .u64 b] 83)).cell? ⟨B, 1, none⟩ = some (.int .u64 b) ∧ (∀ o, (w'.alloc (.cells #[.int .i64 a, .int .u64 b] 83)).frozen? ⟨B, o, none⟩ = false) ∧
      (w'.alloc (.cells #[.int .i64 a, .int .u64 b] 83)).cell? ⟨w.heap.size + 1, 0, none⟩ = some (.int .i64 0) ∧ (w'.alloc (.cells #[.int .i64 a, .int .u64 b] 83)).cell? ⟨w.heap.size + 1, 1, none⟩ = some (.int .u64 0) ∧ (∀ o, (w'.alloc (.cells #[.int .i64 a, .int .u64 b] 83)).frozen? ⟨w.heap.size + 1, o, none⟩ = false) ∧ G w.heap.size w (w'.alloc (.cells #[.int .i64 a, .int .u64 b] 83)) := by
  have k := (G.refl w'.heap.size w').alloc (Nat.le_refl _) (.cells #[.int .i64 a, .int .u64 b] 83)
  have hlt : w.heap.size + 1 < w'.heap.size := by omega
  exact ⟨w'.heap.size, rfl, rfl, hlt, by simp, by simp [World.cell?, World.alloc, -World.alloc_eq], by simp [World.cell?, World.alloc, -World.alloc_eq], fun o => by simp [World.frozen?, World.alloc, -World.alloc_eq],
    (k.cell (p := ⟨w.heap.size + 1, 0, none⟩) hlt).trans e0, (k.cell (p := ⟨w.heap.size + 1, 1, none⟩) hlt).trans e1, fun o => (k.frozen (p := ⟨w.heap.size + 1, o, none⟩) hlt).trans (ez o), (hG.trans (hb.mono (by omega))).alloc (by omega) _⟩

/-- Behind the drawn region: the block was laid before the call. -/
theorem relB {w wr w' : World} {a b c : Nat} (hsz : w.heap.size + 1 + 1 + 1 ≤ wr.heap.size) (hG : G w.heap.size w wr) (hs : wr.heap.size + 1 ≤ w'.heap.size)
    (c0 : w'.cell? ⟨wr.heap.size, 0, none⟩ = some (.int .i64 0)) (c1 : w'.cell? ⟨wr.heap.size, 1, none⟩ = some (.int .u64 0)) (fz : ∀ o, w'.frozen? ⟨wr.heap.size, o, none⟩ = false)
    (e0 : w'.cell? ⟨w.heap.size + 1, 0, none⟩ = some (.int .i64 0)) (e1 : w'.cell? ⟨w.heap.size + 1, 1, none⟩ = some (.int .u64 0)) (ez : ∀ o, w'.frozen? ⟨w.heap.size + 1, o, none⟩ = false) (hb : G wr.heap.size wr w') :
    ∃ B, Value.pointer (some ⟨wr.heap.size, 0, none⟩) = .pointer (some ⟨B, 0, none⟩) ∧ Value.int .u64 (c : Int) = .int .u64 c ∧ w.heap.size + 1 < B ∧ B < ((w'.setCell ⟨wr.heap.size, 0, none⟩ (.int .i64 a)).setCell ⟨wr.heap.size, 1, none⟩ (.int .u64 b)).heap.size ∧ ((w'.setCell ⟨wr.heap.size, 0, none⟩ (.int .i64 a)).setCell ⟨wr.heap.size, 1, none⟩ (.int .u64 b)).cell? ⟨B, 0, none⟩ = some (.int .i64 a) ∧ ((w'.setCell ⟨wr.heap.size, 0, none⟩ (.int .i64 a)).setCell ⟨wr.heap.size, 1, none⟩ (.int .u64 b)).cell? ⟨B, 1, none⟩ = some (.int .u64 b) ∧ (∀ o, ((w'.setCell ⟨wr.heap.size, 0, none⟩ (.int .i64 a)).setCell ⟨wr.heap.size, 1, none⟩ (.int .u64 b)).frozen? ⟨B, o, none⟩ = false) ∧
      ((w'.setCell ⟨wr.heap.size, 0, none⟩ (.int .i64 a)).setCell ⟨wr.heap.size, 1, none⟩ (.int .u64 b)).cell? ⟨w.heap.size + 1, 0, none⟩ = some (.int .i64 0) ∧ ((w'.setCell ⟨wr.heap.size, 0, none⟩ (.int .i64 a)).setCell ⟨wr.heap.size, 1, none⟩ (.int .u64 b)).cell? ⟨w.heap.size + 1, 1, none⟩ = some (.int .u64 0) ∧ (∀ o, ((w'.setCell ⟨wr.heap.size, 0, none⟩ (.int .i64 a)).setCell ⟨wr.heap.size, 1, none⟩ (.int .u64 b)).frozen? ⟨w.heap.size + 1, o, none⟩ = false) ∧ G w.heap.size w ((w'.setCell ⟨wr.heap.size, 0, none⟩ (.int .i64 a)).setCell ⟨wr.heap.size, 1, none⟩ (.int .u64 b)) := by
  have k := ((G.refl wr.heap.size w').setCell (p := ⟨wr.heap.size, 0, none⟩) (Nat.le_refl _) (.int .i64 a)).setCell (p := ⟨wr.heap.size, 1, none⟩) (Nat.le_refl _) (.int .u64 b)
  have hlt : w.heap.size + 1 < wr.heap.size := by omega
  refine ⟨wr.heap.size, rfl, rfl, hlt, by simp; omega, by go_simp, by go_simp, fun o => by go_simp,
    (k.cell (p := ⟨w.heap.size + 1, 0, none⟩) hlt).trans e0, (k.cell (p := ⟨w.heap.size + 1, 1, none⟩) hlt).trans e1, fun o => (k.frozen (p := ⟨w.heap.size + 1, o, none⟩) hlt).trans (ez o), ?_⟩
  exact ((hG.trans (hb.mono (by omega))).setCell (p := ⟨wr.heap.size, 0, none⟩) (show w.heap.size ≤ wr.heap.size by omega) _).setCell (p := ⟨wr.heap.size, 1, none⟩) (show w.heap.size ≤ wr.heap.size by omega) _

set_option maxRecDepth 100000 in
set_option maxHeartbeats 8000000 in
/-- wide.Div by 65536 of a number below 0: so far as the drawn region with the parts. -/
theorem div_neg_x (h A2 ra : Int) (l H L a b c B2 rb : Nat) (hneg : (h < 0) = True) (w : World)
    (hT2 : ∀ W, Calls Tryd.prog 46 #[.agg #[.int .i64 a, .int .u64 b]] W fun e w' => e = .returned (.agg #[.int .i64 A2, .int .u64 B2]) ∧ G W.heap.size W w')
    (hP2 : 0 < c → ∀ W, Calls Tryd.prog 49 #[.agg #[.int .i64 A2, .int .u64 B2], .agg #[.int .i64 (-1), .int .u64 18446744073709551615]] W fun e w' => e = .returned (.agg #[.int .i64 ra, .int .u64 rb]) ∧ G W.heap.size W w')
    (hc0 : c = 0 → ra = A2 ∧ rb = B2)
    (hT : ∀ W, Calls Tryd.prog 46 #[.agg #[.int .i64 h, .int .u64 l]] W fun e w' => e = .returned (.agg #[.int .i64 H, .int .u64 L]) ∧ G W.heap.size W w')
    (hP : ∀ W, Calls Tryd.prog 47 #[.agg #[.int .i64 H, .int .u64 L], .int .u64 65536] W fun e w' => e = .returned (.tuple #[.agg #[.int .i64 a, .int .u64 b], .int .u64 c]) ∧ G W.heap.size W w') :
    Calls Tryd.prog 38 #[.agg #[.int .i64 h, .int .u64 l], .int .i64 65536] w fun e w' => ∃ r : Int, e = .returned (.tuple #[.agg #[.int .i64 ra, .int .u64 rb], .int .i64 r, .int .i64 0]) ∧ G w.heap.size w w' := by
  have hS : ∀ W, Calls Tryd.prog 48 #[.int .i64 65536] W fun e w' => e = .returned (.int .u64 65536) ∧ W = w' := fun W => size_any 65536 (by decide) (by decide) W
  go_enter Tryd.func38, Tryd.ntmps38
  go_wp2_with fail
  refine (hT _).mono ?_
  rintro e w1 ⟨rfl, hb1⟩
  have z1 := hb1.size
  simp at z1
  have k0 : w1.cell? ⟨w.heap.size + 1 + 1, 0, none⟩ = some (.int .i64 h) := (hb1.cell (p := ⟨w.heap.size + 1 + 1, 0, none⟩) (by simp; try omega)).trans (by go_simp)
  have k1 : w1.cell? ⟨w.heap.size + 1 + 1, 1, none⟩ = some (.int .u64 l) := (hb1.cell (p := ⟨w.heap.size + 1 + 1, 1, none⟩) (by simp; try omega)).trans (by go_simp)
  have kz : ∀ o, w1.frozen? ⟨w.heap.size + 1 + 1, o, none⟩ = false := fun o => (hb1.frozen (p := ⟨w.heap.size + 1 + 1, o, none⟩) (by simp; try omega)).trans (by go_simp)
  go_upto_region 7 with fail
  obtain ⟨wr, hwr⟩ : ∃ wr : World, wr = (w1.setCell ⟨w.heap.size + 1 + 1, 0, none⟩ (.int .i64 H)).setCell ⟨w.heap.size + 1 + 1, 1, none⟩ (.int .u64 L) := ⟨_, rfl⟩
  have hG : G w.heap.size w wr := by
    rw [hwr]
    refine G.setCell (G.setCell ?_ (p := ⟨w.heap.size + 1 + 1, 0, none⟩) (by show w.heap.size ≤ w.heap.size + 1 + 1; omega) _) (p := ⟨w.heap.size + 1 + 1, 1, none⟩) (by show w.heap.size ≤ w.heap.size + 1 + 1; omega) _
    refine G.trans ?_ (hb1.mono (by simp; omega))
    exact ((((G.refl _ w).alloc (Nat.le_refl _) _).alloc (by simp) _).alloc (by simp; omega) _)
  have hsz : w.heap.size + 1 + 1 + 1 ≤ wr.heap.size := by rw [hwr]; simp; omega
  have t0 : wr.cell? ⟨w.heap.size + 1 + 1, 0, none⟩ = some (.int .i64 H) := by rw [hwr]; go_simp
  have t1 : wr.cell? ⟨w.heap.size + 1 + 1, 1, none⟩ = some (.int .u64 L) := by rw [hwr]; go_simp
  have o0 : w1.cell? ⟨w.heap.size + 1, 0, none⟩ = some (.int .i64 0) := (hb1.cell (p := ⟨w.heap.size + 1, 0, none⟩) (by simp; try omega)).trans (by go_simp)
  have o1 : w1.cell? ⟨w.heap.size + 1, 1, none⟩ = some (.int .u64 0) := (hb1.cell (p := ⟨w.heap.size + 1, 1, none⟩) (by simp; try omega)).trans (by go_simp)
  have oz : ∀ o, w1.frozen? ⟨w.heap.size + 1, o, none⟩ = false := fun o => (hb1.frozen (p := ⟨w.heap.size + 1, o, none⟩) (by simp; try omega)).trans (by go_simp)
  have r0 : wr.cell? ⟨w.heap.size + 1, 0, none⟩ = some (.int .i64 0) := by rw [hwr]; go_simp
  have r1 : wr.cell? ⟨w.heap.size + 1, 1, none⟩ = some (.int .u64 0) := by rw [hwr]; go_simp
  have rz : ∀ o, wr.frozen? ⟨w.heap.size + 1, o, none⟩ = false := fun o => by rw [hwr]; go_simp
  rw [← hwr]
  clear hwr k0 k1 kz o0 o1 oz hb1 z1
  go_cut [9, 10] from 11 (fun s9 s10 wx => ∃ B, s9 = .pointer (some ⟨B, 0, none⟩) ∧ s10 = .int .u64 c ∧ w.heap.size + 1 < B ∧ B < wx.heap.size ∧ wx.cell? ⟨B, 0, none⟩ = some (.int .i64 a) ∧ wx.cell? ⟨B, 1, none⟩ = some (.int .u64 b) ∧ (∀ o, wx.frozen? ⟨B, o, none⟩ = false) ∧
    wx.cell? ⟨w.heap.size + 1, 0, none⟩ = some (.int .i64 0) ∧ wx.cell? ⟨w.heap.size + 1, 1, none⟩ = some (.int .u64 0) ∧ (∀ o, wx.frozen? ⟨w.heap.size + 1, o, none⟩ = false) ∧ G w.heap.size w wx)
  case first =>
    have t0w : ∀ o, (wr.alloc o).cell? ⟨w.heap.size + 1 + 1, 0, none⟩ = some (.int .i64 H) := fun o => (((G.refl _ wr).alloc (Nat.le_refl _) o).cell (p := ⟨w.heap.size + 1 + 1, 0, none⟩) (show w.heap.size + 1 + 1 < wr.heap.size by omega)).trans t0
    have t1w : ∀ o, (wr.alloc o).cell? ⟨w.heap.size + 1 + 1, 1, none⟩ = some (.int .u64 L) := fun o => (((G.refl _ wr).alloc (Nat.le_refl _) o).cell (p := ⟨w.heap.size + 1 + 1, 1, none⟩) (show w.heap.size + 1 + 1 < wr.heap.size by omega)).trans t1
    have r0w : ∀ o, (wr.alloc o).cell? ⟨w.heap.size + 1, 0, none⟩ = some (.int .i64 0) := fun o => (((G.refl _ wr).alloc (Nat.le_refl _) o).cell (p := ⟨w.heap.size + 1, 0, none⟩) (show w.heap.size + 1 < wr.heap.size by omega)).trans r0
    have r1w : ∀ o, (wr.alloc o).cell? ⟨w.heap.size + 1, 1, none⟩ = some (.int .u64 0) := fun o => (((G.refl _ wr).alloc (Nat.le_refl _) o).cell (p := ⟨w.heap.size + 1, 1, none⟩) (show w.heap.size + 1 < wr.heap.size by omega)).trans r1
    have rzw : ∀ o i, (wr.alloc o).frozen? ⟨w.heap.size + 1, i, none⟩ = false := fun o i => (((G.refl _ wr).alloc (Nat.le_refl _) o).frozen (p := ⟨w.heap.size + 1, i, none⟩) (show w.heap.size + 1 < wr.heap.size by omega)).trans (rz i)
    clear hT hT2 hP2 hc0
    go_region_with (first
      | (go_at_call 48; refine (hS _).mono ?_; rintro e w' ⟨rfl, rfl⟩)
      | (go_at_call 47; refine (hP _).mono ?_; rintro e w' ⟨rfl, hb⟩
         have z1 := hb.size
         simp at z1
         (have c0 := own_cell_d hb 0; have c1 := own_cell_d hb 1; have fz := own_frozen_d hb; simp at c0 c1 fz))
      | (go_at_call 47; refine (hP _).mono ?_; rintro e w' ⟨rfl, hb⟩
         have z1 := hb.size
         simp at z1))
    all_goals go_wp2_with fail
    all_goals go_meet
    all_goals
      case rel =>
        have e0 : w'.cell? ⟨w.heap.size + 1, 0, none⟩ = some (.int .i64 0) := (hb.cell (p := ⟨w.heap.size + 1, 0, none⟩) (by simp; omega)).trans (by go_simp)
        have e1 : w'.cell? ⟨w.heap.size + 1, 1, none⟩ = some (.int .u64 0) := (hb.cell (p := ⟨w.heap.size + 1, 1, none⟩) (by simp; omega)).trans (by go_simp)
        have ez : ∀ o, w'.frozen? ⟨w.heap.size + 1, o, none⟩ = false := fun o => (hb.frozen (p := ⟨w.heap.size + 1, o, none⟩) (by simp; omega)).trans (by go_simp)
        first
          | exact relA hsz hG hb.size e0 e1 ez ((G.refl _ wr).drew.trans hb)
          | (have zz : wr.heap.size + 1 ≤ w'.heap.size := z1
             exact relB hsz hG zz c0 c1 fz e0 e1 ez (((G.refl _ wr).alloc (Nat.le_refl _) _).drew.trans (hb.mono (by simp))))
  case rest =>
    obtain ⟨B, rfl, rfl, hB1, hB2, q0, q1, qz, p0, p1, pz, hGx⟩ := hcut
    go_wp2_with fail
    refine (hT2 _).mono ?_
    rintro e w3 ⟨rfl, hb3⟩
    have z3 := hb3.size
    have m0 : w3.cell? ⟨B, 0, none⟩ = some (.int .i64 a) := (hb3.cell (p := ⟨B, 0, none⟩) hB2).trans q0
    have m1 : w3.cell? ⟨B, 1, none⟩ = some (.int .u64 b) := (hb3.cell (p := ⟨B, 1, none⟩) hB2).trans q1
    have mz : ∀ o, w3.frozen? ⟨B, o, none⟩ = false := fun o => (hb3.frozen (p := ⟨B, o, none⟩) hB2).trans (qz o)
    have n0 : w3.cell? ⟨w.heap.size + 1, 0, none⟩ = some (.int .i64 0) := (hb3.cell (p := ⟨w.heap.size + 1, 0, none⟩) (show w.heap.size + 1 < wc.heap.size by omega)).trans p0
    have n1 : w3.cell? ⟨w.heap.size + 1, 1, none⟩ = some (.int .u64 0) := (hb3.cell (p := ⟨w.heap.size + 1, 1, none⟩) (show w.heap.size + 1 < wc.heap.size by omega)).trans p1
    have nz : ∀ o, w3.frozen? ⟨w.heap.size + 1, o, none⟩ = false := fun o => (hb3.frozen (p := ⟨w.heap.size + 1, o, none⟩) (show w.heap.size + 1 < wc.heap.size by omega)).trans (pz o)
    have hne : B ≠ w.heap.size + 1 := by omega
    have hne' : w.heap.size + 1 ≠ B := by omega
    have hGy : G w.heap.size w w3 := hGx.trans (hb3.mono (by omega))
    clear hb3 q0 q1 qz p0 p1 pz hGx hT hP hT2
    by_cases hcz : c = 0
    · obtain ⟨rfl, rfl⟩ := hc0 hcz
      subst hcz
      clear hP2 hc0
      go_wp2_with fail
      refine bodyPost_ret (v := .tuple #[.agg #[.int .i64 ra, .int .u64 rb], .int .i64 0, .int .i64 0]) (by simp [results, Tryd.results38, go_sem, n0, n1, hne, hne']) rfl ⟨_, rfl, ?_⟩
      refine G.setCell (G.setCell (G.setCell (G.setCell hGy (p := ⟨B, 0, none⟩) (by show w.heap.size ≤ B; omega) _) (p := ⟨B, 1, none⟩) (by show w.heap.size ≤ B; omega) _) (p := ⟨w.heap.size + 1, 0, none⟩) (by show w.heap.size ≤ w.heap.size + 1; omega) _) (p := ⟨w.heap.size + 1, 1, none⟩) (by show w.heap.size ≤ w.heap.size + 1; omega) _
    · have hcp : (0 < (c : Int)) = True := eq_true (by omega)
      have hP3 := hP2 (by omega)
      clear hP2 hc0
      go_wp2_with fail
      have hO := fun W => of_x (-1) (by decide) (by decide) W
      have eO : hiW (-1) = -1 ∧ loW (-1) = 18446744073709551615 := ⟨by decide, by decide⟩
      rw [eO.1, eO.2] at hO
      clear eO
      go_region_with (first
        | (go_at_call 48; refine (hS _).mono ?_; rintro e w' ⟨rfl, rfl⟩)
        | (go_at_call 50; refine (hO _).mono ?_; rintro e w5 ⟨rfl, hb5⟩
           have z5 := hb5.size
           (try simp at z5)
           have x0 : w5.cell? ⟨B, 0, none⟩ = some (.int .i64 A2) := (hb5.cell (p := ⟨B, 0, none⟩) (by first | omega | (simp; omega))).trans (by go_simp)
           have x1 : w5.cell? ⟨B, 1, none⟩ = some (.int .u64 B2) := (hb5.cell (p := ⟨B, 1, none⟩) (by first | omega | (simp; omega))).trans (by go_simp)
           have xz : ∀ o, w5.frozen? ⟨B, o, none⟩ = false := fun o => (hb5.frozen (p := ⟨B, o, none⟩) (by first | omega | (simp; omega))).trans (by go_simp)
           have y0 : w5.cell? ⟨w.heap.size + 1, 0, none⟩ = some (.int .i64 0) := (hb5.cell (p := ⟨w.heap.size + 1, 0, none⟩) (by first | omega | (simp; omega))).trans (by go_simp)
           have y1 : w5.cell? ⟨w.heap.size + 1, 1, none⟩ = some (.int .u64 0) := (hb5.cell (p := ⟨w.heap.size + 1, 1, none⟩) (by first | omega | (simp; omega))).trans (by go_simp)
           have yz : ∀ o, w5.frozen? ⟨w.heap.size + 1, o, none⟩ = false := fun o => (hb5.frozen (p := ⟨w.heap.size + 1, o, none⟩) (by first | omega | (simp; omega))).trans (by go_simp))
        | (go_at_call 49; refine (hP3 _).mono ?_; rintro e w6 ⟨rfl, hb6⟩
           have z6 := hb6.size
           (try simp at z6)
           have xx0 : w6.cell? ⟨B, 0, none⟩ = some (.int .i64 A2) := (hb6.cell (p := ⟨B, 0, none⟩) (by first | omega | (simp; omega))).trans (by go_simp)
           have xx1 : w6.cell? ⟨B, 1, none⟩ = some (.int .u64 B2) := (hb6.cell (p := ⟨B, 1, none⟩) (by first | omega | (simp; omega))).trans (by go_simp)
           have xxz : ∀ o, w6.frozen? ⟨B, o, none⟩ = false := fun o => (hb6.frozen (p := ⟨B, o, none⟩) (by first | omega | (simp; omega))).trans (by go_simp)
           have yy0 : w6.cell? ⟨w.heap.size + 1, 0, none⟩ = some (.int .i64 0) := (hb6.cell (p := ⟨w.heap.size + 1, 0, none⟩) (by first | omega | (simp; omega))).trans (by go_simp)
           have yy1 : w6.cell? ⟨w.heap.size + 1, 1, none⟩ = some (.int .u64 0) := (hb6.cell (p := ⟨w.heap.size + 1, 1, none⟩) (by first | omega | (simp; omega))).trans (by go_simp)
           have yyz : ∀ o, w6.frozen? ⟨w.heap.size + 1, o, none⟩ = false := fun o => (hb6.frozen (p := ⟨w.heap.size + 1, o, none⟩) (by first | omega | (simp; omega))).trans (by go_simp)))
      all_goals go_wp2_with fail
      all_goals
        refine bodyPost_ret (v := .tuple #[.agg #[.int .i64 ra, .int .u64 rb], .int .i64 (wrap64 (IntKind.u64.wrap (65536 - (c : Int)))), .int .i64 0]) (by simp [results, Tryd.results38, go_sem, yy0, yy1, hne, hne']) rfl ⟨_, rfl, ?_⟩
        refine G.setCell (G.setCell (G.setCell (G.setCell ?_ (p := ⟨B, 0, none⟩) (by show w.heap.size ≤ B; omega) _) (p := ⟨B, 1, none⟩) (by show w.heap.size ≤ B; omega) _) (p := ⟨w.heap.size + 1, 0, none⟩) (by show w.heap.size ≤ w.heap.size + 1; omega) _) (p := ⟨w.heap.size + 1, 1, none⟩) (by show w.heap.size ≤ w.heap.size + 1; omega) _
        refine G.trans ?_ (hb6.mono (by first | omega | (simp; omega)))
        refine G.trans ?_ (hb5.mono (by first | omega | (simp; omega)))
        exact (G.setCell (G.setCell hGy (p := ⟨B, 0, none⟩) (by show w.heap.size ≤ B; omega) _) (p := ⟨B, 1, none⟩) (by show w.heap.size ≤ B; omega) _).drew
end Go.Proofs.YtfcbdjjpmgmpoaaDoor

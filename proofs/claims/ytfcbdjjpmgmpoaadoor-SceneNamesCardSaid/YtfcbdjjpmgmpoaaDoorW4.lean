import Derived.Test.YtfcbdjjpmgmpoaaDoorW3
namespace Go.Proofs.YtfcbdjjpmgmpoaaDoor
open Go.RowKit Go.Mat

theorem q_pos (h l : Nat) (hl : l < 18446744073709551616) : (hiW (((h : Int) * 18446744073709551616 + l) / 65536) = ((h / 65536 : Nat) : Int)) ∧ loW (((h : Int) * 18446744073709551616 + l) / 65536) = (h % 65536 * 18446744073709551616 + l) / 65536 := by
  have e : ((h : Int) * 18446744073709551616 + l) / 65536 = ((h / 65536 : Nat) : Int) * 18446744073709551616 + (((h % 65536 * 18446744073709551616 + l) / 65536 : Nat) : Int) := by omega
  exact ⟨hiW_eq _ _ _ (by omega) e, loW_eq _ _ _ (by omega) e⟩

theorem own_cell {W w' : World} {cs : Array Value} {t : TypeId} (hb : G (W.alloc (.cells cs t)).heap.size (W.alloc (.cells cs t)) w') (i : Nat) : w'.cell? ⟨W.heap.size, i, none⟩ = cs[i]? :=
  (hb.cell (p := ⟨W.heap.size, i, none⟩) (by simp)).trans (by simp [World.cell?, World.alloc, -World.alloc_eq])
theorem own_frozen {W w' : World} {cs : Array Value} {t : TypeId} (hb : G (W.alloc (.cells cs t)).heap.size (W.alloc (.cells cs t)) w') (i : Nat) : w'.frozen? ⟨W.heap.size, i, none⟩ = false :=
  (hb.frozen (p := ⟨W.heap.size, i, none⟩) (by simp)).trans (by simp [World.frozen?, World.alloc, -World.alloc_eq])

theorem own_cell_d {W w' : World} {cs : Array Value} {t : TypeId} (hb : G (W.alloc (.cells cs t)).drew.heap.size (W.alloc (.cells cs t)).drew w') (i : Nat) : w'.cell? ⟨W.heap.size, i, none⟩ = cs[i]? :=
  (hb.cell (p := ⟨W.heap.size, i, none⟩) (by simp)).trans (by simp [World.cell?, World.alloc, World.drew, -World.alloc_eq, -World.drew_eq])
theorem own_frozen_d {W w' : World} {cs : Array Value} {t : TypeId} (hb : G (W.alloc (.cells cs t)).drew.heap.size (W.alloc (.cells cs t)).drew w') (i : Nat) : w'.frozen? ⟨W.heap.size, i, none⟩ = false :=
  (hb.frozen (p := ⟨W.heap.size, i, none⟩) (by simp)).trans (by simp [World.frozen?, World.alloc, World.drew, -World.alloc_eq, -World.drew_eq])

set_option maxRecDepth 100000 in
set_option maxHeartbeats 8000000 in
theorem div_pos (h l : Nat) (hh : h < 9223372036854775808) (hl : l < 18446744073709551616) (w : World) :
    Calls Tryd.prog 38 #[.agg #[.int .i64 h, .int .u64 l], .int .i64 65536] w fun e w' => ∃ r : Int, e = .returned (.tuple #[.agg #[.int .i64 (hiW (((h : Int) * 18446744073709551616 + l) / 65536)), .int .u64 (loW (((h : Int) * 18446744073709551616 + l) / 65536))], .int .i64 r, .int .i64 0]) ∧ G w.heap.size w w' := by
  have hS : ∀ W, Calls Tryd.prog 48 #[.int .i64 65536] W fun e w' => e = .returned (.int .u64 65536) ∧ W = w' := fun W => size_any 65536 (by decide) (by decide) W
  have hP := fun W => parts_x h l hh hl W
  rw [(q_pos h l hl).1, (q_pos h l hl).2]
  generalize h / 65536 = a at hP ⊢
  generalize (h % 65536 * 18446744073709551616 + l) / 65536 = b at hP ⊢
  generalize l % 65536 = c at hP
  clear hh hl
  go_enter Tryd.func38, Tryd.ntmps38
  go_wp2_with fail
  go_region_with (first
    | (go_at_call 48; refine (hS _).mono ?_; rintro e w' ⟨rfl, rfl⟩)
    | (go_at_call 47; refine (hP _).mono ?_; rintro e w' ⟨rfl, hb⟩
       have z1 := hb.size
       simp at z1
       have r0 : w'.cell? ⟨w.heap.size + 1, 0, none⟩ = some (.int .i64 0) := (hb.cell (p := ⟨w.heap.size + 1, 0, none⟩) (by simp; try omega)).trans (by go_simp)
       have r1 : w'.cell? ⟨w.heap.size + 1, 1, none⟩ = some (.int .u64 0) := (hb.cell (p := ⟨w.heap.size + 1, 1, none⟩) (by simp; try omega)).trans (by go_simp)
       have rz : ∀ o, w'.frozen? ⟨w.heap.size + 1, o, none⟩ = false := fun o => (hb.frozen (p := ⟨w.heap.size + 1, o, none⟩) (by simp; try omega)).trans (by go_simp)
       have rA0 : ∀ o, (w'.alloc o).cell? ⟨w.heap.size + 1, 0, none⟩ = some (.int .i64 0) := fun o => (((G.refl _ w').alloc (Nat.le_refl _) o).cell (p := ⟨w.heap.size + 1, 0, none⟩) (show w.heap.size + 1 < w'.heap.size by omega)).trans r0
       have rA1 : ∀ o, (w'.alloc o).cell? ⟨w.heap.size + 1, 1, none⟩ = some (.int .u64 0) := fun o => (((G.refl _ w').alloc (Nat.le_refl _) o).cell (p := ⟨w.heap.size + 1, 1, none⟩) (show w.heap.size + 1 < w'.heap.size by omega)).trans r1
       have rAz : ∀ o i, (w'.alloc o).frozen? ⟨w.heap.size + 1, i, none⟩ = false := fun o i => (((G.refl _ w').alloc (Nat.le_refl _) o).frozen (p := ⟨w.heap.size + 1, i, none⟩) (show w.heap.size + 1 < w'.heap.size by omega)).trans (rz i)
       (have c0 := own_cell_d hb 0; have c1 := own_cell_d hb 1; have fz := own_frozen_d hb; simp at c0 c1 fz)))
  all_goals go_wp2_with fail
  all_goals
    refine bodyPost_ret (v := .tuple #[.agg #[.int .i64 (a : Int), .int .u64 (b : Int)], .int .i64 (wrap64 (c : Int)), .int .i64 0]) (by simp [results, Tryd.results38, go_sem, r0, r1, rA0, rA1]) rfl ⟨_, rfl, ?_⟩
    refine G.setCell (G.setCell ?_ (p := ⟨w.heap.size + 1, 0, none⟩) (by show w.heap.size ≤ w.heap.size + 1; omega) _) (p := ⟨w.heap.size + 1, 1, none⟩) (by show w.heap.size ≤ w.heap.size + 1; omega) _
    first
      | (refine G.alloc ?_ (by omega) _
         refine G.trans ?_ (hb.mono (by simp; omega))
         exact ((((G.refl _ w).alloc (Nat.le_refl _) _).alloc (by simp) _).alloc (by simp; omega) _).drew)
      | (refine G.setCell (G.setCell ?_ (p := ⟨w.heap.size + 1 + 1 + 1, 0, none⟩) (by show w.heap.size ≤ w.heap.size + 1 + 1 + 1; omega) _) (p := ⟨w.heap.size + 1 + 1 + 1, 1, none⟩) (by show w.heap.size ≤ w.heap.size + 1 + 1 + 1; omega) _
         refine G.trans ?_ (hb.mono (by simp; omega))
         exact (((((G.refl _ w).alloc (Nat.le_refl _) _).alloc (by simp) _).alloc (by simp; omega) _).alloc (by simp; omega) _).drew)
end Go.Proofs.YtfcbdjjpmgmpoaaDoor

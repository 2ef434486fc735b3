import Derived.Test.YtfcbdjjpmgmpoaaDoorW2
import Derived.Deep.RegionWith
namespace Go.Proofs.YtfcbdjjpmgmpoaaDoor
open Go.RowKit Go.Mat

theorem div64_x (hi lo : Nat) (hh : hi < 65536) (hl : lo < 18446744073709551616) (w : World) :
    Calls Tryd.prog 54 #[.int .u64 hi, .int .u64 lo, .int .u64 65536] w fun e w' => e = .returned (.tuple #[.int .u64 (((hi * 18446744073709551616 + lo) / 65536 : Nat) : Int), .int .u64 ((lo % 65536 : Nat) : Int)]) ∧ G w.heap.size w w' := by
  by_cases h0 : 0 < hi
  · exact div64_high hi lo hh h0 hl w
  · obtain rfl : hi = 0 := by omega
    have := div64_low lo hl w
    simpa using this

set_option maxRecDepth 100000 in
theorem parts_x (h l : Nat) (hh : h < 9223372036854775808) (hl : l < 18446744073709551616) (w : World) :
    Calls Tryd.prog 47 #[.agg #[.int .i64 h, .int .u64 l], .int .u64 65536] w fun e w' => e = .returned (.tuple #[.agg #[.int .i64 ((h / 65536 : Nat) : Int), .int .u64 (((h % 65536 * 18446744073709551616 + l) / 65536 : Nat) : Int)], .int .u64 ((l % 65536 : Nat) : Int)]) ∧ G w.heap.size w w' := by
  have d1 := fun W => div64_x 0 h (by omega) (by omega) W
  have d2 := fun W => div64_x (h % 65536) l (by omega) hl W
  rw [Nat.zero_mul, Nat.zero_add] at d1
  obtain ⟨a, ha⟩ : ∃ a : Nat, a = h / 65536 := ⟨_, rfl⟩
  obtain ⟨r, hr⟩ : ∃ r : Nat, r = h % 65536 := ⟨_, rfl⟩
  have hwu : IntKind.u64.wrap (h : Int) = (h : Int) := by rw [IntKind.wrap_u64]; omega
  have hwa : wrap64 (a : Int) = (a : Int) := by rw [wrap64_eq]; omega
  rw [← ha] at d1 ⊢
  rw [← hr] at d1 d2 ⊢
  clear ha hr
  generalize (r * 18446744073709551616 + l) / 65536 = b at d2 ⊢
  generalize l % 65536 = c at d2 ⊢
  clear hh hl
  go_enter Tryd.func47, Tryd.ntmps47
  go_wp2_with fail
  refine (d1 _).mono ?_
  rintro e w1 ⟨rfl, hb1⟩
  have z1 := hb1.size
  simp at z1
  have b1 : w1.cell? ⟨w.heap.size, 1, none⟩ = some (.int .u64 l) := (hb1.cell (p := ⟨w.heap.size, 1, none⟩) (by simp; omega)).trans (by go_simp)
  go_wp2_with fail
  refine (d2 _).mono ?_
  rintro e w2 ⟨rfl, hb2⟩
  have z2 := hb2.size
  have r0 : w2.cell? ⟨w.heap.size + 1, 0, none⟩ = some (.int .i64 0) := (hb2.cell (p := ⟨w.heap.size + 1, 0, none⟩) (by show w.heap.size + 1 < w1.heap.size; omega)).trans ((hb1.cell (p := ⟨w.heap.size + 1, 0, none⟩) (by simp)).trans (by go_simp))
  have r1 : w2.cell? ⟨w.heap.size + 1, 1, none⟩ = some (.int .u64 0) := (hb2.cell (p := ⟨w.heap.size + 1, 1, none⟩) (by show w.heap.size + 1 < w1.heap.size; omega)).trans ((hb1.cell (p := ⟨w.heap.size + 1, 1, none⟩) (by simp)).trans (by go_simp))
  have f0 : ∀ o, w2.frozen? ⟨w.heap.size + 1, o, none⟩ = false := fun o => (hb2.frozen (p := ⟨w.heap.size + 1, o, none⟩) (by show w.heap.size + 1 < w1.heap.size; omega)).trans ((hb1.frozen (p := ⟨w.heap.size + 1, o, none⟩) (by simp)).trans (by simp))
  go_wp2_with fail
  refine bodyPost_ret (v := .tuple #[.agg #[.int .i64 (a : Int), .int .u64 (b : Int)], .int .u64 (c : Int)]) (by simp [results, Tryd.results47, go_sem, r0, r1, hwa]) rfl ⟨rfl, ?_⟩
  exact (((((G.refl _ w).alloc (Nat.le_refl _) _).alloc (by simp) _).trans ((hb1.mono (by simp; omega)).trans (hb2.mono (by omega)))).setCell (p := ⟨w.heap.size + 1, 0, none⟩) (by show w.heap.size ≤ w.heap.size + 1; omega) _).setCell (p := ⟨w.heap.size + 1, 1, none⟩) (by show w.heap.size ≤ w.heap.size + 1; omega) _
end Go.Proofs.YtfcbdjjpmgmpoaaDoor

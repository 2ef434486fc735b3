import Derived.Test.YteidggmgknnibaaDoorWb
namespace Go.Proofs.YteidggmgknnibaaDoor
open Go.RowKit Go.Lines Go.Sort

set_option maxRecDepth 100000 in
set_option maxHeartbeats 2000000 in
theorem law_x (k a b c d f : Int) (s : ByteArray) (w : World) (hE : Env w) :
    Calls Tryd.prog 3 #[.agg #[.int .i64 k, .int .i64 a, .int .i64 b, .int .i64 c, .int .i64 d, .int .i64 f], .string s] w fun e w' => e = .returned (.bool true) ∧ Below w.heap.size w w' := by
  have hsz := hE.size
  by_cases hs : s.size ≤ 200
  · have HL : ∀ W, Env W → Calls Tryd.prog 4 #[.agg #[.int .i64 k, .int .i64 a, .int .i64 b, .int .i64 c, .int .i64 d, .int .i64 f]] W fun e w' => e = .returned (.tuple #[.string ⟨(lineT ⟨k, a, b, c, d, f⟩).toArray⟩, .int .i64 (lineE ⟨k, a, b, c, d, f⟩)]) ∧ Below W.heap.size W w' := fun W h => line_any ⟨k, a, b, c, d, f⟩ W h
    have HR : ∀ W, Calls Tryd.prog 5 #[.agg #[.int .i64 k, .int .i64 a, .int .i64 b, .int .i64 c, .int .i64 d, .int .i64 f]] W fun e w' => e = .returned (.tuple #[.string ⟨(lineT ⟨k, a, b, c, d, f⟩).toArray⟩, .int .i64 (lineE ⟨k, a, b, c, d, f⟩)]) ∧ Below W.heap.size W w' := fun W => rline_any ⟨k, a, b, c, d, f⟩ W
    generalize lineT ⟨k, a, b, c, d, f⟩ = T at HL HR
    generalize lineE ⟨k, a, b, c, d, f⟩ = E at HL HR
    have HA : ∀ W, Env W → Calls Tryd.prog 6 #[.string s] W fun e w' => e = .returned (.tuple #[opV (resO s.data.toList), .int .i64 (resE s.data.toList)]) ∧ Below W.heap.size W w' := fun W h => read_any s hs W h
    have HB : ∀ W, Calls Tryd.prog 7 #[.string s] W fun e w' => e = .returned (.tuple #[opV (resO s.data.toList), .int .i64 (resE s.data.toList)]) ∧ Below W.heap.size W w' := fun W => rread_any s hs W
    generalize resO s.data.toList = R at HA HB
    generalize resE s.data.toList = G at HA HB
    obtain ⟨rk, ra, rb, rc, rd, rf⟩ := R
    simp only [opV] at HA HB
    have E0 : Env (w.alloc (.cells #[.int .i64 k, .int .i64 a, .int .i64 b, .int .i64 c, .int .i64 d, .int .i64 f] 23)) := hE.below (B := w.heap.size) hsz ((Below.refl _ w).alloc (Nat.le_refl _) _)
    go_enter Tryd.func3, Tryd.ntmps3
    go_wp2_with fail
    refine (HL _ E0).mono ?_
    rintro e w1 ⟨rfl, hb1⟩
    have z1 := hb1.size
    simp at z1
    have E1 : Env w1 := E0.below (by simp; omega) hb1
    have b0 : w1.cell? ⟨w.heap.size, 0, none⟩ = some (.int .i64 k) := (hb1.cell (p := ⟨w.heap.size, 0, none⟩) (by simp)).trans (by simp)
    have b1 : w1.cell? ⟨w.heap.size, 1, none⟩ = some (.int .i64 a) := (hb1.cell (p := ⟨w.heap.size, 1, none⟩) (by simp)).trans (by simp)
    have b2 : w1.cell? ⟨w.heap.size, 2, none⟩ = some (.int .i64 b) := (hb1.cell (p := ⟨w.heap.size, 2, none⟩) (by simp)).trans (by simp)
    have b3 : w1.cell? ⟨w.heap.size, 3, none⟩ = some (.int .i64 c) := (hb1.cell (p := ⟨w.heap.size, 3, none⟩) (by simp)).trans (by simp)
    have b4 : w1.cell? ⟨w.heap.size, 4, none⟩ = some (.int .i64 d) := (hb1.cell (p := ⟨w.heap.size, 4, none⟩) (by simp)).trans (by simp)
    have b5 : w1.cell? ⟨w.heap.size, 5, none⟩ = some (.int .i64 f) := (hb1.cell (p := ⟨w.heap.size, 5, none⟩) (by simp)).trans (by simp)
    go_wp2_with fail
    refine (HR _).mono ?_
    rintro e w2 ⟨rfl, hb2⟩
    have z2 := hb2.size
    have E2 : Env w2 := E1.below E1.size hb2
    clear b0 b1 b2 b3 b4 b5
    go_wp2_with fail
    refine (HA _ E2).mono ?_
    rintro e w3 ⟨rfl, hb3⟩
    have z3 := hb3.size
    go_wp2_with fail
    refine (HB _).mono ?_
    rintro e w4 ⟨rfl, hb4⟩
    have z4 := hb4.size
    simp at z4
    have d0 : w4.cell? ⟨w3.heap.size, 0, none⟩ = some (.int .i64 rk) := (hb4.cell (p := ⟨w3.heap.size, 0, none⟩) (by simp)).trans (by simp)
    have d1 : w4.cell? ⟨w3.heap.size, 1, none⟩ = some (.int .i64 ra) := (hb4.cell (p := ⟨w3.heap.size, 1, none⟩) (by simp)).trans (by simp)
    have d2 : w4.cell? ⟨w3.heap.size, 2, none⟩ = some (.int .i64 rb) := (hb4.cell (p := ⟨w3.heap.size, 2, none⟩) (by simp)).trans (by simp)
    have d3 : w4.cell? ⟨w3.heap.size, 3, none⟩ = some (.int .i64 rc) := (hb4.cell (p := ⟨w3.heap.size, 3, none⟩) (by simp)).trans (by simp)
    have d4 : w4.cell? ⟨w3.heap.size, 4, none⟩ = some (.int .i64 rd) := (hb4.cell (p := ⟨w3.heap.size, 4, none⟩) (by simp)).trans (by simp)
    have d5 : w4.cell? ⟨w3.heap.size, 5, none⟩ = some (.int .i64 rf) := (hb4.cell (p := ⟨w3.heap.size, 5, none⟩) (by simp)).trans (by simp)
    have g0 : (w4.alloc (.cells #[.int .i64 rk, .int .i64 ra, .int .i64 rb, .int .i64 rc, .int .i64 rd, .int .i64 rf] 23)).cell? ⟨w3.heap.size, 0, none⟩ = some (.int .i64 rk) := (((Below.refl _ w4).alloc (Nat.le_refl _) _).cell (p := ⟨w3.heap.size, 0, none⟩) (show w3.heap.size < w4.heap.size by omega)).trans d0
    have g1 : (w4.alloc (.cells #[.int .i64 rk, .int .i64 ra, .int .i64 rb, .int .i64 rc, .int .i64 rd, .int .i64 rf] 23)).cell? ⟨w3.heap.size, 1, none⟩ = some (.int .i64 ra) := (((Below.refl _ w4).alloc (Nat.le_refl _) _).cell (p := ⟨w3.heap.size, 1, none⟩) (show w3.heap.size < w4.heap.size by omega)).trans d1
    have g2 : (w4.alloc (.cells #[.int .i64 rk, .int .i64 ra, .int .i64 rb, .int .i64 rc, .int .i64 rd, .int .i64 rf] 23)).cell? ⟨w3.heap.size, 2, none⟩ = some (.int .i64 rb) := (((Below.refl _ w4).alloc (Nat.le_refl _) _).cell (p := ⟨w3.heap.size, 2, none⟩) (show w3.heap.size < w4.heap.size by omega)).trans d2
    have g3 : (w4.alloc (.cells #[.int .i64 rk, .int .i64 ra, .int .i64 rb, .int .i64 rc, .int .i64 rd, .int .i64 rf] 23)).cell? ⟨w3.heap.size, 3, none⟩ = some (.int .i64 rc) := (((Below.refl _ w4).alloc (Nat.le_refl _) _).cell (p := ⟨w3.heap.size, 3, none⟩) (show w3.heap.size < w4.heap.size by omega)).trans d3
    have g4 : (w4.alloc (.cells #[.int .i64 rk, .int .i64 ra, .int .i64 rb, .int .i64 rc, .int .i64 rd, .int .i64 rf] 23)).cell? ⟨w3.heap.size, 4, none⟩ = some (.int .i64 rd) := (((Below.refl _ w4).alloc (Nat.le_refl _) _).cell (p := ⟨w3.heap.size, 4, none⟩) (show w3.heap.size < w4.heap.size by omega)).trans d4
    have g5 : (w4.alloc (.cells #[.int .i64 rk, .int .i64 ra, .int .i64 rb, .int .i64 rc, .int .i64 rd, .int .i64 rf] 23)).cell? ⟨w3.heap.size, 5, none⟩ = some (.int .i64 rf) := (((Below.refl _ w4).alloc (Nat.le_refl _) _).cell (p := ⟨w3.heap.size, 5, none⟩) (show w3.heap.size < w4.heap.size by omega)).trans d5
    clear d0 d1 d2 d3 d4 d5
    go_wp2_with fail
    refine bodyPost_ret (v := .bool true) (by simp [results, Tryd.results3, go_sem]) rfl ⟨rfl, ?_⟩
    exact (((((Below.refl _ w).alloc (Nat.le_refl _) _).trans (hb1.mono (by simp))).trans (hb2.mono (by omega))).trans (hb3.mono (by omega))).trans ((((Below.refl _ w3).alloc (Nat.le_refl _) _).mono (by omega)).trans ((hb4.mono (by simp; omega)).trans (((Below.refl _ w4).alloc (Nat.le_refl _) _).mono (by omega))))
  · go_enter Tryd.func3, Tryd.ntmps3
    go_wp2
    refine bodyPost_ret (v := .bool true) (by simp [results, Tryd.results3, go_sem]) rfl ⟨rfl, ?_⟩
    exact ((Below.refl _ w).alloc (Nat.le_refl _) _)
theorem law_any (o : O) (s : ByteArray) (w : World) (hE : Env w) :
    Calls Tryd.prog 3 #[opV o, .string s] w fun e w' => e = .returned (.bool true) ∧ Below w.heap.size w w' := law_x o.k o.node o.frm o.too o.plc o.bit s w hE
end Go.Proofs.YteidggmgknnibaaDoor

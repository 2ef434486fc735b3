/- The contracts of wide's functions, told by the number that a wide number is. -/
import Derived.Test.YtfcbdjjpmgmpoaaDoorW5
import Derived.Test.YtfcbdjjpmgmpoaaDoorK5
namespace Go.Proofs.YtfcbdjjpmgmpoaaDoor
open Go.RowKit Go.Mat Go.Ka

abbrev wv (n : Int) : Value := .agg #[.int .i64 (hiW n), .int .u64 (loW n : Int)]
theorem gives_of_G {P : Program} {f : FuncId} {args : Array Value} {w : World} {v : Value} (h : Calls P f args w fun e w' => e = .returned v ∧ G w.heap.size w w') : Calls P f args w (Gives v w) := h.mono fun _ _ q => ⟨q.1, Fm.of_below q.2.below⟩
theorem words (n : Int) : hiW n * 18446744073709551616 + (loW n : Int) = n := (wide_parts n).1.symm
theorem mul_n (a b : Int) (a0 : -9223372036854775808 ≤ a) (a1 : a ≤ 9223372036854775807) (b0 : -9223372036854775808 ≤ b) (b1 : b ≤ 9223372036854775807) (w : World) :
    Calls Tryd.prog 45 #[.int .i64 a, .int .i64 b] w (Gives (wv (a * b)) w) := gives_of_G (mul_x a b a0 a1 b0 b1 w)
theorem add_n (s p : Int) (hs : is128 s) (hp : is128 p) (hsp : is128 (s + p)) (w : World) :
    Calls Tryd.prog 44 #[wv s, wv p] w (Gives (.tuple #[wv (s + p), .int .i64 0]) w) := by
  have h1 := wide_parts s
  have h2 := wide_parts p
  have := gives_of_G (add_x (hiW s) (loW s) (hiW p) (loW p) (hiW_bounds s hs) h1.2 (hiW_bounds p hp) h2.2 (by rw [words, words]; exact hsp) w)
  rwa [words, words] at this
theorem turned_n (n : Int) (hs : is128 n) (hn : -170141183460469231731687303715884105728 < n) (w : World) : Calls Tryd.prog 46 #[wv n] w fun e w' => e = .returned (wv (-n)) ∧ G w.heap.size w w' := by
  have h1 := wide_parts n
  have h2 := hiW_bounds n hs
  have := turned_x (hiW n) (loW n) h2 h1.2 (by unfold is128 at hs; omega) w
  rwa [words] at this
theorem plus_n (s p : Int) (hs : is128 s) (hp : is128 p) (hsp : is128 (s + p)) (w : World) : Calls Tryd.prog 49 #[wv s, wv p] w fun e w' => e = .returned (wv (s + p)) ∧ G w.heap.size w w' := by
  have := plus_x (hiW s) (loW s) (hiW p) (loW p) (hiW_bounds s hs) (wide_parts s).2 (hiW_bounds p hp) (wide_parts p).2 (by rw [words, words]; exact hsp) w
  rwa [words, words] at this
theorem parts_n (n : Int) (h0 : 0 ≤ n) (hs : is128 n) (w : World) : Calls Tryd.prog 47 #[wv n, .int .u64 65536] w fun e w' => e = .returned (.tuple #[wv (n / 65536), .int .u64 ((n % 65536).toNat : Int)]) ∧ G w.heap.size w w' := by
  have h2 := hiW_bounds n hs
  have h1 := wide_parts n
  obtain ⟨H, hH⟩ : ∃ H : Nat, hiW n = (H : Int) := ⟨(hiW n).toNat, by unfold hiW at *; omega⟩
  have q := q_pos H (loW n) h1.2
  have := parts_x H (loW n) (by omega) h1.2 w
  rw [← q.1, ← q.2, ← hH, words] at this
  have e : ((loW n % 65536 : Nat) : Int) = ((n % 65536).toNat : Int) := by unfold loW; omega
  rwa [e] at this
theorem div_n (s : Int) (hs : -85070591730234615865843651857942052864 ≤ s) (hs' : s ≤ 85070591730234615865843651857942052864) (w : World) :
    Calls Tryd.prog 38 #[wv s, .int .i64 65536] w fun e w' => ∃ r : Int, Gives (.tuple #[wv (s / 65536), .int .i64 r, .int .i64 0]) w e w' := by
  have hs128 : is128 s := by unfold is128; omega
  have h1 := wide_parts s
  have h2 := hiW_bounds s hs128
  by_cases hpos : 0 ≤ s
  · obtain ⟨H, hH⟩ : ∃ H : Nat, hiW s = (H : Int) := ⟨(hiW s).toNat, by unfold hiW at *; omega⟩
    have := div_pos H (loW s) (by omega) h1.2 w
    rw [← hH, words] at this
    exact this.mono fun _ _ ⟨r, q⟩ => ⟨r, q.1, Fm.of_below q.2.below⟩
  · have hn128 : is128 (-s) := by unfold is128; omega
    have hq : is128 ((-s) / 65536) := by unfold is128; omega
    have hneg : (hiW s < 0) = True := eq_true (by unfold hiW; omega)
    have pn := wide_parts (-s)
    have pq := wide_parts ((-s) / 65536)
    have bn := hiW_bounds (-s) hn128
    have bq := hiW_bounds ((-s) / 65536) hq
    obtain ⟨H, hH⟩ : ∃ H : Nat, hiW (-s) = (H : Int) := ⟨(hiW (-s)).toNat, by unfold hiW at *; omega⟩
    obtain ⟨a, ha⟩ : ∃ a : Nat, hiW ((-s) / 65536) = (a : Int) := ⟨(hiW ((-s) / 65536)).toNat, by unfold hiW at *; omega⟩
    obtain ⟨c, hc⟩ : ∃ c : Nat, ((-s) % 65536).toNat = c := ⟨_, rfl⟩
    have eO : hiW (-1) = -1 ∧ loW (-1) = 18446744073709551615 := ⟨by decide, by decide⟩
    have := div_neg_x (hiW s) (hiW (-((-s) / 65536))) (hiW (s / 65536)) (loW s) H (loW (-s)) a (loW ((-s) / 65536)) c (loW (-((-s) / 65536))) (loW (s / 65536)) hneg w
      (fun W => by have := turned_n ((-s) / 65536) hq (by omega) W; rwa [show wv ((-s) / 65536) = .agg #[.int .i64 a, .int .u64 (loW ((-s) / 65536) : Int)] from by unfold wv; rw [ha]] at this)
      (fun hc0 W => by
        have h := plus_n (-((-s) / 65536)) (-1) (by unfold is128; omega) (by unfold is128; omega) (by unfold is128; omega) W
        rw [show -((-s) / 65536) + -1 = s / 65536 from by omega] at h
        unfold wv at h
        rw [eO.1, eO.2] at h
        exact h)
      (fun hc0 => by
        have e : s / 65536 = -((-s) / 65536) := by omega
        rw [e]; exact ⟨rfl, rfl⟩)
      (fun W => by have := turned_n s hs128 (by omega) W; rwa [show wv (-s) = .agg #[.int .i64 H, .int .u64 (loW (-s) : Int)] from by unfold wv; rw [hH]] at this)
      (fun W => by
        have := parts_n (-s) (by omega) hn128 W
        rw [hc] at this
        unfold wv at this
        rw [hH, ha] at this
        exact this)
    exact this.mono fun _ _ ⟨r, q⟩ => ⟨r, q.1, Fm.of_below q.2.below⟩
theorem int_n (n : Int) (h0 : -9223372036854775808 ≤ n) (h1 : n ≤ 9223372036854775807) (w : World) : Calls Tryd.prog 39 #[wv n] w (Gives (.tuple #[.int .i64 n, .int .i64 0]) w) := by
  have := int_yes (hiW n) (loW n) (wide_parts n).2 (by rw [words]; exact ⟨h0, h1⟩) w
  rw [words] at this
  exact gives_of_G this
theorem int_big (n : Int) (hn : ¬ (-9223372036854775808 ≤ n ∧ n ≤ 9223372036854775807)) (w : World) : Calls Tryd.prog 39 #[wv n] w (Gives (.tuple #[.int .i64 0, .int .i64 20]) w) := by
  have := int_no (hiW n) (loW n) (wide_parts n).2 (by rw [words]; exact hn) w
  exact gives_of_G this
end Go.Proofs.YtfcbdjjpmgmpoaaDoor

import Derived.Test.YtfcbdjjpmgmpoaaDoorW1
namespace Go.Proofs.YtfcbdjjpmgmpoaaDoor
open Go.RowKit Go.Mat

theorem eql_step (t0 t1 t2 t3 t4 t5 t6 t7 t8 : Value) (zh h : Int) (l : Nat) (b : Bool) (e2 : (zh == h) = b) (C : World → Prop) (K : Act → Prop)
    (hK : K { tmps := #[t0, t1, t2, t3, t4, t5, t6, t7, t8, .agg #[.int .i64 zh, .int .u64 l], .agg #[.int .i64 h, .int .u64 l], .bool b, undef], defers := [] }) :
  Oper.quiet Tryd.prog { dst := some 11, op := .binOp .eql 83 (.tmp 9) (.tmp 10) 83, type := 4, pos := "wide.go:76", after := #[{ on := 1, ground := Ground.data }, { on := 2, ground := Ground.data }], guard := none } { tmps := #[t0, t1, t2, t3, t4, t5, t6, t7, t8, .agg #[.int .i64 zh, .int .u64 l], .agg #[.int .i64 h, .int .u64 l], undef, undef], defers := [] } C K := by
  refine ⟨.bool b, fun w _ => ?_, ?_⟩
  · cases b <;> go_simp
  · exact hK

set_option maxRecDepth 100000 in
theorem int_no (h : Int) (l : Nat) (hl : l < 18446744073709551616) (hb : ¬ (-9223372036854775808 ≤ h * 18446744073709551616 + l ∧ h * 18446744073709551616 + l ≤ 9223372036854775807)) (w : World) :
    Calls Tryd.prog 39 #[.agg #[.int .i64 h, .int .u64 l]] w fun e w' => e = .returned (.tuple #[.int .i64 0, .int .i64 20]) ∧ G w.heap.size w w' := by
  have hO := fun W => of_x (wrap64 (l : Int)) (by rw [wrap64_eq]; omega) (by rw [wrap64_eq]; omega) W
  have e1 : loW (wrap64 (l : Int)) = l := by unfold loW; rw [wrap64_eq]; omega
  have e2 : (hiW (wrap64 (l : Int)) == h) = false := by
    rw [beq_eq_false_iff_ne]; unfold hiW; rw [wrap64_eq]; omega
  rw [e1] at hO
  clear e1
  generalize hiW (wrap64 (l : Int)) = zh at hO e2
  have hmix : Tryd.prog.follows .mixedOrders = true := by kernel_rfl
  go_enter Tryd.func39, Tryd.ntmps39
  go_wp2_with fail
  obtain ⟨wx, hwx⟩ : ∃ wx : World, wx = w.alloc (.cells #[.int .i64 h, .int .u64 l] 83) := ⟨_, rfl⟩
  have hz : wx.heap.size = w.heap.size + 1 := by rw [hwx]; simp
  have g0 := cell_grown (w := wx) (a := ⟨w.heap.size, 0, none⟩) (v := .int .i64 h) (by show w.heap.size < wx.heap.size; omega) (by rw [hwx]; go_simp)
  have g1 := cell_grown (w := wx) (a := ⟨w.heap.size, 1, none⟩) (v := .int .u64 l) (by show w.heap.size < wx.heap.size; omega) (by rw [hwx]; go_simp)
  rw [← hwx]
  have hG : G w.heap.size w wx := by rw [hwx]; exact (G.refl _ w).alloc (Nat.le_refl _) _
  clear hwx
  refine wp_region_quiet_grown (by assumption) (by kernel_rfl) ?_
  quiet_step ((go_at_call 50; exact Calls.grown_of (calls_grown (hO _))))
  quiet_step ((go_at_call 50; exact Calls.grown_of (calls_grown (hO _))))
  quiet_step ((go_at_call 50; exact Calls.grown_of (calls_grown (hO _))))
  refine wpQuiet_step (fun K hK => ?_)
  rw [if_pos (by kernel_rfl)]
  refine eql_step _ _ _ _ _ _ _ _ _ zh h l _ e2 _ _ (hK _ ?_)
  clear hK K
  refine wpQuiet_nil ?_
  intro _ hw'
  obtain ⟨⟨nq, osq⟩, hw''⟩ := hw'
  subst hw''
  go_wp2_with fail
  refine bodyPost_ret (v := .tuple #[.int .i64 0, .int .i64 20]) (by simp [results, Tryd.results39, go_sem]) rfl ⟨rfl, ?_⟩
  exact hG.grown (by omega) _ _
set_option maxRecDepth 100000 in
theorem int_yes (h : Int) (l : Nat) (hl : l < 18446744073709551616) (hb : -9223372036854775808 ≤ h * 18446744073709551616 + l ∧ h * 18446744073709551616 + l ≤ 9223372036854775807) (w : World) :
    Calls Tryd.prog 39 #[.agg #[.int .i64 h, .int .u64 l]] w fun e w' => e = .returned (.tuple #[.int .i64 (h * 18446744073709551616 + l), .int .i64 0]) ∧ G w.heap.size w w' := by
  have hO := fun W => of_x (wrap64 (l : Int)) (by rw [wrap64_eq]; omega) (by rw [wrap64_eq]; omega) W
  have e1 : loW (wrap64 (l : Int)) = l := by unfold loW; rw [wrap64_eq]; omega
  have e2 : (hiW (wrap64 (l : Int)) == h) = true := by
    rw [beq_iff_eq]; unfold hiW; rw [wrap64_eq]; omega
  rw [e1] at hO
  clear e1
  generalize hiW (wrap64 (l : Int)) = zh at hO e2
  have e3 : wrap64 (l : Int) = h * 18446744073709551616 + l := by rw [wrap64_eq]; omega
  have E3 := Lib.hid e3
  clear e3
  have hmix : Tryd.prog.follows .mixedOrders = true := by kernel_rfl
  go_enter Tryd.func39, Tryd.ntmps39
  go_wp2_with fail
  obtain ⟨wx, hwx⟩ : ∃ wx : World, wx = w.alloc (.cells #[.int .i64 h, .int .u64 l] 83) := ⟨_, rfl⟩
  have hz : wx.heap.size = w.heap.size + 1 := by rw [hwx]; simp
  have g0 := cell_grown (w := wx) (a := ⟨w.heap.size, 0, none⟩) (v := .int .i64 h) (by show w.heap.size < wx.heap.size; omega) (by rw [hwx]; go_simp)
  have g1 := cell_grown (w := wx) (a := ⟨w.heap.size, 1, none⟩) (v := .int .u64 l) (by show w.heap.size < wx.heap.size; omega) (by rw [hwx]; go_simp)
  rw [← hwx]
  have hG : G w.heap.size w wx := by rw [hwx]; exact (G.refl _ w).alloc (Nat.le_refl _) _
  clear hwx
  refine wp_region_quiet_grown (by assumption) (by kernel_rfl) ?_
  quiet_step ((go_at_call 50; exact Calls.grown_of (calls_grown (hO _))))
  quiet_step ((go_at_call 50; exact Calls.grown_of (calls_grown (hO _))))
  quiet_step ((go_at_call 50; exact Calls.grown_of (calls_grown (hO _))))
  refine wpQuiet_step (fun K hK => ?_)
  rw [if_pos (by kernel_rfl)]
  refine eql_step _ _ _ _ _ _ _ _ _ zh h l _ e2 _ _ (hK _ ?_)
  clear hK K
  refine wpQuiet_nil ?_
  intro _ hw'
  obtain ⟨⟨nq, osq⟩, hw''⟩ := hw'
  subst hw''
  go_wp2_with fail
  refine bodyPost_ret (v := .tuple #[.int .i64 (wrap64 (l : Int)), .int .i64 0]) (by simp [results, Tryd.results39, go_sem]) rfl ⟨by rw [E3.out], ?_⟩
  exact hG.grown (by omega) _ _

/-- bits.Div64 by 65536, the high word 0. -/
theorem div64_low (lo : Nat) (hl : lo < 18446744073709551616) (w : World) :
    Calls Tryd.prog 54 #[.int .u64 0, .int .u64 lo, .int .u64 65536] w fun e w' => e = .returned (.tuple #[.int .u64 ((lo / 65536 : Nat) : Int), .int .u64 ((lo % 65536 : Nat) : Int)]) ∧ G w.heap.size w w' := by
  go_enter Tryd.func54, Tryd.ntmps54
  go_wp2_with fail
  go_quiet (fail)
  go_wp2_with fail
  refine bodyPost_ret (v := .tuple #[.int .u64 ((lo : Int) / 65536), .int .u64 ((lo : Int) % 65536)]) (by simp [results, Tryd.results54, go_sem]) rfl ⟨by rw [Int.natCast_ediv, Int.natCast_emod]; rfl, (G.refl _ w).drewN nq⟩

theorem a1 (m hi lo : Nat) (hh : hi < 65536) (hl : lo < 18446744073709551616) (hm : m = hi * 140737488355328 + lo / 131072) : bits .or .u64 ((hi : Int) * 140737488355328) ((lo : Int) / 131072) = (m : Int) := by
    have e1 : (hi : Int) * 140737488355328 = ((hi * 140737488355328 : Nat) : Int) := by omega
    have e2 : (lo : Int) / 131072 = ((lo / 131072 : Nat) : Int) := by omega
    rw [e1, e2, bits_or_u64_nat _ _ (by omega) (by omega), hm]
    have h3 := Nat.shiftLeft_add_eq_or_of_lt (show lo / 131072 < 2 ^ 47 by omega) hi
    rw [Nat.shiftLeft_eq] at h3
    rw [← h3]
theorem a2 (n lo : Nat) (hn : n = lo * 140737488355328 % 18446744073709551616) : IntKind.u64.wrap ((lo : Int) * 140737488355328) = (n : Int) := by rw [IntKind.wrap_u64]; omega
theorem a3 (n u0 : Nat) (h : n < 18446744073709551616) (hu0 : u0 = n % 4294967296) : bits .and .u64 (n : Int) 4294967295 = (u0 : Int) := by
    have h := u64_and_nat n 4294967295 (by omega) (by omega)
    have e : n &&& 4294967295 = n % 4294967296 := Nat.and_two_pow_sub_one_eq_mod n 32
    rw [e, ← hu0] at h
    exact h
theorem a4 (m q1 : Nat) (h : m < 9223372036854775808) (hq1 : q1 = m / 2147483648) : IntKind.u64.wrap ((m : Int).tdiv 2147483648) = (q1 : Int) := by
    rw [IntKind.wrap_u64, Int.tdiv_eq_ediv_of_nonneg (by omega)]; omega
theorem a5 (m q1 r1 : Nat) (h : m < 9223372036854775808) (hq1 : q1 = m / 2147483648) (hr1 : r1 = m % 2147483648) : IntKind.u64.wrap ((m : Int) - IntKind.u64.wrap ((q1 : Int) * 2147483648)) = (r1 : Int) := by
    rw [IntKind.wrap_u64, IntKind.wrap_u64]; omega
theorem a6 (hi lo m : Nat) (hh : hi < 65536) (hl : lo < 18446744073709551616) (hm : m = hi * 140737488355328 + lo / 131072) : m < 9223372036854775808 := by omega
theorem a7 (r1 u1 n21 : Nat) (h1 : r1 < 2147483648) (h2 : u1 < 4294967296) (h : n21 = r1 * 4294967296 + u1) : n21 < 9223372036854775808 := by omega
theorem a8 (n q : Nat) (h : n < 9223372036854775808) (hq : q = n / 2147483648) : q < 4294967296 := by omega
theorem b1 (q : Nat) (h : q < 4294967296) : (4294967296 ≤ (q : Int)) = False := eq_false (by omega)
theorem b2 (q : Nat) (h : q < 4294967296) : (4294967296 ≤ q) = False := eq_false (by omega)
theorem a9 (n : Nat) (h : n < 18446744073709551616) : n / 4294967296 < 4294967296 := by omega

theorem c1 (m q1 r1 u1 n21 : Nat) (hm : m = q1 * 2147483648 + r1) (h1 : r1 < 2147483648) (h2 : u1 < 4294967296) (h : n21 = r1 * 4294967296 + u1) :
    IntKind.u64.wrap (IntKind.u64.wrap (IntKind.u64.wrap ((m : Int) * 4294967296) + u1) - IntKind.u64.wrap ((q1 : Int) * 9223372036854775808)) = (n21 : Int) := by
  simp only [IntKind.wrap_u64]; omega
theorem c2 (q1 q0 Q : Nat) (h1 : q1 < 4294967296) (h2 : q0 < 4294967296) (h : Q = q1 * 4294967296 + q0) : IntKind.u64.wrap (IntKind.u64.wrap ((q1 : Int) * 4294967296) + q0) = (Q : Int) := by
  simp only [IntKind.wrap_u64]; omega
theorem c5 (hi lo : Nat) : (hi * 18446744073709551616 + lo) % 65536 = lo % 65536 := by omega
theorem c4 (N lo Q X : Nat) (e : N * 140737488355328 = Q * 9223372036854775808 + X) (hX : X < 9223372036854775808) (hi : Nat) (hN : N = hi * 18446744073709551616 + lo) : Q = N / 65536 ∧ X / 140737488355328 = lo % 65536 := by
  have k : 9223372036854775808 = 65536 * 140737488355328 := by decide
  constructor
  · have h1 : N * 140737488355328 / 9223372036854775808 = Q := by rw [e, Nat.mul_comm, Nat.mul_add_div (by decide), Nat.div_eq_of_lt hX, Nat.add_zero]
    rw [← h1, k, Nat.mul_div_mul_right _ _ (by decide)]
  · have h2 : N * 140737488355328 % 9223372036854775808 = X := by rw [e, Nat.mul_comm, Nat.mul_add_mod, Nat.mod_eq_of_lt hX]
    rw [← h2, k, Nat.mul_mod_mul_right, Nat.mul_div_cancel _ (by decide), hN]
    exact c5 hi lo
/-- The plain law of the division by 65536. -/
theorem c3 (hi lo m n u1 u0 q1 r1 n21 q0 r0 : Nat) (hm : m = hi * 140737488355328 + lo / 131072) (hn : n = lo * 140737488355328 % 18446744073709551616)
    (hn' : n = u1 * 4294967296 + u0) (hm' : m = q1 * 2147483648 + r1) (h21 : n21 = r1 * 4294967296 + u1) (h21' : n21 = q0 * 2147483648 + r0) (hr0 : r0 < 2147483648) (hu0 : u0 < 4294967296) :
    q1 * 4294967296 + q0 = (hi * 18446744073709551616 + lo) / 65536 ∧ (r0 * 4294967296 + u0) / 140737488355328 = lo % 65536 := by
  have e1 : (hi * 18446744073709551616 + lo) * 140737488355328 = m * 18446744073709551616 + n := by clear hn' hm' h21 h21'; omega
  have e2 : m * 18446744073709551616 + n = (q1 * 4294967296 + q0) * 9223372036854775808 + (r0 * 4294967296 + u0) := by clear e1 hm hn; omega
  have e3 : r0 * 4294967296 + u0 < 9223372036854775808 := by clear e1 e2 hm hn hn' hm' h21 h21'; omega
  exact c4 _ lo _ _ (by rw [e1, e2]) e3 hi rfl

set_option maxRecDepth 100000 in
set_option maxHeartbeats 1000000 in
theorem div64_high (hi lo : Nat) (hh : hi < 65536) (h0 : 0 < hi) (hl : lo < 18446744073709551616) (w : World) :
    Calls Tryd.prog 54 #[.int .u64 hi, .int .u64 lo, .int .u64 65536] w fun e w' => e = .returned (.tuple #[.int .u64 (((hi * 18446744073709551616 + lo) / 65536 : Nat) : Int), .int .u64 ((lo % 65536 : Nat) : Int)]) ∧ G w.heap.size w w' := by
  have hL : ∀ W, Calls Tryd.prog 56 #[.int .u64 65536] W fun e w' => e = .returned (.int .i64 47) ∧ w' = W := fun W => (Tryd.bits_LeadingZeros64 65536 W (by omega) (by omega)).mono fun e w' ⟨he, hw⟩ => ⟨by rw [he]; kernel_rfl, hw⟩
  have k0 : ((hi : Int) == 0) = false := by rw [beq_eq_false_iff_ne]; omega
  have k1 : (65536 ≤ (hi : Int)) = False := eq_false (by omega)
  have k2 : ((65536 : Nat) ≤ hi) = False := eq_false (by omega)
  obtain ⟨m, hm⟩ : ∃ m : Nat, m = hi * 140737488355328 + lo / 131072 := ⟨_, rfl⟩
  have hmb := a6 hi lo m hh hl hm
  have f1 := a1 m hi lo hh hl hm
  have f2 : bits .and .u64 9223372036854775808 4294967295 = 0 := by kernel_rfl
  obtain ⟨n, hn⟩ : ∃ n : Nat, n = lo * 140737488355328 % 18446744073709551616 := ⟨_, rfl⟩
  have f3 := a2 n lo hn
  have hnb : n < 18446744073709551616 := by rw [hn]; exact Nat.mod_lt _ (by decide)
  obtain ⟨u1, hu1⟩ : ∃ u : Nat, u = n / 4294967296 := ⟨_, rfl⟩
  have f4 : (n : Int) / 4294967296 = (u1 : Int) := by rw [hu1]; rfl
  obtain ⟨u0, hu0⟩ : ∃ u : Nat, u = n % 4294967296 := ⟨_, rfl⟩
  have f5 := a3 n u0 hnb hu0
  obtain ⟨q1, hq1⟩ : ∃ q : Nat, q = m / 2147483648 := ⟨_, rfl⟩
  obtain ⟨r1, hr1⟩ : ∃ r : Nat, r = m % 2147483648 := ⟨_, rfl⟩
  have f6 := a4 m q1 hmb hq1
  have f6e : IntKind.u64.wrap ((m : Int) / 2147483648) = (q1 : Int) := by rw [← f6, Int.tdiv_eq_ediv_of_nonneg (Int.natCast_nonneg m)]
  have f7 := a5 m q1 r1 hmb hq1 hr1
  have hq1b := a8 m q1 hmb hq1
  have hr1b : r1 < 2147483648 := by rw [hr1]; exact Nat.mod_lt _ (by decide)
  have hu1b : u1 < 4294967296 := by rw [hu1]; exact a9 n hnb
  have hu0b : u0 < 4294967296 := by rw [hu0]; exact Nat.mod_lt _ (by decide)
  have g1 := b1 q1 hq1b
  have g1' := b2 q1 hq1b
  obtain ⟨n21, hn21⟩ : ∃ x : Nat, x = r1 * 4294967296 + u1 := ⟨_, rfl⟩
  have hn21b := a7 r1 u1 n21 hr1b hu1b hn21
  obtain ⟨q0, hq0⟩ : ∃ q : Nat, q = n21 / 2147483648 := ⟨_, rfl⟩
  obtain ⟨r0, hr0⟩ : ∃ r : Nat, r = n21 % 2147483648 := ⟨_, rfl⟩
  have hq0b := a8 n21 q0 hn21b hq0
  have g2 := b1 q0 hq0b
  have g2' := b2 q0 hq0b
  have hmq : m = q1 * 2147483648 + r1 := by rw [hq1, hr1, Nat.mul_comm]; exact (Nat.div_add_mod m 2147483648).symm
  have hnu : n = u1 * 4294967296 + u0 := by rw [hu1, hu0, Nat.mul_comm]; exact (Nat.div_add_mod n 4294967296).symm
  have h21q : n21 = q0 * 2147483648 + r0 := by rw [hq0, hr0, Nat.mul_comm]; exact (Nat.div_add_mod n21 2147483648).symm
  have hr0b : r0 < 2147483648 := by rw [hr0]; exact Nat.mod_lt _ (by decide)
  have f8 := c1 m q1 r1 u1 n21 hmq hr1b hu1b hn21
  have f9 := a4 n21 q0 hn21b hq0
  have f9e : IntKind.u64.wrap ((n21 : Int) / 2147483648) = (q0 : Int) := by rw [← f9, Int.tdiv_eq_ediv_of_nonneg (Int.natCast_nonneg n21)]
  have f10 := a5 n21 q0 r0 hn21b hq0 hr0
  obtain ⟨Q, hQ⟩ : ∃ Q : Nat, Q = q1 * 4294967296 + q0 := ⟨_, rfl⟩
  obtain ⟨X, hX⟩ : ∃ X : Nat, X = r0 * 4294967296 + u0 := ⟨_, rfl⟩
  have f11 := c2 q1 q0 Q hq1b hq0b hQ
  have f12 := c1 n21 q0 r0 u0 X h21q hr0b hu0b hX
  have law := c3 hi lo m n u1 u0 q1 r1 n21 q0 r0 hm hn hnu hmq hn21 h21q hr0b hu0b
  rw [← hQ, ← hX] at law
  have Law := Lib.hid law
  clear law hQ hX hmq hnu h21q
  have hall := Lib.hid (And.intro hm (And.intro hn (And.intro hu1 (And.intro hu0 (And.intro hq1 (And.intro hr1 (And.intro hn21 (And.intro hq0 (And.intro hr0 (And.intro hh (And.intro h0 hl)))))))))))
  clear hm hn hu1 hu0 hq1 hr1 hn21 hq0 hr0 h0
  have bds := Lib.hid (And.intro hmb (And.intro hnb (And.intro hq1b (And.intro hr1b (And.intro hu1b (And.intro hu0b (And.intro hn21b (And.intro hq0b hr0b))))))))
  clear hmb hnb hq1b hr1b hu1b hu0b hn21b hq0b hr0b
  go_enter Tryd.func54, Tryd.ntmps54
  go_wp2_with fail
  refine (hL _).mono ?_
  rintro e w1 ⟨rfl, rfl⟩
  go_wp2_with fail
  refine wp_loop_rounds 1 ?_
  rw [rounds_succ]
  go_wp2_with fail
  refine wp_loop_rounds 1 ?_
  rw [rounds_succ]
  go_wp2_with fail
  refine bodyPost_ret (v := .tuple #[.int .u64 Q, .int .u64 ((X : Int) / 140737488355328)]) (by simp [results, Tryd.results54, go_sem]) rfl ⟨?_, G.refl _ _⟩
  rw [← Law.out.1, ← Law.out.2]
  rfl
end Go.Proofs.YtfcbdjjpmgmpoaaDoor

import Derived.Test.YteidggmgknnibaaDoorW1
import Derived.Handy
import Derived.Deep.Light
namespace Go.Proofs.YteidggmgknnibaaDoor
open Go.RowKit

set_option maxHeartbeats 1000000 in
theorem may_one_0lo (k a b c d f : Int) (w : World) (hk : k = 1 ∨ k = 6 ∨ k = 7) (h0 : a < 0) :
    Calls Tryd.prog 8 #[.agg #[.int .i64 k, .int .i64 a, .int .i64 b, .int .i64 c, .int .i64 d, .int .i64 f]] w fun e w' => e = .returned (.bool false) ∧ Below w.heap.size w w' := by
  go_enter Tryd.func8, Tryd.ntmps8
  go_wp2_with fail
  refine (fields_one k _ _ ?_ hk).mono ?_
  · simp
  rintro e w' ⟨rfl, rfl⟩
  go_wp2
  go_rounds 2
  all_goals
    go_ret
    refine ⟨rfl, ?_⟩
    go_grown

set_option maxHeartbeats 1000000 in
theorem may_one_0hi (k a b c d f : Int) (w : World) (hk : k = 1 ∨ k = 6 ∨ k = 7) (h0 : 2147483647 < a) :
    Calls Tryd.prog 8 #[.agg #[.int .i64 k, .int .i64 a, .int .i64 b, .int .i64 c, .int .i64 d, .int .i64 f]] w fun e w' => e = .returned (.bool false) ∧ Below w.heap.size w w' := by
  have h0x : ¬ a < 0 := by omega
  go_enter Tryd.func8, Tryd.ntmps8
  go_wp2_with fail
  refine (fields_one k _ _ ?_ hk).mono ?_
  · simp
  rintro e w' ⟨rfl, rfl⟩
  go_wp2
  go_rounds 2
  all_goals
    go_ret
    refine ⟨rfl, ?_⟩
    go_grown

set_option maxHeartbeats 1000000 in
theorem may_one_1 (k a b c d f : Int) (w : World) (hk : k = 1 ∨ k = 6 ∨ k = 7) (h0 : 0 ≤ a) (g0 : a ≤ 2147483647) :
    Calls Tryd.prog 8 #[.agg #[.int .i64 k, .int .i64 a, .int .i64 b, .int .i64 c, .int .i64 d, .int .i64 f]] w fun e w' => e = .returned (.bool (decide (b = 0 ∧ c = 0 ∧ d = 0 ∧ f = 0))) ∧ Below w.heap.size w w' := by
  go_enter Tryd.func8, Tryd.ntmps8
  go_wp2_with fail
  refine (fields_one k _ _ ?_ hk).mono ?_
  · simp
  rintro e w' ⟨rfl, rfl⟩
  go_wp2
  go_rounds 2
  all_goals
    go_ret
    refine ⟨?_, ?_⟩
    · (refine congrArg (fun x => Ending.returned (Value.bool x)) (?_ : (_ : Bool) = _)); go_light; first | rfl | (simp_all; done)
    · go_grown

set_option maxHeartbeats 1000000 in
theorem may_three_0lo (k a b c d f : Int) (w : World) (hk : k = 2 ∨ k = 3 ∨ k = 4) (h0 : b < 0) :
    Calls Tryd.prog 8 #[.agg #[.int .i64 k, .int .i64 a, .int .i64 b, .int .i64 c, .int .i64 d, .int .i64 f]] w fun e w' => e = .returned (.bool false) ∧ Below w.heap.size w w' := by
  go_enter Tryd.func8, Tryd.ntmps8
  go_wp2_with fail
  refine (fields_three k _ _ ?_ hk).mono ?_
  · simp
  rintro e w' ⟨rfl, rfl⟩
  go_wp2
  go_rounds 4
  all_goals
    go_ret
    refine ⟨rfl, ?_⟩
    go_grown

set_option maxHeartbeats 1000000 in
theorem may_three_0hi (k a b c d f : Int) (w : World) (hk : k = 2 ∨ k = 3 ∨ k = 4) (h0 : 2147483647 < b) :
    Calls Tryd.prog 8 #[.agg #[.int .i64 k, .int .i64 a, .int .i64 b, .int .i64 c, .int .i64 d, .int .i64 f]] w fun e w' => e = .returned (.bool false) ∧ Below w.heap.size w w' := by
  have h0x : ¬ b < 0 := by omega
  go_enter Tryd.func8, Tryd.ntmps8
  go_wp2_with fail
  refine (fields_three k _ _ ?_ hk).mono ?_
  · simp
  rintro e w' ⟨rfl, rfl⟩
  go_wp2
  go_rounds 4
  all_goals
    go_ret
    refine ⟨rfl, ?_⟩
    go_grown

set_option maxHeartbeats 1000000 in
theorem may_three_1lo (k a b c d f : Int) (w : World) (hk : k = 2 ∨ k = 3 ∨ k = 4) (h0 : 0 ≤ b) (g0 : b ≤ 2147483647) (h1 : c < 0) :
    Calls Tryd.prog 8 #[.agg #[.int .i64 k, .int .i64 a, .int .i64 b, .int .i64 c, .int .i64 d, .int .i64 f]] w fun e w' => e = .returned (.bool false) ∧ Below w.heap.size w w' := by
  go_enter Tryd.func8, Tryd.ntmps8
  go_wp2_with fail
  refine (fields_three k _ _ ?_ hk).mono ?_
  · simp
  rintro e w' ⟨rfl, rfl⟩
  go_wp2
  go_rounds 4
  all_goals
    go_ret
    refine ⟨rfl, ?_⟩
    go_grown

set_option maxHeartbeats 1000000 in
theorem may_three_1hi (k a b c d f : Int) (w : World) (hk : k = 2 ∨ k = 3 ∨ k = 4) (h0 : 0 ≤ b) (g0 : b ≤ 2147483647) (h1 : 2147483647 < c) :
    Calls Tryd.prog 8 #[.agg #[.int .i64 k, .int .i64 a, .int .i64 b, .int .i64 c, .int .i64 d, .int .i64 f]] w fun e w' => e = .returned (.bool false) ∧ Below w.heap.size w w' := by
  have h1x : ¬ c < 0 := by omega
  go_enter Tryd.func8, Tryd.ntmps8
  go_wp2_with fail
  refine (fields_three k _ _ ?_ hk).mono ?_
  · simp
  rintro e w' ⟨rfl, rfl⟩
  go_wp2
  go_rounds 4
  all_goals
    go_ret
    refine ⟨rfl, ?_⟩
    go_grown

set_option maxHeartbeats 1000000 in
theorem may_three_2lo (k a b c d f : Int) (w : World) (hk : k = 2 ∨ k = 3 ∨ k = 4) (h0 : 0 ≤ b) (g0 : b ≤ 2147483647) (h1 : 0 ≤ c) (g1 : c ≤ 2147483647) (h2 : d < 0) :
    Calls Tryd.prog 8 #[.agg #[.int .i64 k, .int .i64 a, .int .i64 b, .int .i64 c, .int .i64 d, .int .i64 f]] w fun e w' => e = .returned (.bool false) ∧ Below w.heap.size w w' := by
  go_enter Tryd.func8, Tryd.ntmps8
  go_wp2_with fail
  refine (fields_three k _ _ ?_ hk).mono ?_
  · simp
  rintro e w' ⟨rfl, rfl⟩
  go_wp2
  go_rounds 4
  all_goals
    go_ret
    refine ⟨rfl, ?_⟩
    go_grown

set_option maxHeartbeats 1000000 in
theorem may_three_2hi (k a b c d f : Int) (w : World) (hk : k = 2 ∨ k = 3 ∨ k = 4) (h0 : 0 ≤ b) (g0 : b ≤ 2147483647) (h1 : 0 ≤ c) (g1 : c ≤ 2147483647) (h2 : 2147483647 < d) :
    Calls Tryd.prog 8 #[.agg #[.int .i64 k, .int .i64 a, .int .i64 b, .int .i64 c, .int .i64 d, .int .i64 f]] w fun e w' => e = .returned (.bool false) ∧ Below w.heap.size w w' := by
  have h2x : ¬ d < 0 := by omega
  go_enter Tryd.func8, Tryd.ntmps8
  go_wp2_with fail
  refine (fields_three k _ _ ?_ hk).mono ?_
  · simp
  rintro e w' ⟨rfl, rfl⟩
  go_wp2
  go_rounds 4
  all_goals
    go_ret
    refine ⟨rfl, ?_⟩
    go_grown

set_option maxHeartbeats 1000000 in
theorem may_three_3 (k a b c d f : Int) (w : World) (hk : k = 2 ∨ k = 3 ∨ k = 4) (h0 : 0 ≤ b) (g0 : b ≤ 2147483647) (h1 : 0 ≤ c) (g1 : c ≤ 2147483647) (h2 : 0 ≤ d) (g2 : d ≤ 2147483647) :
    Calls Tryd.prog 8 #[.agg #[.int .i64 k, .int .i64 a, .int .i64 b, .int .i64 c, .int .i64 d, .int .i64 f]] w fun e w' => e = .returned (.bool (decide (a = 0 ∧ f = 0))) ∧ Below w.heap.size w w' := by
  go_enter Tryd.func8, Tryd.ntmps8
  go_wp2_with fail
  refine (fields_three k _ _ ?_ hk).mono ?_
  · simp
  rintro e w' ⟨rfl, rfl⟩
  go_wp2
  go_rounds 4
  all_goals
    go_ret
    refine ⟨?_, ?_⟩
    · (refine congrArg (fun x => Ending.returned (Value.bool x)) (?_ : (_ : Bool) = _)); go_light; first | rfl | (simp_all; done)
    · go_grown

set_option maxHeartbeats 1000000 in
theorem may_four_0lo (a b c d f : Int) (w : World)  (h0 : b < 0) :
    Calls Tryd.prog 8 #[.agg #[.int .i64 5, .int .i64 a, .int .i64 b, .int .i64 c, .int .i64 d, .int .i64 f]] w fun e w' => e = .returned (.bool false) ∧ Below w.heap.size w w' := by
  go_enter Tryd.func8, Tryd.ntmps8
  go_wp2_with fail
  refine (fields_four _ _ ?_).mono ?_
  · simp
  rintro e w' ⟨rfl, rfl⟩
  go_wp2
  go_rounds 5
  all_goals
    go_ret
    refine ⟨rfl, ?_⟩
    go_grown

set_option maxHeartbeats 1000000 in
theorem may_four_0hi (a b c d f : Int) (w : World)  (h0 : 2147483647 < b) :
    Calls Tryd.prog 8 #[.agg #[.int .i64 5, .int .i64 a, .int .i64 b, .int .i64 c, .int .i64 d, .int .i64 f]] w fun e w' => e = .returned (.bool false) ∧ Below w.heap.size w w' := by
  have h0x : ¬ b < 0 := by omega
  go_enter Tryd.func8, Tryd.ntmps8
  go_wp2_with fail
  refine (fields_four _ _ ?_).mono ?_
  · simp
  rintro e w' ⟨rfl, rfl⟩
  go_wp2
  go_rounds 5
  all_goals
    go_ret
    refine ⟨rfl, ?_⟩
    go_grown

set_option maxHeartbeats 1000000 in
theorem may_four_1lo (a b c d f : Int) (w : World)  (h0 : 0 ≤ b) (g0 : b ≤ 2147483647) (h1 : c < 0) :
    Calls Tryd.prog 8 #[.agg #[.int .i64 5, .int .i64 a, .int .i64 b, .int .i64 c, .int .i64 d, .int .i64 f]] w fun e w' => e = .returned (.bool false) ∧ Below w.heap.size w w' := by
  go_enter Tryd.func8, Tryd.ntmps8
  go_wp2_with fail
  refine (fields_four _ _ ?_).mono ?_
  · simp
  rintro e w' ⟨rfl, rfl⟩
  go_wp2
  go_rounds 5
  all_goals
    go_ret
    refine ⟨rfl, ?_⟩
    go_grown

set_option maxHeartbeats 1000000 in
theorem may_four_1hi (a b c d f : Int) (w : World)  (h0 : 0 ≤ b) (g0 : b ≤ 2147483647) (h1 : 2147483647 < c) :
    Calls Tryd.prog 8 #[.agg #[.int .i64 5, .int .i64 a, .int .i64 b, .int .i64 c, .int .i64 d, .int .i64 f]] w fun e w' => e = .returned (.bool false) ∧ Below w.heap.size w w' := by
  have h1x : ¬ c < 0 := by omega
  go_enter Tryd.func8, Tryd.ntmps8
  go_wp2_with fail
  refine (fields_four _ _ ?_).mono ?_
  · simp
  rintro e w' ⟨rfl, rfl⟩
  go_wp2
  go_rounds 5
  all_goals
    go_ret
    refine ⟨rfl, ?_⟩
    go_grown

set_option maxHeartbeats 1000000 in
theorem may_four_2lo (a b c d f : Int) (w : World)  (h0 : 0 ≤ b) (g0 : b ≤ 2147483647) (h1 : 0 ≤ c) (g1 : c ≤ 2147483647) (h2 : d < 0) :
    Calls Tryd.prog 8 #[.agg #[.int .i64 5, .int .i64 a, .int .i64 b, .int .i64 c, .int .i64 d, .int .i64 f]] w fun e w' => e = .returned (.bool false) ∧ Below w.heap.size w w' := by
  go_enter Tryd.func8, Tryd.ntmps8
  go_wp2_with fail
  refine (fields_four _ _ ?_).mono ?_
  · simp
  rintro e w' ⟨rfl, rfl⟩
  go_wp2
  go_rounds 5
  all_goals
    go_ret
    refine ⟨rfl, ?_⟩
    go_grown

set_option maxHeartbeats 1000000 in
theorem may_four_2hi (a b c d f : Int) (w : World)  (h0 : 0 ≤ b) (g0 : b ≤ 2147483647) (h1 : 0 ≤ c) (g1 : c ≤ 2147483647) (h2 : 2147483647 < d) :
    Calls Tryd.prog 8 #[.agg #[.int .i64 5, .int .i64 a, .int .i64 b, .int .i64 c, .int .i64 d, .int .i64 f]] w fun e w' => e = .returned (.bool false) ∧ Below w.heap.size w w' := by
  have h2x : ¬ d < 0 := by omega
  go_enter Tryd.func8, Tryd.ntmps8
  go_wp2_with fail
  refine (fields_four _ _ ?_).mono ?_
  · simp
  rintro e w' ⟨rfl, rfl⟩
  go_wp2
  go_rounds 5
  all_goals
    go_ret
    refine ⟨rfl, ?_⟩
    go_grown

set_option maxHeartbeats 1000000 in
theorem may_four_3lo (a b c d f : Int) (w : World)  (h0 : 0 ≤ b) (g0 : b ≤ 2147483647) (h1 : 0 ≤ c) (g1 : c ≤ 2147483647) (h2 : 0 ≤ d) (g2 : d ≤ 2147483647) (h3 : f < 0) :
    Calls Tryd.prog 8 #[.agg #[.int .i64 5, .int .i64 a, .int .i64 b, .int .i64 c, .int .i64 d, .int .i64 f]] w fun e w' => e = .returned (.bool false) ∧ Below w.heap.size w w' := by
  go_enter Tryd.func8, Tryd.ntmps8
  go_wp2_with fail
  refine (fields_four _ _ ?_).mono ?_
  · simp
  rintro e w' ⟨rfl, rfl⟩
  go_wp2
  go_rounds 5
  all_goals
    go_ret
    refine ⟨rfl, ?_⟩
    go_grown

set_option maxHeartbeats 1000000 in
theorem may_four_3hi (a b c d f : Int) (w : World)  (h0 : 0 ≤ b) (g0 : b ≤ 2147483647) (h1 : 0 ≤ c) (g1 : c ≤ 2147483647) (h2 : 0 ≤ d) (g2 : d ≤ 2147483647) (h3 : 2147483647 < f) :
    Calls Tryd.prog 8 #[.agg #[.int .i64 5, .int .i64 a, .int .i64 b, .int .i64 c, .int .i64 d, .int .i64 f]] w fun e w' => e = .returned (.bool false) ∧ Below w.heap.size w w' := by
  have h3x : ¬ f < 0 := by omega
  go_enter Tryd.func8, Tryd.ntmps8
  go_wp2_with fail
  refine (fields_four _ _ ?_).mono ?_
  · simp
  rintro e w' ⟨rfl, rfl⟩
  go_wp2
  go_rounds 5
  all_goals
    go_ret
    refine ⟨rfl, ?_⟩
    go_grown

set_option maxHeartbeats 1000000 in
theorem may_four_4 (a b c d f : Int) (w : World)  (h0 : 0 ≤ b) (g0 : b ≤ 2147483647) (h1 : 0 ≤ c) (g1 : c ≤ 2147483647) (h2 : 0 ≤ d) (g2 : d ≤ 2147483647) (h3 : 0 ≤ f) (g3 : f ≤ 2147483647) :
    Calls Tryd.prog 8 #[.agg #[.int .i64 5, .int .i64 a, .int .i64 b, .int .i64 c, .int .i64 d, .int .i64 f]] w fun e w' => e = .returned (.bool (decide (a = 0))) ∧ Below w.heap.size w w' := by
  go_enter Tryd.func8, Tryd.ntmps8
  go_wp2_with fail
  refine (fields_four _ _ ?_).mono ?_
  · simp
  rintro e w' ⟨rfl, rfl⟩
  go_wp2
  go_rounds 5
  all_goals
    go_ret
    refine ⟨?_, ?_⟩
    · (refine congrArg (fun x => Ending.returned (Value.bool x)) (?_ : (_ : Bool) = _)); go_light; first | rfl | (simp_all; done)
    · go_grown

set_option maxHeartbeats 1000000 in
theorem may_none (k a b c d f : Int) (w : World) (hk : ¬ (1 ≤ k ∧ k ≤ 7)) :
    Calls Tryd.prog 8 #[.agg #[.int .i64 k, .int .i64 a, .int .i64 b, .int .i64 c, .int .i64 d, .int .i64 f]] w fun e w' => e = .returned (.bool false) ∧ Below w.heap.size w w' := by
  go_enter Tryd.func8, Tryd.ntmps8
  go_wp2_with fail
  refine (fields_none k _ _ ?_ hk).mono ?_
  · simp
  rintro e w' ⟨rfl, rfl⟩
  go_wp2
  go_rounds 1
  all_goals
    go_ret
    refine ⟨rfl, ?_⟩
    go_grown
end Go.Proofs.YteidggmgknnibaaDoor

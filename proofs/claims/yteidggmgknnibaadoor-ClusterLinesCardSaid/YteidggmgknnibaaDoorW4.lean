import Derived.Test.YteidggmgknnibaaDoorW3
namespace Go.Proofs.YteidggmgknnibaaDoor
open Go.RowKit Go.Lines Go.Sort

theorem bcell {W w1 : World} {B : Nat} (hb : Below B W w1) : (∀ b o, b < B → w1.cell? ⟨b, o, none⟩ = W.cell? ⟨b, o, none⟩) ∧ (∀ b o, b < B → w1.frozen? ⟨b, o, none⟩ = W.frozen? ⟨b, o, none⟩) :=
  ⟨fun b o h => hb.cell (p := ⟨b, o, none⟩) h, fun b o h => hb.frozen (p := ⟨b, o, none⟩) h⟩

theorem may_x (k a b c d f : Int) (w : World) :
    Calls Tryd.prog 8 #[.agg #[.int .i64 k, .int .i64 a, .int .i64 b, .int .i64 c, .int .i64 d, .int .i64 f]] w fun e w' => e = .returned (.bool (mayB ⟨k, a, b, c, d, f⟩)) ∧ Below w.heap.size w w' := may_any ⟨k, a, b, c, d, f⟩ w

set_option maxHeartbeats 1000000 in
theorem line_not (k a b c d f : Int) (w : World) (hm : mayB ⟨k, a, b, c, d, f⟩ = false) :
    Calls Tryd.prog 4 #[.agg #[.int .i64 k, .int .i64 a, .int .i64 b, .int .i64 c, .int .i64 d, .int .i64 f]] w fun e w' => e = .returned (.tuple #[.string ByteArray.empty, .int .i64 292]) ∧ Below w.heap.size w w' := by
  go_enter Tryd.func4, Tryd.ntmps4
  go_wp2_with fail
  refine (may_x k a b c d f _).mono ?_
  rintro e w' ⟨rfl, hb⟩
  go_wp2
  go_ret2
  refine ⟨rfl, ?_⟩
  exact ((Below.refl _ w).alloc (Nat.le_refl _) _).trans (hb.mono (by simp))

def offs (k : Int) : List Nat := if k = 1 ∨ k = 6 ∨ k = 7 then [1] else if k = 2 ∨ k = 3 ∨ k = 4 then [2, 3, 4] else if k = 5 then [2, 3, 4, 5] else []
def fld (o : O) (x : Nat) : Int := if x = 1 then o.node else if x = 2 then o.frm else if x = 3 then o.too else if x = 4 then o.plc else o.bit

theorem fields_offs (o : O) : fieldsS o = (offs o.k).map (fld o) := by
  unfold fieldsS offs
  repeat' split
  all_goals simp [fld]

theorem offs_len (k : Int) : (offs k).length = arity k := by
  unfold offs arity
  repeat' split
  all_goals rfl

theorem offs_mem (k : Int) : ∀ x ∈ offs k, 1 ≤ x ∧ x ≤ 5 := by
  unfold offs
  repeat' split
  all_goals simp

/-- What 'fields' hands back, whatever the kind. -/
theorem fields_some (k : Int) (B : Nat) (w : World) (hc : w.cell? ⟨B, 0, none⟩ = some (.int .i64 k)) (h1 : 1 ≤ k) (h7 : k ≤ 7) :
    Calls Tryd.prog 9 #[.pointer (some ⟨B, 0, none⟩)] w fun e w' => e = .returned (.slice (some ⟨w.heap.size, 0, none⟩) (arity k) (arity k)) ∧ Below w.heap.size w w' ∧ w.heap.size < w'.heap.size ∧
      ∀ (i x : Nat), (offs k)[i]? = some x → w'.cell? ⟨w.heap.size, i, none⟩ = some (.pointer (some ⟨B, x, none⟩)) := by
  by_cases ha : k = 1 ∨ k = 6 ∨ k = 7
  · refine (fields_one k B w hc ha).mono ?_
    rintro e w' ⟨rfl, rfl⟩
    refine ⟨by simp [arity, ha], (Below.refl _ _).alloc (Nat.le_refl _) _, by simp, fun i x hi => ?_⟩
    rw [offs, if_pos ha] at hi
    match i, hi with
    | 0, hi => simp at hi; subst hi; simp
  by_cases hb : k = 2 ∨ k = 3 ∨ k = 4
  · refine (fields_three k B w hc hb).mono ?_
    rintro e w' ⟨rfl, rfl⟩
    refine ⟨by simp [arity, ha, hb], ((Below.refl _ _).alloc (Nat.le_refl _) _).drew, by simp, fun i x hi => ?_⟩
    rw [offs, if_neg ha, if_pos hb] at hi
    match i, hi with
    | 0, hi => simp at hi; subst hi; simp
    | 1, hi => simp at hi; subst hi; simp
    | 2, hi => simp at hi; subst hi; simp
  · obtain rfl : k = 5 := by omega
    refine (fields_four B w hc).mono ?_
    rintro e w' ⟨rfl, rfl⟩
    refine ⟨by simp [arity], ((Below.refl _ _).alloc (Nat.le_refl _) _).drew, by simp, fun i x hi => ?_⟩
    rw [offs, if_neg ha, if_neg hb, if_pos rfl] at hi
    match i, hi with
    | 0, hi => simp at hi; subst hi; simp
    | 1, hi => simp at hi; subst hi; simp
    | 2, hi => simp at hi; subst hi; simp
    | 3, hi => simp at hi; subst hi; simp

end Go.Proofs.YteidggmgknnibaaDoor

/- Contracts of scene's functions: names, holds, broken. -/
import Derived.Test.YtfcbdjjpmgmpoaaDoorXb
namespace Go.Proofs.YtfcbdjjpmgmpoaaDoor
open Go.RowKit Go.Mat Go.Ka Go.Proofs
attribute [local irreducible] Tr

theorem one_row {v : Int} {w : World} {b : Nat} (h : Row w b 0 [.int .i64 v]) (i : Nat) (hi : i < 1) : Row w b (0 + i * 1) [.int .i64 ((fun _ : Nat => v) i)] := by
  obtain rfl : i = 0 := by omega
  exact h
/-- Does an object keep a rule? -/
def hold4 (sc : Sc) (k : Nat) (x : Ob) : Bool := !(anyN 1 fun _ => decide ((x.id : Int) < 1) || decide (65535 < (x.id : Int))) && !(anyN k fun i => (sc.ob i).id == x.id)
def hold5 (_ : Sc) (_ : Nat) (x : Ob) : Bool := ckE 16777216 x.m all16 == 0
def hold6 (sc : Sc) (_ : Nat) (x : Ob) : Bool := mulE sc.cam x.m == 0 && ckE 67108864 (mulN sc.cam x.m) all16 == 0
def hold7 (_ : Sc) (_ : Nat) (x : Ob) : Bool := decide ((x.vn : Int) ≤ 64) && !(anyN x.vn fun i => farV (x.vs i))
def hold8 (_ : Sc) (_ : Nat) (x : Ob) : Bool := decide ((x.tn : Int) ≤ 64) && !(anyN x.tn fun i => outT x.vn (x.ts i))
/-- The objects ahead of the k-th that break a rule. -/
def bl (k : Nat) (hb : Nat → Bool) : List Nat := (List.range k).filter fun i => !(hb i)
theorem bl_yes {k : Nat} {hb : Nat → Bool} (h : hb k = false) : bl (k + 1) hb = bl k hb ++ [k] := by simp [bl, List.range_succ, List.filter_append, h]
theorem bl_no {k : Nat} {hb : Nat → Bool} (h : hb k = true) : bl (k + 1) hb = bl k hb := by simp [bl, List.range_succ, List.filter_append, h]
theorem bl_pre {k n : Nat} {hb : Nat → Bool} (h : k ≤ n) : bl k hb <+: bl n hb := by
  induction n with
  | zero => obtain rfl : k = 0 := by omega
            exact List.prefix_refl _
  | succ n ih =>
    by_cases e : k = n + 1
    · subst e; exact List.prefix_refl _
    · refine (ih (by omega)).trans ?_
      cases hq : hb n with
      | false => rw [bl_yes hq]; exact List.prefix_append _ _
      | true => rw [bl_no hq]; exact List.prefix_refl _
theorem bl_prefix {k n : Nat} {hb : Nat → Bool} (h : k < n) (hq : hb k = false) : bl k hb ++ [k] <+: bl n hb := by rw [← bl_yes hq]; exact bl_pre (by omega)
theorem bl_lt {k n : Nat} {hb : Nat → Bool} (h : k < n) (hq : hb k = false) : (bl k hb).length < (bl n hb).length := by
  have := (bl_prefix h hq).length_le
  simp at this; omega

theorem F.arr52 : arr Tryd.prog 52 = some (9, 1) := by kernel_rfl
theorem F.ty9 : tyv Tryd.prog 9 = some (.string (⟨#[]⟩), 1, false) := by kernel_rfl
theorem F.en31 : Enters Tryd.prog 31 := enters_of Tryd.func31 (by kernel_rfl) rfl
theorem F.en32 : Enters Tryd.prog 32 := enters_of Tryd.func32 (by kernel_rfl) rfl
theorem F.fld36_1 : fld Tryd.prog 36 1 = some 1 := by kernel_rfl
theorem F.fld28_2 : fld Tryd.prog 28 2 = some 2 := by kernel_rfl
theorem F.en15 : Enters Tryd.prog 15 := enters_of Tryd.func15 (by kernel_rfl) rfl
theorem F.en33 : Enters Tryd.prog 33 := enters_of Tryd.func33 (by kernel_rfl) rfl
theorem F.en34 : Enters Tryd.prog 34 := enters_of Tryd.func34 (by kernel_rfl) rfl
theorem F.fld36_3 : fld Tryd.prog 36 3 = some 18 := by kernel_rfl
theorem F.ty34 : tyv Tryd.prog 34 = some (.slice none 0 0, 1, false) := by kernel_rfl
theorem F.en35 : Enters Tryd.prog 35 := enters_of Tryd.func35 (by kernel_rfl) rfl
theorem F.en36 : Enters Tryd.prog 36 := enters_of Tryd.func36 (by kernel_rfl) rfl
theorem F.ty28 : tyv Tryd.prog 28 = some (.agg #[.int .i64 0, .int .i64 0, .int .i64 0, .int .i64 0, .int .i64 0, .int .i64 0, .int .i64 0, .int .i64 0, .int .i64 0, .int .i64 0, .int .i64 0, .int .i64 0, .int .i64 0, .int .i64 0, .int .i64 0, .int .i64 0, .int .i64 0, .int .i64 0, .slice none 0 0], 19, true) := by kernel_rfl
theorem F.en27 : Enters Tryd.prog 27 := enters_of Tryd.func27 (by kernel_rfl) rfl
set_option maxRecDepth 100000 in
set_option maxHeartbeats 4000000 in
theorem name_m1 (w : World) (hN : Row w 0 0 [.string (⟨#[]⟩), .string (⟨#[115, 105, 122, 101]⟩), .string (⟨#[99, 97, 109, 101, 114, 97]⟩), .string (⟨#[111, 98, 106, 101, 99, 116, 115]⟩), .string (⟨#[105, 100, 115]⟩), .string (⟨#[109, 97, 116, 114, 105, 120]⟩), .string (⟨#[98, 111, 116, 104]⟩), .string (⟨#[118, 101, 114, 116, 105, 99, 101, 115]⟩), .string (⟨#[116, 114, 105, 97, 110, 103, 108, 101, 115]⟩)]) : Calls Tryd.prog 7 #[.int .i64 (-1)] w (Gives (.string (⟨#[]⟩)) w) := by
  refine calls_enter No Tryd.func7 rfl rfl rfl rfl ?_
  refine Tr.seq ?_
  refine Tr.region ?_
  refine Tr.step rfl (Tr.val rfl rfl ?_)
  refine Tr.nil ?_
  refine Tr.thenN ?_
  refine Tr.seq ?_
  refine Tr.seq ?_
  refine Tr.region ?_
  refine Tr.step rfl (Tr.val rfl rfl ?_)
  refine Tr.step rfl (Tr.valE (.bool true) rfl rfl rfl ?_)
  refine Tr.step rfl (Tr.val rfl rfl ?_)
  refine Tr.stepNo rfl rfl rfl rfl rfl rfl ?_
  refine Tr.stepNo rfl rfl rfl rfl rfl rfl ?_
  refine Tr.step rfl (Tr.val rfl rfl ?_)
  refine Tr.nil ?_
  refine Tr.thenN ?_
  refine Tr.yes rfl ?_
  refine Tr.seq ?_
  refine Tr.region ?_
  refine Tr.step rfl (Tr.val rfl rfl ?_)
  refine Tr.nil ?_
  refine Tr.thenN ?_
  refine Tr.ret ?_
  refine Tr.thenR ?_
  refine Tr.leave rfl rfl ?_
  refine Tr.res1 rfl (RsV.tmp rfl) (fun w hw => ?_)
  exact ⟨rfl, hw.fm⟩

set_option maxRecDepth 100000 in
set_option maxHeartbeats 4000000 in
theorem name_0 (w : World) (hN : Row w 0 0 [.string (⟨#[]⟩), .string (⟨#[115, 105, 122, 101]⟩), .string (⟨#[99, 97, 109, 101, 114, 97]⟩), .string (⟨#[111, 98, 106, 101, 99, 116, 115]⟩), .string (⟨#[105, 100, 115]⟩), .string (⟨#[109, 97, 116, 114, 105, 120]⟩), .string (⟨#[98, 111, 116, 104]⟩), .string (⟨#[118, 101, 114, 116, 105, 99, 101, 115]⟩), .string (⟨#[116, 114, 105, 97, 110, 103, 108, 101, 115]⟩)]) : Calls Tryd.prog 7 #[.int .i64 0] w (Gives (.string (⟨#[]⟩)) w) := by
  refine calls_enter No Tryd.func7 rfl rfl rfl rfl ?_
  refine Tr.seq ?_
  refine Tr.region ?_
  refine Tr.step rfl (Tr.val rfl rfl ?_)
  refine Tr.nil ?_
  refine Tr.thenN ?_
  refine Tr.seq ?_
  refine Tr.seq ?_
  refine Tr.region ?_
  refine Tr.step rfl (Tr.val rfl rfl ?_)
  refine Tr.step rfl (Tr.valE (.bool false) rfl rfl rfl ?_)
  refine Tr.step rfl (Tr.val rfl rfl ?_)
  refine Tr.stepYes rfl rfl rfl rfl (Tr.val rfl rfl ?_)
  refine Tr.stepYes rfl rfl rfl rfl (Tr.valE (.bool false) rfl rfl rfl ?_)
  refine Tr.step rfl (Tr.val rfl rfl ?_)
  refine Tr.nil ?_
  refine Tr.thenN ?_
  refine Tr.not rfl ?_
  refine Tr.skip ?_
  refine Tr.thenN ?_
  refine Tr.seq ?_
  refine Tr.region ?_
  refine Tr.step rfl (Tr.val rfl rfl ?_)
  refine Tr.step rfl (Tr.indexArr (o' := 0) F.arr52 rfl rfl (by decide) (by decide) (rfl) rfl ?_)
  refine Tr.step rfl (Tr.load1 F.ty9 rfl (hN.toCell (fun h => h) (show [.string (⟨#[]⟩), .string (⟨#[115, 105, 122, 101]⟩), .string (⟨#[99, 97, 109, 101, 114, 97]⟩), .string (⟨#[111, 98, 106, 101, 99, 116, 115]⟩), .string (⟨#[105, 100, 115]⟩), .string (⟨#[109, 97, 116, 114, 105, 120]⟩), .string (⟨#[98, 111, 116, 104]⟩), .string (⟨#[118, 101, 114, 116, 105, 99, 101, 115]⟩), .string (⟨#[116, 114, 105, 97, 110, 103, 108, 101, 115]⟩)][0]? = some _ from rfl) rfl) rfl ?_)
  refine Tr.step rfl (Tr.val rfl rfl ?_)
  refine Tr.nil ?_
  refine Tr.thenN ?_
  refine Tr.ret ?_
  refine Tr.leave rfl rfl ?_
  refine Tr.res1 rfl (RsV.tmp rfl) (fun w hw => ?_)
  exact ⟨rfl, hw.fm⟩

set_option maxRecDepth 100000 in
set_option maxHeartbeats 4000000 in
theorem name_1 (w : World) (hN : Row w 0 0 [.string (⟨#[]⟩), .string (⟨#[115, 105, 122, 101]⟩), .string (⟨#[99, 97, 109, 101, 114, 97]⟩), .string (⟨#[111, 98, 106, 101, 99, 116, 115]⟩), .string (⟨#[105, 100, 115]⟩), .string (⟨#[109, 97, 116, 114, 105, 120]⟩), .string (⟨#[98, 111, 116, 104]⟩), .string (⟨#[118, 101, 114, 116, 105, 99, 101, 115]⟩), .string (⟨#[116, 114, 105, 97, 110, 103, 108, 101, 115]⟩)]) : Calls Tryd.prog 7 #[.int .i64 1] w (Gives (.string (⟨#[115, 105, 122, 101]⟩)) w) := by
  refine calls_enter No Tryd.func7 rfl rfl rfl rfl ?_
  refine Tr.seq ?_
  refine Tr.region ?_
  refine Tr.step rfl (Tr.val rfl rfl ?_)
  refine Tr.nil ?_
  refine Tr.thenN ?_
  refine Tr.seq ?_
  refine Tr.seq ?_
  refine Tr.region ?_
  refine Tr.step rfl (Tr.val rfl rfl ?_)
  refine Tr.step rfl (Tr.valE (.bool false) rfl rfl rfl ?_)
  refine Tr.step rfl (Tr.val rfl rfl ?_)
  refine Tr.stepYes rfl rfl rfl rfl (Tr.val rfl rfl ?_)
  refine Tr.stepYes rfl rfl rfl rfl (Tr.valE (.bool false) rfl rfl rfl ?_)
  refine Tr.step rfl (Tr.val rfl rfl ?_)
  refine Tr.nil ?_
  refine Tr.thenN ?_
  refine Tr.not rfl ?_
  refine Tr.skip ?_
  refine Tr.thenN ?_
  refine Tr.seq ?_
  refine Tr.region ?_
  refine Tr.step rfl (Tr.val rfl rfl ?_)
  refine Tr.step rfl (Tr.indexArr (o' := 1) F.arr52 rfl rfl (by decide) (by decide) (rfl) rfl ?_)
  refine Tr.step rfl (Tr.load1 F.ty9 rfl (hN.toCell (fun h => h) (show [.string (⟨#[]⟩), .string (⟨#[115, 105, 122, 101]⟩), .string (⟨#[99, 97, 109, 101, 114, 97]⟩), .string (⟨#[111, 98, 106, 101, 99, 116, 115]⟩), .string (⟨#[105, 100, 115]⟩), .string (⟨#[109, 97, 116, 114, 105, 120]⟩), .string (⟨#[98, 111, 116, 104]⟩), .string (⟨#[118, 101, 114, 116, 105, 99, 101, 115]⟩), .string (⟨#[116, 114, 105, 97, 110, 103, 108, 101, 115]⟩)][1]? = some _ from rfl) rfl) rfl ?_)
  refine Tr.step rfl (Tr.val rfl rfl ?_)
  refine Tr.nil ?_
  refine Tr.thenN ?_
  refine Tr.ret ?_
  refine Tr.leave rfl rfl ?_
  refine Tr.res1 rfl (RsV.tmp rfl) (fun w hw => ?_)
  exact ⟨rfl, hw.fm⟩

set_option maxRecDepth 100000 in
set_option maxHeartbeats 4000000 in
theorem name_2 (w : World) (hN : Row w 0 0 [.string (⟨#[]⟩), .string (⟨#[115, 105, 122, 101]⟩), .string (⟨#[99, 97, 109, 101, 114, 97]⟩), .string (⟨#[111, 98, 106, 101, 99, 116, 115]⟩), .string (⟨#[105, 100, 115]⟩), .string (⟨#[109, 97, 116, 114, 105, 120]⟩), .string (⟨#[98, 111, 116, 104]⟩), .string (⟨#[118, 101, 114, 116, 105, 99, 101, 115]⟩), .string (⟨#[116, 114, 105, 97, 110, 103, 108, 101, 115]⟩)]) : Calls Tryd.prog 7 #[.int .i64 2] w (Gives (.string (⟨#[99, 97, 109, 101, 114, 97]⟩)) w) := by
  refine calls_enter No Tryd.func7 rfl rfl rfl rfl ?_
  refine Tr.seq ?_
  refine Tr.region ?_
  refine Tr.step rfl (Tr.val rfl rfl ?_)
  refine Tr.nil ?_
  refine Tr.thenN ?_
  refine Tr.seq ?_
  refine Tr.seq ?_
  refine Tr.region ?_
  refine Tr.step rfl (Tr.val rfl rfl ?_)
  refine Tr.step rfl (Tr.valE (.bool false) rfl rfl rfl ?_)
  refine Tr.step rfl (Tr.val rfl rfl ?_)
  refine Tr.stepYes rfl rfl rfl rfl (Tr.val rfl rfl ?_)
  refine Tr.stepYes rfl rfl rfl rfl (Tr.valE (.bool false) rfl rfl rfl ?_)
  refine Tr.step rfl (Tr.val rfl rfl ?_)
  refine Tr.nil ?_
  refine Tr.thenN ?_
  refine Tr.not rfl ?_
  refine Tr.skip ?_
  refine Tr.thenN ?_
  refine Tr.seq ?_
  refine Tr.region ?_
  refine Tr.step rfl (Tr.val rfl rfl ?_)
  refine Tr.step rfl (Tr.indexArr (o' := 2) F.arr52 rfl rfl (by decide) (by decide) (rfl) rfl ?_)
  refine Tr.step rfl (Tr.load1 F.ty9 rfl (hN.toCell (fun h => h) (show [.string (⟨#[]⟩), .string (⟨#[115, 105, 122, 101]⟩), .string (⟨#[99, 97, 109, 101, 114, 97]⟩), .string (⟨#[111, 98, 106, 101, 99, 116, 115]⟩), .string (⟨#[105, 100, 115]⟩), .string (⟨#[109, 97, 116, 114, 105, 120]⟩), .string (⟨#[98, 111, 116, 104]⟩), .string (⟨#[118, 101, 114, 116, 105, 99, 101, 115]⟩), .string (⟨#[116, 114, 105, 97, 110, 103, 108, 101, 115]⟩)][2]? = some _ from rfl) rfl) rfl ?_)
  refine Tr.step rfl (Tr.val rfl rfl ?_)
  refine Tr.nil ?_
  refine Tr.thenN ?_
  refine Tr.ret ?_
  refine Tr.leave rfl rfl ?_
  refine Tr.res1 rfl (RsV.tmp rfl) (fun w hw => ?_)
  exact ⟨rfl, hw.fm⟩

set_option maxRecDepth 100000 in
set_option maxHeartbeats 4000000 in
theorem name_3 (w : World) (hN : Row w 0 0 [.string (⟨#[]⟩), .string (⟨#[115, 105, 122, 101]⟩), .string (⟨#[99, 97, 109, 101, 114, 97]⟩), .string (⟨#[111, 98, 106, 101, 99, 116, 115]⟩), .string (⟨#[105, 100, 115]⟩), .string (⟨#[109, 97, 116, 114, 105, 120]⟩), .string (⟨#[98, 111, 116, 104]⟩), .string (⟨#[118, 101, 114, 116, 105, 99, 101, 115]⟩), .string (⟨#[116, 114, 105, 97, 110, 103, 108, 101, 115]⟩)]) : Calls Tryd.prog 7 #[.int .i64 3] w (Gives (.string (⟨#[111, 98, 106, 101, 99, 116, 115]⟩)) w) := by
  refine calls_enter No Tryd.func7 rfl rfl rfl rfl ?_
  refine Tr.seq ?_
  refine Tr.region ?_
  refine Tr.step rfl (Tr.val rfl rfl ?_)
  refine Tr.nil ?_
  refine Tr.thenN ?_
  refine Tr.seq ?_
  refine Tr.seq ?_
  refine Tr.region ?_
  refine Tr.step rfl (Tr.val rfl rfl ?_)
  refine Tr.step rfl (Tr.valE (.bool false) rfl rfl rfl ?_)
  refine Tr.step rfl (Tr.val rfl rfl ?_)
  refine Tr.stepYes rfl rfl rfl rfl (Tr.val rfl rfl ?_)
  refine Tr.stepYes rfl rfl rfl rfl (Tr.valE (.bool false) rfl rfl rfl ?_)
  refine Tr.step rfl (Tr.val rfl rfl ?_)
  refine Tr.nil ?_
  refine Tr.thenN ?_
  refine Tr.not rfl ?_
  refine Tr.skip ?_
  refine Tr.thenN ?_
  refine Tr.seq ?_
  refine Tr.region ?_
  refine Tr.step rfl (Tr.val rfl rfl ?_)
  refine Tr.step rfl (Tr.indexArr (o' := 3) F.arr52 rfl rfl (by decide) (by decide) (rfl) rfl ?_)
  refine Tr.step rfl (Tr.load1 F.ty9 rfl (hN.toCell (fun h => h) (show [.string (⟨#[]⟩), .string (⟨#[115, 105, 122, 101]⟩), .string (⟨#[99, 97, 109, 101, 114, 97]⟩), .string (⟨#[111, 98, 106, 101, 99, 116, 115]⟩), .string (⟨#[105, 100, 115]⟩), .string (⟨#[109, 97, 116, 114, 105, 120]⟩), .string (⟨#[98, 111, 116, 104]⟩), .string (⟨#[118, 101, 114, 116, 105, 99, 101, 115]⟩), .string (⟨#[116, 114, 105, 97, 110, 103, 108, 101, 115]⟩)][3]? = some _ from rfl) rfl) rfl ?_)
  refine Tr.step rfl (Tr.val rfl rfl ?_)
  refine Tr.nil ?_
  refine Tr.thenN ?_
  refine Tr.ret ?_
  refine Tr.leave rfl rfl ?_
  refine Tr.res1 rfl (RsV.tmp rfl) (fun w hw => ?_)
  exact ⟨rfl, hw.fm⟩

set_option maxRecDepth 100000 in
set_option maxHeartbeats 4000000 in
theorem name_4 (w : World) (hN : Row w 0 0 [.string (⟨#[]⟩), .string (⟨#[115, 105, 122, 101]⟩), .string (⟨#[99, 97, 109, 101, 114, 97]⟩), .string (⟨#[111, 98, 106, 101, 99, 116, 115]⟩), .string (⟨#[105, 100, 115]⟩), .string (⟨#[109, 97, 116, 114, 105, 120]⟩), .string (⟨#[98, 111, 116, 104]⟩), .string (⟨#[118, 101, 114, 116, 105, 99, 101, 115]⟩), .string (⟨#[116, 114, 105, 97, 110, 103, 108, 101, 115]⟩)]) : Calls Tryd.prog 7 #[.int .i64 4] w (Gives (.string (⟨#[105, 100, 115]⟩)) w) := by
  refine calls_enter No Tryd.func7 rfl rfl rfl rfl ?_
  refine Tr.seq ?_
  refine Tr.region ?_
  refine Tr.step rfl (Tr.val rfl rfl ?_)
  refine Tr.nil ?_
  refine Tr.thenN ?_
  refine Tr.seq ?_
  refine Tr.seq ?_
  refine Tr.region ?_
  refine Tr.step rfl (Tr.val rfl rfl ?_)
  refine Tr.step rfl (Tr.valE (.bool false) rfl rfl rfl ?_)
  refine Tr.step rfl (Tr.val rfl rfl ?_)
  refine Tr.stepYes rfl rfl rfl rfl (Tr.val rfl rfl ?_)
  refine Tr.stepYes rfl rfl rfl rfl (Tr.valE (.bool false) rfl rfl rfl ?_)
  refine Tr.step rfl (Tr.val rfl rfl ?_)
  refine Tr.nil ?_
  refine Tr.thenN ?_
  refine Tr.not rfl ?_
  refine Tr.skip ?_
  refine Tr.thenN ?_
  refine Tr.seq ?_
  refine Tr.region ?_
  refine Tr.step rfl (Tr.val rfl rfl ?_)
  refine Tr.step rfl (Tr.indexArr (o' := 4) F.arr52 rfl rfl (by decide) (by decide) (rfl) rfl ?_)
  refine Tr.step rfl (Tr.load1 F.ty9 rfl (hN.toCell (fun h => h) (show [.string (⟨#[]⟩), .string (⟨#[115, 105, 122, 101]⟩), .string (⟨#[99, 97, 109, 101, 114, 97]⟩), .string (⟨#[111, 98, 106, 101, 99, 116, 115]⟩), .string (⟨#[105, 100, 115]⟩), .string (⟨#[109, 97, 116, 114, 105, 120]⟩), .string (⟨#[98, 111, 116, 104]⟩), .string (⟨#[118, 101, 114, 116, 105, 99, 101, 115]⟩), .string (⟨#[116, 114, 105, 97, 110, 103, 108, 101, 115]⟩)][4]? = some _ from rfl) rfl) rfl ?_)
  refine Tr.step rfl (Tr.val rfl rfl ?_)
  refine Tr.nil ?_
  refine Tr.thenN ?_
  refine Tr.ret ?_
  refine Tr.leave rfl rfl ?_
  refine Tr.res1 rfl (RsV.tmp rfl) (fun w hw => ?_)
  exact ⟨rfl, hw.fm⟩

set_option maxRecDepth 100000 in
set_option maxHeartbeats 4000000 in
theorem name_5 (w : World) (hN : Row w 0 0 [.string (⟨#[]⟩), .string (⟨#[115, 105, 122, 101]⟩), .string (⟨#[99, 97, 109, 101, 114, 97]⟩), .string (⟨#[111, 98, 106, 101, 99, 116, 115]⟩), .string (⟨#[105, 100, 115]⟩), .string (⟨#[109, 97, 116, 114, 105, 120]⟩), .string (⟨#[98, 111, 116, 104]⟩), .string (⟨#[118, 101, 114, 116, 105, 99, 101, 115]⟩), .string (⟨#[116, 114, 105, 97, 110, 103, 108, 101, 115]⟩)]) : Calls Tryd.prog 7 #[.int .i64 5] w (Gives (.string (⟨#[109, 97, 116, 114, 105, 120]⟩)) w) := by
  refine calls_enter No Tryd.func7 rfl rfl rfl rfl ?_
  refine Tr.seq ?_
  refine Tr.region ?_
  refine Tr.step rfl (Tr.val rfl rfl ?_)
  refine Tr.nil ?_
  refine Tr.thenN ?_
  refine Tr.seq ?_
  refine Tr.seq ?_
  refine Tr.region ?_
  refine Tr.step rfl (Tr.val rfl rfl ?_)
  refine Tr.step rfl (Tr.valE (.bool false) rfl rfl rfl ?_)
  refine Tr.step rfl (Tr.val rfl rfl ?_)
  refine Tr.stepYes rfl rfl rfl rfl (Tr.val rfl rfl ?_)
  refine Tr.stepYes rfl rfl rfl rfl (Tr.valE (.bool false) rfl rfl rfl ?_)
  refine Tr.step rfl (Tr.val rfl rfl ?_)
  refine Tr.nil ?_
  refine Tr.thenN ?_
  refine Tr.not rfl ?_
  refine Tr.skip ?_
  refine Tr.thenN ?_
  refine Tr.seq ?_
  refine Tr.region ?_
  refine Tr.step rfl (Tr.val rfl rfl ?_)
  refine Tr.step rfl (Tr.indexArr (o' := 5) F.arr52 rfl rfl (by decide) (by decide) (rfl) rfl ?_)
  refine Tr.step rfl (Tr.load1 F.ty9 rfl (hN.toCell (fun h => h) (show [.string (⟨#[]⟩), .string (⟨#[115, 105, 122, 101]⟩), .string (⟨#[99, 97, 109, 101, 114, 97]⟩), .string (⟨#[111, 98, 106, 101, 99, 116, 115]⟩), .string (⟨#[105, 100, 115]⟩), .string (⟨#[109, 97, 116, 114, 105, 120]⟩), .string (⟨#[98, 111, 116, 104]⟩), .string (⟨#[118, 101, 114, 116, 105, 99, 101, 115]⟩), .string (⟨#[116, 114, 105, 97, 110, 103, 108, 101, 115]⟩)][5]? = some _ from rfl) rfl) rfl ?_)
  refine Tr.step rfl (Tr.val rfl rfl ?_)
  refine Tr.nil ?_
  refine Tr.thenN ?_
  refine Tr.ret ?_
  refine Tr.leave rfl rfl ?_
  refine Tr.res1 rfl (RsV.tmp rfl) (fun w hw => ?_)
  exact ⟨rfl, hw.fm⟩

set_option maxRecDepth 100000 in
set_option maxHeartbeats 4000000 in
theorem name_6 (w : World) (hN : Row w 0 0 [.string (⟨#[]⟩), .string (⟨#[115, 105, 122, 101]⟩), .string (⟨#[99, 97, 109, 101, 114, 97]⟩), .string (⟨#[111, 98, 106, 101, 99, 116, 115]⟩), .string (⟨#[105, 100, 115]⟩), .string (⟨#[109, 97, 116, 114, 105, 120]⟩), .string (⟨#[98, 111, 116, 104]⟩), .string (⟨#[118, 101, 114, 116, 105, 99, 101, 115]⟩), .string (⟨#[116, 114, 105, 97, 110, 103, 108, 101, 115]⟩)]) : Calls Tryd.prog 7 #[.int .i64 6] w (Gives (.string (⟨#[98, 111, 116, 104]⟩)) w) := by
  refine calls_enter No Tryd.func7 rfl rfl rfl rfl ?_
  refine Tr.seq ?_
  refine Tr.region ?_
  refine Tr.step rfl (Tr.val rfl rfl ?_)
  refine Tr.nil ?_
  refine Tr.thenN ?_
  refine Tr.seq ?_
  refine Tr.seq ?_
  refine Tr.region ?_
  refine Tr.step rfl (Tr.val rfl rfl ?_)
  refine Tr.step rfl (Tr.valE (.bool false) rfl rfl rfl ?_)
  refine Tr.step rfl (Tr.val rfl rfl ?_)
  refine Tr.stepYes rfl rfl rfl rfl (Tr.val rfl rfl ?_)
  refine Tr.stepYes rfl rfl rfl rfl (Tr.valE (.bool false) rfl rfl rfl ?_)
  refine Tr.step rfl (Tr.val rfl rfl ?_)
  refine Tr.nil ?_
  refine Tr.thenN ?_
  refine Tr.not rfl ?_
  refine Tr.skip ?_
  refine Tr.thenN ?_
  refine Tr.seq ?_
  refine Tr.region ?_
  refine Tr.step rfl (Tr.val rfl rfl ?_)
  refine Tr.step rfl (Tr.indexArr (o' := 6) F.arr52 rfl rfl (by decide) (by decide) (rfl) rfl ?_)
  refine Tr.step rfl (Tr.load1 F.ty9 rfl (hN.toCell (fun h => h) (show [.string (⟨#[]⟩), .string (⟨#[115, 105, 122, 101]⟩), .string (⟨#[99, 97, 109, 101, 114, 97]⟩), .string (⟨#[111, 98, 106, 101, 99, 116, 115]⟩), .string (⟨#[105, 100, 115]⟩), .string (⟨#[109, 97, 116, 114, 105, 120]⟩), .string (⟨#[98, 111, 116, 104]⟩), .string (⟨#[118, 101, 114, 116, 105, 99, 101, 115]⟩), .string (⟨#[116, 114, 105, 97, 110, 103, 108, 101, 115]⟩)][6]? = some _ from rfl) rfl) rfl ?_)
  refine Tr.step rfl (Tr.val rfl rfl ?_)
  refine Tr.nil ?_
  refine Tr.thenN ?_
  refine Tr.ret ?_
  refine Tr.leave rfl rfl ?_
  refine Tr.res1 rfl (RsV.tmp rfl) (fun w hw => ?_)
  exact ⟨rfl, hw.fm⟩

set_option maxRecDepth 100000 in
set_option maxHeartbeats 4000000 in
theorem name_7 (w : World) (hN : Row w 0 0 [.string (⟨#[]⟩), .string (⟨#[115, 105, 122, 101]⟩), .string (⟨#[99, 97, 109, 101, 114, 97]⟩), .string (⟨#[111, 98, 106, 101, 99, 116, 115]⟩), .string (⟨#[105, 100, 115]⟩), .string (⟨#[109, 97, 116, 114, 105, 120]⟩), .string (⟨#[98, 111, 116, 104]⟩), .string (⟨#[118, 101, 114, 116, 105, 99, 101, 115]⟩), .string (⟨#[116, 114, 105, 97, 110, 103, 108, 101, 115]⟩)]) : Calls Tryd.prog 7 #[.int .i64 7] w (Gives (.string (⟨#[118, 101, 114, 116, 105, 99, 101, 115]⟩)) w) := by
  refine calls_enter No Tryd.func7 rfl rfl rfl rfl ?_
  refine Tr.seq ?_
  refine Tr.region ?_
  refine Tr.step rfl (Tr.val rfl rfl ?_)
  refine Tr.nil ?_
  refine Tr.thenN ?_
  refine Tr.seq ?_
  refine Tr.seq ?_
  refine Tr.region ?_
  refine Tr.step rfl (Tr.val rfl rfl ?_)
  refine Tr.step rfl (Tr.valE (.bool false) rfl rfl rfl ?_)
  refine Tr.step rfl (Tr.val rfl rfl ?_)
  refine Tr.stepYes rfl rfl rfl rfl (Tr.val rfl rfl ?_)
  refine Tr.stepYes rfl rfl rfl rfl (Tr.valE (.bool false) rfl rfl rfl ?_)
  refine Tr.step rfl (Tr.val rfl rfl ?_)
  refine Tr.nil ?_
  refine Tr.thenN ?_
  refine Tr.not rfl ?_
  refine Tr.skip ?_
  refine Tr.thenN ?_
  refine Tr.seq ?_
  refine Tr.region ?_
  refine Tr.step rfl (Tr.val rfl rfl ?_)
  refine Tr.step rfl (Tr.indexArr (o' := 7) F.arr52 rfl rfl (by decide) (by decide) (rfl) rfl ?_)
  refine Tr.step rfl (Tr.load1 F.ty9 rfl (hN.toCell (fun h => h) (show [.string (⟨#[]⟩), .string (⟨#[115, 105, 122, 101]⟩), .string (⟨#[99, 97, 109, 101, 114, 97]⟩), .string (⟨#[111, 98, 106, 101, 99, 116, 115]⟩), .string (⟨#[105, 100, 115]⟩), .string (⟨#[109, 97, 116, 114, 105, 120]⟩), .string (⟨#[98, 111, 116, 104]⟩), .string (⟨#[118, 101, 114, 116, 105, 99, 101, 115]⟩), .string (⟨#[116, 114, 105, 97, 110, 103, 108, 101, 115]⟩)][7]? = some _ from rfl) rfl) rfl ?_)
  refine Tr.step rfl (Tr.val rfl rfl ?_)
  refine Tr.nil ?_
  refine Tr.thenN ?_
  refine Tr.ret ?_
  refine Tr.leave rfl rfl ?_
  refine Tr.res1 rfl (RsV.tmp rfl) (fun w hw => ?_)
  exact ⟨rfl, hw.fm⟩

set_option maxRecDepth 100000 in
set_option maxHeartbeats 4000000 in
theorem name_8 (w : World) (hN : Row w 0 0 [.string (⟨#[]⟩), .string (⟨#[115, 105, 122, 101]⟩), .string (⟨#[99, 97, 109, 101, 114, 97]⟩), .string (⟨#[111, 98, 106, 101, 99, 116, 115]⟩), .string (⟨#[105, 100, 115]⟩), .string (⟨#[109, 97, 116, 114, 105, 120]⟩), .string (⟨#[98, 111, 116, 104]⟩), .string (⟨#[118, 101, 114, 116, 105, 99, 101, 115]⟩), .string (⟨#[116, 114, 105, 97, 110, 103, 108, 101, 115]⟩)]) : Calls Tryd.prog 7 #[.int .i64 8] w (Gives (.string (⟨#[116, 114, 105, 97, 110, 103, 108, 101, 115]⟩)) w) := by
  refine calls_enter No Tryd.func7 rfl rfl rfl rfl ?_
  refine Tr.seq ?_
  refine Tr.region ?_
  refine Tr.step rfl (Tr.val rfl rfl ?_)
  refine Tr.nil ?_
  refine Tr.thenN ?_
  refine Tr.seq ?_
  refine Tr.seq ?_
  refine Tr.region ?_
  refine Tr.step rfl (Tr.val rfl rfl ?_)
  refine Tr.step rfl (Tr.valE (.bool false) rfl rfl rfl ?_)
  refine Tr.step rfl (Tr.val rfl rfl ?_)
  refine Tr.stepYes rfl rfl rfl rfl (Tr.val rfl rfl ?_)
  refine Tr.stepYes rfl rfl rfl rfl (Tr.valE (.bool false) rfl rfl rfl ?_)
  refine Tr.step rfl (Tr.val rfl rfl ?_)
  refine Tr.nil ?_
  refine Tr.thenN ?_
  refine Tr.not rfl ?_
  refine Tr.skip ?_
  refine Tr.thenN ?_
  refine Tr.seq ?_
  refine Tr.region ?_
  refine Tr.step rfl (Tr.val rfl rfl ?_)
  refine Tr.step rfl (Tr.indexArr (o' := 8) F.arr52 rfl rfl (by decide) (by decide) (rfl) rfl ?_)
  refine Tr.step rfl (Tr.load1 F.ty9 rfl (hN.toCell (fun h => h) (show [.string (⟨#[]⟩), .string (⟨#[115, 105, 122, 101]⟩), .string (⟨#[99, 97, 109, 101, 114, 97]⟩), .string (⟨#[111, 98, 106, 101, 99, 116, 115]⟩), .string (⟨#[105, 100, 115]⟩), .string (⟨#[109, 97, 116, 114, 105, 120]⟩), .string (⟨#[98, 111, 116, 104]⟩), .string (⟨#[118, 101, 114, 116, 105, 99, 101, 115]⟩), .string (⟨#[116, 114, 105, 97, 110, 103, 108, 101, 115]⟩)][8]? = some _ from rfl) rfl) rfl ?_)
  refine Tr.step rfl (Tr.val rfl rfl ?_)
  refine Tr.nil ?_
  refine Tr.thenN ?_
  refine Tr.ret ?_
  refine Tr.leave rfl rfl ?_
  refine Tr.res1 rfl (RsV.tmp rfl) (fun w hw => ?_)
  exact ⟨rfl, hw.fm⟩

set_option maxRecDepth 100000 in
set_option maxHeartbeats 4000000 in
theorem name_9 (w : World) (hN : Row w 0 0 [.string (⟨#[]⟩), .string (⟨#[115, 105, 122, 101]⟩), .string (⟨#[99, 97, 109, 101, 114, 97]⟩), .string (⟨#[111, 98, 106, 101, 99, 116, 115]⟩), .string (⟨#[105, 100, 115]⟩), .string (⟨#[109, 97, 116, 114, 105, 120]⟩), .string (⟨#[98, 111, 116, 104]⟩), .string (⟨#[118, 101, 114, 116, 105, 99, 101, 115]⟩), .string (⟨#[116, 114, 105, 97, 110, 103, 108, 101, 115]⟩)]) : Calls Tryd.prog 7 #[.int .i64 9] w (Gives (.string (⟨#[]⟩)) w) := by
  refine calls_enter No Tryd.func7 rfl rfl rfl rfl ?_
  refine Tr.seq ?_
  refine Tr.region ?_
  refine Tr.step rfl (Tr.val rfl rfl ?_)
  refine Tr.nil ?_
  refine Tr.thenN ?_
  refine Tr.seq ?_
  refine Tr.seq ?_
  refine Tr.region ?_
  refine Tr.step rfl (Tr.val rfl rfl ?_)
  refine Tr.step rfl (Tr.valE (.bool false) rfl rfl rfl ?_)
  refine Tr.step rfl (Tr.val rfl rfl ?_)
  refine Tr.stepYes rfl rfl rfl rfl (Tr.val rfl rfl ?_)
  refine Tr.stepYes rfl rfl rfl rfl (Tr.valE (.bool true) rfl rfl rfl ?_)
  refine Tr.step rfl (Tr.val rfl rfl ?_)
  refine Tr.nil ?_
  refine Tr.thenN ?_
  refine Tr.yes rfl ?_
  refine Tr.seq ?_
  refine Tr.region ?_
  refine Tr.step rfl (Tr.val rfl rfl ?_)
  refine Tr.nil ?_
  refine Tr.thenN ?_
  refine Tr.ret ?_
  refine Tr.thenR ?_
  refine Tr.leave rfl rfl ?_
  refine Tr.res1 rfl (RsV.tmp rfl) (fun w hw => ?_)
  exact ⟨rfl, hw.fm⟩

set_option maxRecDepth 100000 in
set_option maxHeartbeats 4000000 in
theorem holds_4 (sc : Sc) (k : Nat) (x : Ob) (w : World) (hon : sc.on ≤ 9223372036854775807) (hk : k ≤ sc.on) (hc : sc.on ≤ sc.oc) (hm : SlM w sc.oa sc.on 19 fun i => obC (sc.ob i)) : Calls Tryd.prog 27 #[scV sc, .int .i64 k, .agg #[.int .i64 x.id, .int .i64 (x.m 0), .int .i64 (x.m 1), .int .i64 (x.m 2), .int .i64 (x.m 3), .int .i64 (x.m 4), .int .i64 (x.m 5), .int .i64 (x.m 6), .int .i64 (x.m 7), .int .i64 (x.m 8), .int .i64 (x.m 9), .int .i64 (x.m 10), .int .i64 (x.m 11), .int .i64 (x.m 12), .int .i64 (x.m 13), .int .i64 (x.m 14), .int .i64 (x.m 15), .slice x.va x.vn x.vc, .slice x.ta x.tn x.tc], .int .i64 4] w (Gives (.bool (hold4 sc k x)) w) := by
  refine calls_enter No Tryd.func27 rfl rfl rfl rfl ?_
  refine Tr.seq ?_
  refine Tr.region ?_
  refine Tr.step rfl (Tr.box rfl rfl rfl ?_)
  rintro u1
  refine Tr.step rfl (Tr.box rfl rfl rfl ?_)
  rintro u2
  refine Tr.step rfl (Tr.val rfl rfl ?_)
  refine Tr.nil ?_
  refine Tr.thenN ?_
  refine Tr.seq ?_
  refine Tr.seq ?_
  refine Tr.region ?_
  refine Tr.step rfl (Tr.val rfl rfl ?_)
  refine Tr.nil ?_
  refine Tr.thenN ?_
  refine Tr.block ?_
  refine Tr.seq ?_
  refine Tr.region ?_
  refine Tr.step rfl (Tr.valE (.bool true) rfl rfl rfl ?_)
  refine Tr.step rfl (Tr.val rfl rfl ?_)
  refine Tr.nil ?_
  refine Tr.thenN ?_
  refine Tr.yes rfl ?_
  refine Tr.seq ?_
  refine Tr.region ?_
  refine Tr.step rfl (Tr.val rfl rfl ?_)
  refine Tr.step rfl (Tr.val rfl rfl ?_)
  refine Tr.nil ?_
  refine Tr.thenN ?_
  refine Tr.seq ?_
  refine Tr.region ?_
  refine Tr.step rfl (Tr.fieldAddr (o' := 0) F.fld36_0 rfl rfl rfl ?_)
  refine Tr.step rfl (Tr.load1 F.ty3 rfl (Cell.own 0 rfl rfl) rfl ?_)
  refine Tr.step rfl (Tr.buildSl #[.int .i64 x.id] F.und64 F.ty3 (by decide) (by decide) rfl (by kernel_rfl) rfl ?_)
  rintro u3
  refine Tr.step rfl (Tr.call (v := .bool (!(anyN 1 fun i => decide ((x.id : Int) < 1) || decide (65535 < (x.id : Int))))) F.en18 rfl (fun w hw => in_n 1 65535 _ 1 1 (fun _ => x.id) (by decide) w (.inr ⟨_, 0, rfl, fun i hi => one_row (hw.row 0 1 rfl rfl) i hi⟩)) rfl ?_)
  refine Tr.step rfl (Tr.val rfl rfl ?_)
  refine Tr.decide 22 rfl (fun h1 => ?_) (fun h1 => ?_)
  · skip
    refine Tr.known 21 true rfl (by simp [h1]) ?_
    refine Tr.stepYes rfl rfl rfl rfl (Tr.fieldAddr (o' := 18) F.fld28_3 rfl rfl rfl ?_)
    refine Tr.stepYes rfl rfl rfl rfl (Tr.load1 F.ty26 rfl (Cell.own 2 rfl rfl) rfl ?_)
    refine Tr.stepYes rfl rfl rfl rfl (Tr.val rfl rfl ?_)
    refine Tr.stepYes rfl rfl rfl rfl (Tr.sliceHi (m := k) F.sli26 rfl rfl (rfl) (by omega) rfl ?_)
    refine Tr.stepYes rfl rfl rfl rfl (Tr.val rfl rfl ?_)
    refine Tr.stepYes rfl rfl rfl rfl (Tr.call (v := .bool (anyN k fun i => (sc.ob i).id == x.id)) F.en32 rfl (fun w hw => contOb sc.oa 31 _ k sc.oc sc.ob (fun e => e.id == x.id) (by omega) w ((hm.le hk).call hw.fm) F.en31 (fun i hi W hF => holds1 (sc.ob i) x _ W ((hw.row 1 19 rfl rfl).call hF))) rfl ?_)
    refine Tr.stepYes rfl rfl rfl rfl (Tr.val rfl rfl ?_)
    refine Tr.step rfl (Tr.val rfl rfl ?_)
    refine Tr.step rfl (Tr.val rfl rfl ?_)
    refine Tr.nil ?_
    refine Tr.thenN ?_
    refine Tr.ret ?_
    refine Tr.blockR ?_
    refine Tr.thenR ?_
    refine Tr.leave rfl rfl ?_
    refine Tr.res1 rfl (RsV.tmp rfl) (fun w hw => ?_)
    exact ⟨congrArg Ending.returned (vbool (by simp [hold4, *])), hw.fm⟩
  · skip
    refine Tr.known 21 false rfl (by simp [h1]) ?_
    refine Tr.stepNo rfl rfl rfl rfl rfl rfl ?_
    refine Tr.stepNo rfl rfl rfl rfl rfl rfl ?_
    refine Tr.stepNo rfl rfl rfl rfl rfl rfl ?_
    refine Tr.stepNo rfl rfl rfl rfl rfl rfl ?_
    refine Tr.stepNo rfl rfl rfl rfl rfl rfl ?_
    refine Tr.stepNo rfl rfl rfl rfl rfl rfl ?_
    refine Tr.stepNo rfl rfl rfl rfl rfl rfl ?_
    refine Tr.step rfl (Tr.val rfl rfl ?_)
    refine Tr.step rfl (Tr.val rfl rfl ?_)
    refine Tr.nil ?_
    refine Tr.thenN ?_
    refine Tr.ret ?_
    refine Tr.blockR ?_
    refine Tr.thenR ?_
    refine Tr.leave rfl rfl ?_
    refine Tr.res1 rfl (RsV.tmp rfl) (fun w hw => ?_)
    exact ⟨congrArg Ending.returned (vbool (by simp [hold4, *])), hw.fm⟩

set_option maxRecDepth 100000 in
set_option maxHeartbeats 4000000 in
theorem holds_5 (sc : Sc) (k : Nat) (x : Ob) (w : World)  : Calls Tryd.prog 27 #[scV sc, .int .i64 k, .agg #[.int .i64 x.id, .int .i64 (x.m 0), .int .i64 (x.m 1), .int .i64 (x.m 2), .int .i64 (x.m 3), .int .i64 (x.m 4), .int .i64 (x.m 5), .int .i64 (x.m 6), .int .i64 (x.m 7), .int .i64 (x.m 8), .int .i64 (x.m 9), .int .i64 (x.m 10), .int .i64 (x.m 11), .int .i64 (x.m 12), .int .i64 (x.m 13), .int .i64 (x.m 14), .int .i64 (x.m 15), .slice x.va x.vn x.vc, .slice x.ta x.tn x.tc], .int .i64 5] w (Gives (.bool (hold5 sc k x)) w) := by
  refine calls_enter No Tryd.func27 rfl rfl rfl rfl ?_
  refine Tr.seq ?_
  refine Tr.region ?_
  refine Tr.step rfl (Tr.box rfl rfl rfl ?_)
  rintro u1
  refine Tr.step rfl (Tr.box rfl rfl rfl ?_)
  rintro u2
  refine Tr.step rfl (Tr.val rfl rfl ?_)
  refine Tr.nil ?_
  refine Tr.thenN ?_
  refine Tr.seq ?_
  refine Tr.seq ?_
  refine Tr.region ?_
  refine Tr.step rfl (Tr.val rfl rfl ?_)
  refine Tr.nil ?_
  refine Tr.thenN ?_
  refine Tr.block ?_
  refine Tr.seq ?_
  refine Tr.region ?_
  refine Tr.step rfl (Tr.valE (.bool false) rfl rfl rfl ?_)
  refine Tr.step rfl (Tr.val rfl rfl ?_)
  refine Tr.nil ?_
  refine Tr.thenN ?_
  refine Tr.not rfl ?_
  refine Tr.seq ?_
  refine Tr.region ?_
  refine Tr.step rfl (Tr.valE (.bool true) rfl rfl rfl ?_)
  refine Tr.step rfl (Tr.val rfl rfl ?_)
  refine Tr.nil ?_
  refine Tr.thenN ?_
  refine Tr.yes rfl ?_
  refine Tr.seq ?_
  refine Tr.region ?_
  refine Tr.step rfl (Tr.fieldAddr (o' := 1) F.fld36_1 rfl rfl rfl ?_)
  refine Tr.step rfl (Tr.loadN (vs := [.int .i64 (x.m 0), .int .i64 (x.m 1), .int .i64 (x.m 2), .int .i64 (x.m 3), .int .i64 (x.m 4), .int .i64 (x.m 5), .int .i64 (x.m 6), .int .i64 (x.m 7), .int .i64 (x.m 8), .int .i64 (x.m 9), .int .i64 (x.m 10), .int .i64 (x.m 11), .int .i64 (x.m 12), .int .i64 (x.m 13), .int .i64 (x.m 14), .int .i64 (x.m 15)]) F.ty25 rfl (Cells.own 0 16 rfl rfl) rfl rfl ?_)
  refine Tr.step rfl (Tr.call (v := .int .i64 (ckE 16777216 x.m all16)) F.en19 rfl (fun w hw => check_n x.m 16777216 (by decide) (by decide) w) rfl ?_)
  refine Tr.step rfl (Tr.val rfl rfl ?_)
  refine Tr.step rfl (Tr.val rfl rfl ?_)
  refine Tr.nil ?_
  refine Tr.thenN ?_
  refine Tr.ret ?_
  refine Tr.blockR ?_
  refine Tr.thenR ?_
  refine Tr.leave rfl rfl ?_
  refine Tr.res1 rfl (RsV.tmp rfl) (fun w hw => ?_)
  exact ⟨congrArg Ending.returned (vbool (by simp [hold5, *])), hw.fm⟩

set_option maxRecDepth 100000 in
set_option maxHeartbeats 4000000 in
theorem holds_6 (sc : Sc) (k : Nat) (x : Ob) (w : World)  : Calls Tryd.prog 27 #[scV sc, .int .i64 k, .agg #[.int .i64 x.id, .int .i64 (x.m 0), .int .i64 (x.m 1), .int .i64 (x.m 2), .int .i64 (x.m 3), .int .i64 (x.m 4), .int .i64 (x.m 5), .int .i64 (x.m 6), .int .i64 (x.m 7), .int .i64 (x.m 8), .int .i64 (x.m 9), .int .i64 (x.m 10), .int .i64 (x.m 11), .int .i64 (x.m 12), .int .i64 (x.m 13), .int .i64 (x.m 14), .int .i64 (x.m 15), .slice x.va x.vn x.vc, .slice x.ta x.tn x.tc], .int .i64 6] w (Gives (.bool (hold6 sc k x)) w) := by
  refine calls_enter No Tryd.func27 rfl rfl rfl rfl ?_
  refine Tr.seq ?_
  refine Tr.region ?_
  refine Tr.step rfl (Tr.box rfl rfl rfl ?_)
  rintro u1
  refine Tr.step rfl (Tr.box rfl rfl rfl ?_)
  rintro u2
  refine Tr.step rfl (Tr.val rfl rfl ?_)
  refine Tr.nil ?_
  refine Tr.thenN ?_
  refine Tr.seq ?_
  refine Tr.seq ?_
  refine Tr.region ?_
  refine Tr.step rfl (Tr.val rfl rfl ?_)
  refine Tr.nil ?_
  refine Tr.thenN ?_
  refine Tr.block ?_
  refine Tr.seq ?_
  refine Tr.region ?_
  refine Tr.step rfl (Tr.valE (.bool false) rfl rfl rfl ?_)
  refine Tr.step rfl (Tr.val rfl rfl ?_)
  refine Tr.nil ?_
  refine Tr.thenN ?_
  refine Tr.not rfl ?_
  refine Tr.seq ?_
  refine Tr.region ?_
  refine Tr.step rfl (Tr.valE (.bool false) rfl rfl rfl ?_)
  refine Tr.step rfl (Tr.val rfl rfl ?_)
  refine Tr.nil ?_
  refine Tr.thenN ?_
  refine Tr.not rfl ?_
  refine Tr.seq ?_
  refine Tr.region ?_
  refine Tr.step rfl (Tr.valE (.bool true) rfl rfl rfl ?_)
  refine Tr.step rfl (Tr.val rfl rfl ?_)
  refine Tr.nil ?_
  refine Tr.thenN ?_
  refine Tr.yes rfl ?_
  refine Tr.seq ?_
  refine Tr.region ?_
  refine Tr.step rfl (Tr.fieldAddr (o' := 2) F.fld28_2 rfl rfl rfl ?_)
  refine Tr.step rfl (Tr.loadN (vs := [.int .i64 (sc.cam 0), .int .i64 (sc.cam 1), .int .i64 (sc.cam 2), .int .i64 (sc.cam 3), .int .i64 (sc.cam 4), .int .i64 (sc.cam 5), .int .i64 (sc.cam 6), .int .i64 (sc.cam 7), .int .i64 (sc.cam 8), .int .i64 (sc.cam 9), .int .i64 (sc.cam 10), .int .i64 (sc.cam 11), .int .i64 (sc.cam 12), .int .i64 (sc.cam 13), .int .i64 (sc.cam 14), .int .i64 (sc.cam 15)]) F.ty25 rfl (Cells.own 1 16 rfl rfl) rfl rfl ?_)
  refine Tr.step rfl (Tr.fieldAddr (o' := 1) F.fld36_1 rfl rfl rfl ?_)
  refine Tr.step rfl (Tr.loadN (vs := [.int .i64 (x.m 0), .int .i64 (x.m 1), .int .i64 (x.m 2), .int .i64 (x.m 3), .int .i64 (x.m 4), .int .i64 (x.m 5), .int .i64 (x.m 6), .int .i64 (x.m 7), .int .i64 (x.m 8), .int .i64 (x.m 9), .int .i64 (x.m 10), .int .i64 (x.m 11), .int .i64 (x.m 12), .int .i64 (x.m 13), .int .i64 (x.m 14), .int .i64 (x.m 15)]) F.ty25 rfl (Cells.own 0 16 rfl rfl) rfl rfl ?_)
  refine Tr.step rfl (Tr.call (v := .tuple #[.agg #[.int .i64 (mulN sc.cam x.m 0), .int .i64 (mulN sc.cam x.m 1), .int .i64 (mulN sc.cam x.m 2), .int .i64 (mulN sc.cam x.m 3), .int .i64 (mulN sc.cam x.m 4), .int .i64 (mulN sc.cam x.m 5), .int .i64 (mulN sc.cam x.m 6), .int .i64 (mulN sc.cam x.m 7), .int .i64 (mulN sc.cam x.m 8), .int .i64 (mulN sc.cam x.m 9), .int .i64 (mulN sc.cam x.m 10), .int .i64 (mulN sc.cam x.m 11), .int .i64 (mulN sc.cam x.m 12), .int .i64 (mulN sc.cam x.m 13), .int .i64 (mulN sc.cam x.m 14), .int .i64 (mulN sc.cam x.m 15)], .int .i64 (mulE sc.cam x.m)]) F.en15 rfl (fun w hw => mul_m sc.cam x.m w) rfl ?_)
  refine Tr.step rfl (Tr.val rfl rfl ?_)
  refine Tr.step rfl (Tr.val rfl rfl ?_)
  refine Tr.step rfl (Tr.val rfl rfl ?_)
  refine Tr.step rfl (Tr.alloc F.ty25 rfl rfl ?_)
  rintro u3
  refine Tr.step rfl (Tr.store 0 F.ty25 rfl rfl rfl rfl rfl rfl rfl rfl rfl rfl ?_)
  refine Tr.step rfl (Tr.val rfl rfl ?_)
  refine Tr.nil ?_
  refine Tr.thenN ?_
  refine Tr.seq ?_
  refine Tr.region ?_
  refine Tr.step rfl (Tr.val rfl rfl ?_)
  refine Tr.step rfl (Tr.val rfl rfl ?_)
  refine Tr.step rfl (Tr.val rfl rfl ?_)
  refine Tr.decide 49 rfl (fun h1 => ?_) (fun h1 => ?_)
  · replace h1 := eT h1
    refine Tr.known 48 true rfl (by simpa using h1) ?_
    refine Tr.stepYes rfl rfl rfl rfl (Tr.loadN (vs := [.int .i64 (mulN sc.cam x.m 0), .int .i64 (mulN sc.cam x.m 1), .int .i64 (mulN sc.cam x.m 2), .int .i64 (mulN sc.cam x.m 3), .int .i64 (mulN sc.cam x.m 4), .int .i64 (mulN sc.cam x.m 5), .int .i64 (mulN sc.cam x.m 6), .int .i64 (mulN sc.cam x.m 7), .int .i64 (mulN sc.cam x.m 8), .int .i64 (mulN sc.cam x.m 9), .int .i64 (mulN sc.cam x.m 10), .int .i64 (mulN sc.cam x.m 11), .int .i64 (mulN sc.cam x.m 12), .int .i64 (mulN sc.cam x.m 13), .int .i64 (mulN sc.cam x.m 14), .int .i64 (mulN sc.cam x.m 15)]) F.ty25 rfl (Cells.own 0 16 rfl rfl) rfl rfl ?_)
    refine Tr.stepYes rfl rfl rfl rfl (Tr.call (v := .int .i64 (ckE 67108864 (mulN sc.cam x.m) all16)) F.en19 rfl (fun w hw => check_n (mulN sc.cam x.m) 67108864 (by decide) (by decide) w) rfl ?_)
    refine Tr.stepYes rfl rfl rfl rfl (Tr.val rfl rfl ?_)
    refine Tr.step rfl (Tr.val rfl rfl ?_)
    refine Tr.step rfl (Tr.val rfl rfl ?_)
    refine Tr.nil ?_
    refine Tr.thenN ?_
    refine Tr.ret ?_
    refine Tr.blockR ?_
    refine Tr.thenR ?_
    refine Tr.leave rfl rfl ?_
    refine Tr.res1 rfl (RsV.tmp rfl) (fun w hw => ?_)
    exact ⟨congrArg Ending.returned (vbool (by simp [hold6, *])), hw.fm⟩
  · replace h1 := eF h1
    refine Tr.known 48 false rfl (by simpa using h1) ?_
    refine Tr.stepNo rfl rfl rfl rfl rfl rfl ?_
    refine Tr.stepNo rfl rfl rfl rfl rfl rfl ?_
    refine Tr.stepNo rfl rfl rfl rfl rfl rfl ?_
    refine Tr.step rfl (Tr.val rfl rfl ?_)
    refine Tr.step rfl (Tr.val rfl rfl ?_)
    refine Tr.nil ?_
    refine Tr.thenN ?_
    refine Tr.ret ?_
    refine Tr.blockR ?_
    refine Tr.thenR ?_
    refine Tr.leave rfl rfl ?_
    refine Tr.res1 rfl (RsV.tmp rfl) (fun w hw => ?_)
    exact ⟨congrArg Ending.returned (vbool (by simp [hold6, *])), hw.fm⟩

set_option maxRecDepth 100000 in
set_option maxHeartbeats 4000000 in
theorem holds_7 (sc : Sc) (k : Nat) (x : Ob) (w : World) (hn : x.vn ≤ 9223372036854775807) (hm : SlM w x.va x.vn 3 fun i => [.int .i64 (x.vs i 0), .int .i64 (x.vs i 1), .int .i64 (x.vs i 2)]) : Calls Tryd.prog 27 #[scV sc, .int .i64 k, .agg #[.int .i64 x.id, .int .i64 (x.m 0), .int .i64 (x.m 1), .int .i64 (x.m 2), .int .i64 (x.m 3), .int .i64 (x.m 4), .int .i64 (x.m 5), .int .i64 (x.m 6), .int .i64 (x.m 7), .int .i64 (x.m 8), .int .i64 (x.m 9), .int .i64 (x.m 10), .int .i64 (x.m 11), .int .i64 (x.m 12), .int .i64 (x.m 13), .int .i64 (x.m 14), .int .i64 (x.m 15), .slice x.va x.vn x.vc, .slice x.ta x.tn x.tc], .int .i64 7] w (Gives (.bool (hold7 sc k x)) w) := by
  refine calls_enter No Tryd.func27 rfl rfl rfl rfl ?_
  refine Tr.seq ?_
  refine Tr.region ?_
  refine Tr.step rfl (Tr.box rfl rfl rfl ?_)
  rintro u1
  refine Tr.step rfl (Tr.box rfl rfl rfl ?_)
  rintro u2
  refine Tr.step rfl (Tr.val rfl rfl ?_)
  refine Tr.nil ?_
  refine Tr.thenN ?_
  refine Tr.seq ?_
  refine Tr.seq ?_
  refine Tr.region ?_
  refine Tr.step rfl (Tr.val rfl rfl ?_)
  refine Tr.nil ?_
  refine Tr.thenN ?_
  refine Tr.block ?_
  refine Tr.seq ?_
  refine Tr.region ?_
  refine Tr.step rfl (Tr.valE (.bool false) rfl rfl rfl ?_)
  refine Tr.step rfl (Tr.val rfl rfl ?_)
  refine Tr.nil ?_
  refine Tr.thenN ?_
  refine Tr.not rfl ?_
  refine Tr.seq ?_
  refine Tr.region ?_
  refine Tr.step rfl (Tr.valE (.bool false) rfl rfl rfl ?_)
  refine Tr.step rfl (Tr.val rfl rfl ?_)
  refine Tr.nil ?_
  refine Tr.thenN ?_
  refine Tr.not rfl ?_
  refine Tr.seq ?_
  refine Tr.region ?_
  refine Tr.step rfl (Tr.valE (.bool false) rfl rfl rfl ?_)
  refine Tr.step rfl (Tr.val rfl rfl ?_)
  refine Tr.nil ?_
  refine Tr.thenN ?_
  refine Tr.not rfl ?_
  refine Tr.seq ?_
  refine Tr.region ?_
  refine Tr.step rfl (Tr.valE (.bool true) rfl rfl rfl ?_)
  refine Tr.step rfl (Tr.val rfl rfl ?_)
  refine Tr.nil ?_
  refine Tr.thenN ?_
  refine Tr.yes rfl ?_
  refine Tr.seq ?_
  refine Tr.region ?_
  refine Tr.step rfl (Tr.val rfl rfl ?_)
  refine Tr.nil ?_
  refine Tr.thenN ?_
  refine Tr.seq ?_
  refine Tr.region ?_
  refine Tr.step rfl (Tr.fieldAddr (o' := 17) F.fld36_2 rfl rfl rfl ?_)
  refine Tr.step rfl (Tr.load1 F.ty33 rfl (Cell.own 0 rfl rfl) rfl ?_)
  refine Tr.step rfl (Tr.blt (v := .int .i64 (x.vn : Int)) rfl (fun _ _ => blt_lenSlice F.und33 _ _ _ _ _ _) rfl ?_)
  refine Tr.step rfl (Tr.val rfl rfl ?_)
  refine Tr.step rfl (Tr.val rfl rfl ?_)
  refine Tr.decide 60 rfl (fun h1 => ?_) (fun h1 => ?_)
  · replace h1 := dT h1
    refine Tr.known 59 true rfl (by exact decide_eq_true h1) ?_
    refine Tr.stepYes rfl rfl rfl rfl (Tr.fieldAddr (o' := 17) F.fld36_2 rfl rfl rfl ?_)
    refine Tr.stepYes rfl rfl rfl rfl (Tr.load1 F.ty33 rfl (Cell.own 0 rfl rfl) rfl ?_)
    refine Tr.stepYes rfl rfl rfl rfl (Tr.val rfl rfl ?_)
    refine Tr.stepYes rfl rfl rfl rfl (Tr.call (v := .bool (anyN x.vn fun i => farV (x.vs i))) F.en34 rfl (fun w hw => contV x.va 33 _ x.vn x.vc x.vs farV hn w (hm.call hw.fm) F.en33 (fun i hi W hF => holds2 (x.vs i) W)) rfl ?_)
    refine Tr.stepYes rfl rfl rfl rfl (Tr.val rfl rfl ?_)
    refine Tr.step rfl (Tr.val rfl rfl ?_)
    refine Tr.step rfl (Tr.val rfl rfl ?_)
    refine Tr.nil ?_
    refine Tr.thenN ?_
    refine Tr.ret ?_
    refine Tr.blockR ?_
    refine Tr.thenR ?_
    refine Tr.leave rfl rfl ?_
    refine Tr.res1 rfl (RsV.tmp rfl) (fun w hw => ?_)
    exact ⟨congrArg Ending.returned (vbool (by simp [hold7, *])), hw.fm⟩
  · replace h1 := dF h1
    refine Tr.known 59 false rfl (by exact decide_eq_false h1) ?_
    refine Tr.stepNo rfl rfl rfl rfl rfl rfl ?_
    refine Tr.stepNo rfl rfl rfl rfl rfl rfl ?_
    refine Tr.stepNo rfl rfl rfl rfl rfl rfl ?_
    refine Tr.stepNo rfl rfl rfl rfl rfl rfl ?_
    refine Tr.stepNo rfl rfl rfl rfl rfl rfl ?_
    refine Tr.step rfl (Tr.val rfl rfl ?_)
    refine Tr.step rfl (Tr.val rfl rfl ?_)
    refine Tr.nil ?_
    refine Tr.thenN ?_
    refine Tr.ret ?_
    refine Tr.blockR ?_
    refine Tr.thenR ?_
    refine Tr.leave rfl rfl ?_
    refine Tr.res1 rfl (RsV.tmp rfl) (fun w hw => ?_)
    exact ⟨congrArg Ending.returned (vbool (by simp [hold7, *])), hw.fm⟩

set_option maxRecDepth 100000 in
set_option maxHeartbeats 4000000 in
theorem holds_8 (sc : Sc) (k : Nat) (x : Ob) (w : World) (hn : x.tn ≤ 9223372036854775807) (hv : x.vn ≤ 9223372036854775807) (hm : SlM w x.ta x.tn 4 fun i => [.int .i64 (x.ts i 0), .int .i64 (x.ts i 1), .int .i64 (x.ts i 2), .int .u32 (x.ts i 3)]) : Calls Tryd.prog 27 #[scV sc, .int .i64 k, .agg #[.int .i64 x.id, .int .i64 (x.m 0), .int .i64 (x.m 1), .int .i64 (x.m 2), .int .i64 (x.m 3), .int .i64 (x.m 4), .int .i64 (x.m 5), .int .i64 (x.m 6), .int .i64 (x.m 7), .int .i64 (x.m 8), .int .i64 (x.m 9), .int .i64 (x.m 10), .int .i64 (x.m 11), .int .i64 (x.m 12), .int .i64 (x.m 13), .int .i64 (x.m 14), .int .i64 (x.m 15), .slice x.va x.vn x.vc, .slice x.ta x.tn x.tc], .int .i64 8] w (Gives (.bool (hold8 sc k x)) w) := by
  refine calls_enter No Tryd.func27 rfl rfl rfl rfl ?_
  refine Tr.seq ?_
  refine Tr.region ?_
  refine Tr.step rfl (Tr.box rfl rfl rfl ?_)
  rintro u1
  refine Tr.step rfl (Tr.box rfl rfl rfl ?_)
  rintro u2
  refine Tr.step rfl (Tr.val rfl rfl ?_)
  refine Tr.nil ?_
  refine Tr.thenN ?_
  refine Tr.seq ?_
  refine Tr.seq ?_
  refine Tr.region ?_
  refine Tr.step rfl (Tr.val rfl rfl ?_)
  refine Tr.nil ?_
  refine Tr.thenN ?_
  refine Tr.block ?_
  refine Tr.seq ?_
  refine Tr.region ?_
  refine Tr.step rfl (Tr.valE (.bool false) rfl rfl rfl ?_)
  refine Tr.step rfl (Tr.val rfl rfl ?_)
  refine Tr.nil ?_
  refine Tr.thenN ?_
  refine Tr.not rfl ?_
  refine Tr.seq ?_
  refine Tr.region ?_
  refine Tr.step rfl (Tr.valE (.bool false) rfl rfl rfl ?_)
  refine Tr.step rfl (Tr.val rfl rfl ?_)
  refine Tr.nil ?_
  refine Tr.thenN ?_
  refine Tr.not rfl ?_
  refine Tr.seq ?_
  refine Tr.region ?_
  refine Tr.step rfl (Tr.valE (.bool false) rfl rfl rfl ?_)
  refine Tr.step rfl (Tr.val rfl rfl ?_)
  refine Tr.nil ?_
  refine Tr.thenN ?_
  refine Tr.not rfl ?_
  refine Tr.seq ?_
  refine Tr.region ?_
  refine Tr.step rfl (Tr.valE (.bool false) rfl rfl rfl ?_)
  refine Tr.step rfl (Tr.val rfl rfl ?_)
  refine Tr.nil ?_
  refine Tr.thenN ?_
  refine Tr.not rfl ?_
  refine Tr.skip ?_
  refine Tr.blockN ?_
  refine Tr.thenN ?_
  refine Tr.seq ?_
  refine Tr.region ?_
  refine Tr.step rfl (Tr.val rfl rfl ?_)
  refine Tr.step rfl (Tr.val rfl rfl ?_)
  refine Tr.nil ?_
  refine Tr.thenN ?_
  refine Tr.seq ?_
  refine Tr.region ?_
  refine Tr.step rfl (Tr.fieldAddr (o' := 18) F.fld36_3 rfl rfl rfl ?_)
  refine Tr.step rfl (Tr.load1 F.ty34 rfl (Cell.own 0 rfl rfl) rfl ?_)
  refine Tr.step rfl (Tr.blt (v := .int .i64 (x.tn : Int)) rfl (fun _ _ => blt_lenSlice F.und34 _ _ _ _ _ _) rfl ?_)
  refine Tr.step rfl (Tr.val rfl rfl ?_)
  refine Tr.step rfl (Tr.val rfl rfl ?_)
  refine Tr.decide 72 rfl (fun h1 => ?_) (fun h1 => ?_)
  · replace h1 := dT h1
    refine Tr.known 71 true rfl (by exact decide_eq_true h1) ?_
    refine Tr.stepYes rfl rfl rfl rfl (Tr.fieldAddr (o' := 18) F.fld36_3 rfl rfl rfl ?_)
    refine Tr.stepYes rfl rfl rfl rfl (Tr.load1 F.ty34 rfl (Cell.own 0 rfl rfl) rfl ?_)
    refine Tr.stepYes rfl rfl rfl rfl (Tr.val rfl rfl ?_)
    refine Tr.stepYes rfl rfl rfl rfl (Tr.call (v := .bool (anyN x.tn fun i => outT x.vn (x.ts i))) F.en36 rfl (fun w hw => contT x.ta 35 _ x.tn x.tc x.ts (outT x.vn) hn w (hm.call hw.fm) F.en35 (fun i hi W hF => holds3 (x.ts i) x hv _ W ((hw.row 0 19 rfl rfl).call hF))) rfl ?_)
    refine Tr.stepYes rfl rfl rfl rfl (Tr.val rfl rfl ?_)
    refine Tr.step rfl (Tr.val rfl rfl ?_)
    refine Tr.step rfl (Tr.val rfl rfl ?_)
    refine Tr.nil ?_
    refine Tr.thenN ?_
    refine Tr.ret ?_
    refine Tr.leave rfl rfl ?_
    refine Tr.res1 rfl (RsV.tmp rfl) (fun w hw => ?_)
    exact ⟨congrArg Ending.returned (vbool (by simp [hold8, *])), hw.fm⟩
  · replace h1 := dF h1
    refine Tr.known 71 false rfl (by exact decide_eq_false h1) ?_
    refine Tr.stepNo rfl rfl rfl rfl rfl rfl ?_
    refine Tr.stepNo rfl rfl rfl rfl rfl rfl ?_
    refine Tr.stepNo rfl rfl rfl rfl rfl rfl ?_
    refine Tr.stepNo rfl rfl rfl rfl rfl rfl ?_
    refine Tr.stepNo rfl rfl rfl rfl rfl rfl ?_
    refine Tr.step rfl (Tr.val rfl rfl ?_)
    refine Tr.step rfl (Tr.val rfl rfl ?_)
    refine Tr.nil ?_
    refine Tr.thenN ?_
    refine Tr.ret ?_
    refine Tr.leave rfl rfl ?_
    refine Tr.res1 rfl (RsV.tmp rfl) (fun w hw => ?_)
    exact ⟨congrArg Ending.returned (vbool (by simp [hold8, *])), hw.fm⟩

set_option maxRecDepth 100000 in
set_option maxHeartbeats 4000000 in
theorem broken_any (sc : Sc) (r : Int) (w : World) : Calls Tryd.prog 20 #[scV sc, .int .i64 r] w fun e w' => ∃ x : Nat × Nat, e = .returned (.func (.func 26) #[] #[.pointer (some ⟨x.1, 0, none⟩), .pointer (some ⟨x.2, 0, none⟩)]) ∧ Fm No w w' ∧ New w w' [(x.1, .cells #[.int .i64 sc.W, .int .i64 sc.H, .int .i64 (sc.cam 0), .int .i64 (sc.cam 1), .int .i64 (sc.cam 2), .int .i64 (sc.cam 3), .int .i64 (sc.cam 4), .int .i64 (sc.cam 5), .int .i64 (sc.cam 6), .int .i64 (sc.cam 7), .int .i64 (sc.cam 8), .int .i64 (sc.cam 9), .int .i64 (sc.cam 10), .int .i64 (sc.cam 11), .int .i64 (sc.cam 12), .int .i64 (sc.cam 13), .int .i64 (sc.cam 14), .int .i64 (sc.cam 15), .slice sc.oa sc.on sc.oc] 28), (x.2, .cells #[.int .i64 r] 3)] := by
  refine calls_enter No Tryd.func20 rfl rfl rfl rfl ?_
  refine Tr.seq ?_
  refine Tr.region ?_
  refine Tr.step rfl (Tr.box rfl rfl rfl ?_)
  rintro u1
  refine Tr.step rfl (Tr.box rfl rfl rfl ?_)
  rintro u2
  refine Tr.step rfl (Tr.val rfl rfl ?_)
  refine Tr.nil ?_
  refine Tr.thenN ?_
  refine Tr.seq ?_
  refine Tr.region ?_
  refine Tr.step rfl (Tr.val rfl rfl ?_)
  refine Tr.step rfl (Tr.val rfl rfl ?_)
  refine Tr.nil ?_
  refine Tr.thenN ?_
  refine Tr.ret ?_
  refine Tr.leave rfl rfl ?_
  refine Tr.res1 rfl (RsV.tmp rfl) (fun w hw => ?_)
  exact ⟨(u1, u2), rfl, hw.fm, hw.new rfl [1, 0] (by decide) rfl⟩

set_option maxRecDepth 100000 in
set_option maxHeartbeats 4000000 in
theorem broken_some (sc : Sc) (r : Int) (hb : Nat → Bool) (b1 b2 B : Nat) (ob oo : Nat) (hon : sc.on ≤ 9223372036854775807) (w : World) (Keep : Nat → Prop) (hlt : ∀ b, Keep b → b < w.heap.size) (k1 : Keep b1) (k2 : Keep b2) (k3 : Keep ob) (hB : ∀ b, b < B → Keep b)
    (h1 : w.heap[b1]? = some (.cells #[.int .i64 sc.W, .int .i64 sc.H, .int .i64 (sc.cam 0), .int .i64 (sc.cam 1), .int .i64 (sc.cam 2), .int .i64 (sc.cam 3), .int .i64 (sc.cam 4), .int .i64 (sc.cam 5), .int .i64 (sc.cam 6), .int .i64 (sc.cam 7), .int .i64 (sc.cam 8), .int .i64 (sc.cam 9), .int .i64 (sc.cam 10), .int .i64 (sc.cam 11), .int .i64 (sc.cam 12), .int .i64 (sc.cam 13), .int .i64 (sc.cam 14), .int .i64 (sc.cam 15), .slice (some ⟨ob, oo, none⟩) sc.on sc.oc] 28)) (h2 : w.heap[b2]? = some (.cells #[.int .i64 r] 3)) (hr : ∀ i, i < sc.on → Row w ob (oo + i * 19) (obC (sc.ob i)))
    (hh : ∀ k, k < sc.on → ∀ W, (∀ b, b < B → W.heap[b]? = w.heap[b]?) → Calls Tryd.prog 27 #[.agg #[.int .i64 sc.W, .int .i64 sc.H, .int .i64 (sc.cam 0), .int .i64 (sc.cam 1), .int .i64 (sc.cam 2), .int .i64 (sc.cam 3), .int .i64 (sc.cam 4), .int .i64 (sc.cam 5), .int .i64 (sc.cam 6), .int .i64 (sc.cam 7), .int .i64 (sc.cam 8), .int .i64 (sc.cam 9), .int .i64 (sc.cam 10), .int .i64 (sc.cam 11), .int .i64 (sc.cam 12), .int .i64 (sc.cam 13), .int .i64 (sc.cam 14), .int .i64 (sc.cam 15), .slice (some ⟨ob, oo, none⟩) sc.on sc.oc], .int .i64 k, .agg #[.int .i64 ((sc.ob k).id), .int .i64 ((sc.ob k).m 0), .int .i64 ((sc.ob k).m 1), .int .i64 ((sc.ob k).m 2), .int .i64 ((sc.ob k).m 3), .int .i64 ((sc.ob k).m 4), .int .i64 ((sc.ob k).m 5), .int .i64 ((sc.ob k).m 6), .int .i64 ((sc.ob k).m 7), .int .i64 ((sc.ob k).m 8), .int .i64 ((sc.ob k).m 9), .int .i64 ((sc.ob k).m 10), .int .i64 ((sc.ob k).m 11), .int .i64 ((sc.ob k).m 12), .int .i64 ((sc.ob k).m 13), .int .i64 ((sc.ob k).m 14), .int .i64 ((sc.ob k).m 15), .slice ((sc.ob k).va) ((sc.ob k).vn) ((sc.ob k).vc), .slice ((sc.ob k).ta) ((sc.ob k).tn) ((sc.ob k).tc)], .int .i64 r] W (Gives (.bool (hb k)) W)) :
    Iter Tryd.prog 26 #[.pointer (some ⟨b1, 0, none⟩), .pointer (some ⟨b2, 0, none⟩)] (fun x : Nat => #[.int .i64 (x : Int)]) Keep (bl sc.on hb) w := by
  refine iter_enter Tryd.func26 rfl rfl rfl rfl hlt ?_
  rintro lp J Jx hJ hJx W hW hY
  have q1 : Row W b1 0 [.int .i64 sc.W, .int .i64 sc.H, .int .i64 (sc.cam 0), .int .i64 (sc.cam 1), .int .i64 (sc.cam 2), .int .i64 (sc.cam 3), .int .i64 (sc.cam 4), .int .i64 (sc.cam 5), .int .i64 (sc.cam 6), .int .i64 (sc.cam 7), .int .i64 (sc.cam 8), .int .i64 (sc.cam 9), .int .i64 (sc.cam 10), .int .i64 (sc.cam 11), .int .i64 (sc.cam 12), .int .i64 (sc.cam 13), .int .i64 (sc.cam 14), .int .i64 (sc.cam 15), .slice (some ⟨ob, oo, none⟩) sc.on sc.oc] := Row.block (n := 19) ((hW b1 k1).trans h1) rfl
  have q2 : Row W b2 0 [.int .i64 r] := Row.block (n := 1) ((hW b2 k2).trans h2) rfl
  have q3 : ∀ i, i < sc.on → Row W ob (oo + i * 19) (obC (sc.ob i)) := fun i hi => (hr i hi).keep (hW ob k3)
  refine Tr.seq ?_
  refine Tr.region ?_
  refine Tr.step rfl (Tr.fieldAddr (o' := 18) F.fld28_3 rfl rfl rfl ?_)
  refine Tr.step rfl (Tr.load1 F.ty26 rfl (q1.toCell (fun h => h k1) (show [.int .i64 sc.W, .int .i64 sc.H, .int .i64 (sc.cam 0), .int .i64 (sc.cam 1), .int .i64 (sc.cam 2), .int .i64 (sc.cam 3), .int .i64 (sc.cam 4), .int .i64 (sc.cam 5), .int .i64 (sc.cam 6), .int .i64 (sc.cam 7), .int .i64 (sc.cam 8), .int .i64 (sc.cam 9), .int .i64 (sc.cam 10), .int .i64 (sc.cam 11), .int .i64 (sc.cam 12), .int .i64 (sc.cam 13), .int .i64 (sc.cam 14), .int .i64 (sc.cam 15), .slice (some ⟨ob, oo, none⟩) sc.on sc.oc][18]? = some _ from rfl) rfl) rfl ?_)
  refine Tr.step rfl (Tr.blt (v := .int .i64 (sc.on : Int)) rfl (fun _ _ => blt_lenSlice F.und26 _ _ _ _ _ _) rfl ?_)
  refine Tr.step rfl (Tr.val rfl rfl ?_)
  refine Tr.nil ?_
  refine Tr.thenN ?_
  refine Tr.block ?_
  refine Tr.loopG (X := Nat) (fun k => [(9, .int .i64 (k : Int)), (8, .int .i64 (sc.on : Int)), (7, .slice (some ⟨ob, oo, none⟩) sc.on sc.oc), (0, .func (.yield lp) #[] #[]), (1, .pointer (some ⟨b1, 0, none⟩)), (2, .pointer (some ⟨b2, 0, none⟩))]) (fun k => []) (fun k => Cx.it Tryd.prog 27 Keep W (J (bl k hb)) (hJ _)) (fun _ => ⟨rfl, rfl, rfl⟩) (fun k => k ≤ sc.on) (fun k => sc.on - k) 0 (Nat.zero_le _) [] (by decide) rfl ⟨(lk rfl (by first | rfl | (simp; done))), rfl, rfl, rfl, rfl, rfl, trivial⟩ rfl ?_
  rintro k hΦ
  refine Tr.seq ?_
  refine Tr.region ?_
  refine Tr.step rfl (Tr.val rfl rfl ?_)
  refine Tr.nil ?_
  refine Tr.thenN ?_
  refine Tr.seq ?_
  refine Tr.decide 10 rfl (fun h1 => ?_) (fun h1 => ?_)
  · replace h1 := dT h1
    refine Tr.yes rfl ?_
    refine Tr.skip ?_
    refine Tr.thenN ?_
    refine Tr.seq ?_
    refine Tr.block ?_
    refine Tr.seq ?_
    refine Tr.region ?_
    refine Tr.step rfl (Tr.val rfl rfl ?_)
    refine Tr.step rfl (Tr.indexSlice (o' := (oo + k * 19)) F.sli26 rfl rfl (by omega) (by omega) (by simp) rfl ?_)
    refine Tr.step rfl (Tr.loadN (vs := [.int .i64 ((sc.ob k).id), .int .i64 ((sc.ob k).m 0), .int .i64 ((sc.ob k).m 1), .int .i64 ((sc.ob k).m 2), .int .i64 ((sc.ob k).m 3), .int .i64 ((sc.ob k).m 4), .int .i64 ((sc.ob k).m 5), .int .i64 ((sc.ob k).m 6), .int .i64 ((sc.ob k).m 7), .int .i64 ((sc.ob k).m 8), .int .i64 ((sc.ob k).m 9), .int .i64 ((sc.ob k).m 10), .int .i64 ((sc.ob k).m 11), .int .i64 ((sc.ob k).m 12), .int .i64 ((sc.ob k).m 13), .int .i64 ((sc.ob k).m 14), .int .i64 ((sc.ob k).m 15), .slice ((sc.ob k).va) ((sc.ob k).vn) ((sc.ob k).vc), .slice ((sc.ob k).ta) ((sc.ob k).tn) ((sc.ob k).tc)]) F.ty36 rfl ((q3 k (by omega)).cells (fun h => h k3)) rfl rfl ?_)
    refine Tr.step rfl (Tr.alloc F.ty36 rfl rfl ?_)
    rintro u1
    refine Tr.step rfl (Tr.val rfl rfl ?_)
    refine Tr.step rfl (Tr.store 0 F.ty36 rfl rfl rfl rfl rfl rfl rfl rfl rfl rfl ?_)
    refine Tr.nil ?_
    refine Tr.thenN ?_
    refine Tr.seq ?_
    refine Tr.region ?_
    refine Tr.step rfl (Tr.loadN (vs := [.int .i64 sc.W, .int .i64 sc.H, .int .i64 (sc.cam 0), .int .i64 (sc.cam 1), .int .i64 (sc.cam 2), .int .i64 (sc.cam 3), .int .i64 (sc.cam 4), .int .i64 (sc.cam 5), .int .i64 (sc.cam 6), .int .i64 (sc.cam 7), .int .i64 (sc.cam 8), .int .i64 (sc.cam 9), .int .i64 (sc.cam 10), .int .i64 (sc.cam 11), .int .i64 (sc.cam 12), .int .i64 (sc.cam 13), .int .i64 (sc.cam 14), .int .i64 (sc.cam 15), .slice (some ⟨ob, oo, none⟩) sc.on sc.oc]) F.ty28 rfl (q1.cells (fun h => h k1)) rfl rfl ?_)
    refine Tr.step rfl (Tr.val rfl rfl ?_)
    refine Tr.step rfl (Tr.loadN (vs := [.int .i64 ((sc.ob k).id), .int .i64 ((sc.ob k).m 0), .int .i64 ((sc.ob k).m 1), .int .i64 ((sc.ob k).m 2), .int .i64 ((sc.ob k).m 3), .int .i64 ((sc.ob k).m 4), .int .i64 ((sc.ob k).m 5), .int .i64 ((sc.ob k).m 6), .int .i64 ((sc.ob k).m 7), .int .i64 ((sc.ob k).m 8), .int .i64 ((sc.ob k).m 9), .int .i64 ((sc.ob k).m 10), .int .i64 ((sc.ob k).m 11), .int .i64 ((sc.ob k).m 12), .int .i64 ((sc.ob k).m 13), .int .i64 ((sc.ob k).m 14), .int .i64 ((sc.ob k).m 15), .slice ((sc.ob k).va) ((sc.ob k).vn) ((sc.ob k).vc), .slice ((sc.ob k).ta) ((sc.ob k).tn) ((sc.ob k).tc)]) F.ty36 rfl (Cells.own 0 19 rfl rfl) rfl rfl ?_)
    refine Tr.step rfl (Tr.load1 F.ty3 rfl (q2.toCell (fun h => h k2) (show [.int .i64 r][0]? = some _ from rfl) rfl) rfl ?_)
    refine Tr.step rfl (Tr.call (v := .bool (hb k)) F.en27 rfl (fun w hw => hh k (by omega) w (fun b hb => hw.itKeep hlt hW b (hB b hb))) rfl ?_)
    refine Tr.step rfl (Tr.val rfl rfl ?_)
    refine Tr.step rfl (Tr.val rfl rfl ?_)
    refine Tr.decide 20 rfl (fun h2 => ?_) (fun h2 => ?_)
    · skip
      refine Tr.known 19 true rfl (by simp [h2]) ?_
      refine Tr.stepYes rfl rfl rfl rfl (Tr.val rfl rfl ?_)
      refine Tr.stepYes rfl rfl rfl rfl (Tr.val rfl rfl ?_)
      refine Tr.stepYes rfl rfl rfl rfl (Tr.yield (J' := J ((bl k hb) ++ [k])) (Jx' := Jx ((bl k hb) ++ [k])) (hJ _) (hJx _) rfl rfl rfl (fun w hw => hY (bl k hb) k w hw (bl_lt (by omega) (by simpa using (by assumption : (!(hb k)) = true)))) ?_ (fun w' => ?_))
      · skip
        refine Tr.stepYes rfl rfl rfl rfl (Tr.valE (.bool false) rfl rfl rfl ?_)
        refine Tr.step rfl (Tr.val rfl rfl ?_)
        refine Tr.nil ?_
        refine Tr.thenN ?_
        refine Tr.not rfl ?_
        refine Tr.skip ?_
        refine Tr.blockN ?_
        refine Tr.thenN ?_
        refine Tr.region ?_
        refine Tr.step rfl (Tr.valE (.int .i64 ((k : Int) + 1)) rfl (vint (w_i64 (by omega) (by omega))) rfl ?_)
        refine Tr.step rfl (Tr.val rfl rfl ?_)
        refine Tr.nil ?_
        refine Tr.thenN ?_
        exact Tr.againG (k + 1) (by omega) (by omega) (it_eq (bl_yes (by simpa using (by assumption : (!(hb k)) = true)))) [] (by decide) rfl ⟨(lk rfl (by first | rfl | (simp; done) | exact vint (by omega))), rfl, rfl, rfl, rfl, rfl, trivial⟩
      · skip
        refine Tr.stepYes rfl rfl rfl rfl (Tr.valE (.bool true) rfl rfl rfl ?_)
        refine Tr.step rfl (Tr.val rfl rfl ?_)
        refine Tr.nil ?_
        refine Tr.thenN ?_
        refine Tr.yes rfl ?_
        refine Tr.ret ?_
        refine Tr.blockR ?_
        refine Tr.thenR ?_
        refine Tr.thenR ?_
        refine Tr.blockR ?_
        refine Tr.leave rfl rfl ?_
        exact Tr.itOver rfl (bl_prefix (by omega) (by simpa using (by assumption : (!(hb k)) = true)))
    · skip
      refine Tr.known 19 false rfl (by simp [h2]) ?_
      refine Tr.stepNo rfl rfl rfl rfl rfl rfl ?_
      refine Tr.stepNo rfl rfl rfl rfl rfl rfl ?_
      refine Tr.stepNo rfl rfl rfl rfl rfl rfl ?_
      refine Tr.stepNo rfl rfl rfl rfl rfl rfl ?_
      refine Tr.step rfl (Tr.val rfl rfl ?_)
      refine Tr.nil ?_
      refine Tr.thenN ?_
      refine Tr.not rfl ?_
      refine Tr.skip ?_
      refine Tr.blockN ?_
      refine Tr.thenN ?_
      refine Tr.region ?_
      refine Tr.step rfl (Tr.valE (.int .i64 ((k : Int) + 1)) rfl (vint (w_i64 (by omega) (by omega))) rfl ?_)
      refine Tr.step rfl (Tr.val rfl rfl ?_)
      refine Tr.nil ?_
      refine Tr.thenN ?_
      exact Tr.againG (k + 1) (by omega) (by omega) (it_eq (bl_no (by simpa using (by assumption : (!(hb k)) = false)))) [] (by decide) rfl ⟨(lk rfl (by first | rfl | (simp; done) | exact vint (by omega))), rfl, rfl, rfl, rfl, rfl, trivial⟩
  · replace h1 := dF h1
    refine Tr.not rfl ?_
    refine Tr.exit ?_
    refine Tr.thenE ?_
    refine Tr.thenE ?_
    refine Tr.blockHit ?_
    refine Tr.leaveN rfl rfl ?_
    exact Tr.itDone rfl (by rw [show k = sc.on from by omega])

set_option maxRecDepth 100000 in
set_option maxHeartbeats 4000000 in
theorem broken_nil (sc : Sc) (r : Int) (hb : Nat → Bool) (b1 b2 B : Nat) (hon : sc.on ≤ 9223372036854775807) (w : World) (Keep : Nat → Prop) (hlt : ∀ b, Keep b → b < w.heap.size) (k1 : Keep b1) (k2 : Keep b2) (hB : ∀ b, b < B → Keep b)
    (h1 : w.heap[b1]? = some (.cells #[.int .i64 sc.W, .int .i64 sc.H, .int .i64 (sc.cam 0), .int .i64 (sc.cam 1), .int .i64 (sc.cam 2), .int .i64 (sc.cam 3), .int .i64 (sc.cam 4), .int .i64 (sc.cam 5), .int .i64 (sc.cam 6), .int .i64 (sc.cam 7), .int .i64 (sc.cam 8), .int .i64 (sc.cam 9), .int .i64 (sc.cam 10), .int .i64 (sc.cam 11), .int .i64 (sc.cam 12), .int .i64 (sc.cam 13), .int .i64 (sc.cam 14), .int .i64 (sc.cam 15), .slice sc.oa 0 sc.oc] 28)) (h2 : w.heap[b2]? = some (.cells #[.int .i64 r] 3)) :
    Iter Tryd.prog 26 #[.pointer (some ⟨b1, 0, none⟩), .pointer (some ⟨b2, 0, none⟩)] (fun x : Nat => #[.int .i64 (x : Int)]) Keep (bl 0 hb) w := by
  refine iter_enter Tryd.func26 rfl rfl rfl rfl hlt ?_
  rintro lp J Jx hJ hJx W hW hY
  have q1 : Row W b1 0 [.int .i64 sc.W, .int .i64 sc.H, .int .i64 (sc.cam 0), .int .i64 (sc.cam 1), .int .i64 (sc.cam 2), .int .i64 (sc.cam 3), .int .i64 (sc.cam 4), .int .i64 (sc.cam 5), .int .i64 (sc.cam 6), .int .i64 (sc.cam 7), .int .i64 (sc.cam 8), .int .i64 (sc.cam 9), .int .i64 (sc.cam 10), .int .i64 (sc.cam 11), .int .i64 (sc.cam 12), .int .i64 (sc.cam 13), .int .i64 (sc.cam 14), .int .i64 (sc.cam 15), .slice sc.oa 0 sc.oc] := Row.block (n := 19) ((hW b1 k1).trans h1) rfl
  have q2 : Row W b2 0 [.int .i64 r] := Row.block (n := 1) ((hW b2 k2).trans h2) rfl
  refine Tr.seq ?_
  refine Tr.region ?_
  refine Tr.step rfl (Tr.fieldAddr (o' := 18) F.fld28_3 rfl rfl rfl ?_)
  refine Tr.step rfl (Tr.load1 F.ty26 rfl (q1.toCell (fun h => h k1) (show [.int .i64 sc.W, .int .i64 sc.H, .int .i64 (sc.cam 0), .int .i64 (sc.cam 1), .int .i64 (sc.cam 2), .int .i64 (sc.cam 3), .int .i64 (sc.cam 4), .int .i64 (sc.cam 5), .int .i64 (sc.cam 6), .int .i64 (sc.cam 7), .int .i64 (sc.cam 8), .int .i64 (sc.cam 9), .int .i64 (sc.cam 10), .int .i64 (sc.cam 11), .int .i64 (sc.cam 12), .int .i64 (sc.cam 13), .int .i64 (sc.cam 14), .int .i64 (sc.cam 15), .slice sc.oa 0 sc.oc][18]? = some _ from rfl) rfl) rfl ?_)
  refine Tr.step rfl (Tr.blt (v := .int .i64 0) rfl (fun _ _ => blt_lenSlice F.und26 _ _ _ _ _ _) rfl ?_)
  refine Tr.step rfl (Tr.val rfl rfl ?_)
  refine Tr.nil ?_
  refine Tr.thenN ?_
  refine Tr.block ?_
  refine Tr.loopU ?_
  refine Tr.sub (l' := [(9, .int .i64 0), (8, .int .i64 0), (7, .slice sc.oa 0 sc.oc), (0, .func (.yield lp) #[] #[]), (1, .pointer (some ⟨b1, 0, none⟩)), (2, .pointer (some ⟨b2, 0, none⟩))]) (h' := []) ?_ [] (by decide) rfl ⟨rfl, rfl, rfl, rfl, rfl, rfl, trivial⟩
  refine Tr.roundU ?_
  refine Tr.seq ?_
  refine Tr.region ?_
  refine Tr.step rfl (Tr.valE (.bool false) rfl rfl rfl ?_)
  refine Tr.nil ?_
  refine Tr.thenN ?_
  refine Tr.seq ?_
  refine Tr.not rfl ?_
  refine Tr.exit ?_
  refine Tr.thenE ?_
  refine Tr.thenE ?_
  refine Tr.blockHit ?_
  refine Tr.leaveN rfl rfl ?_
  exact Tr.itDone rfl (rfl)

end Go.Proofs.YtfcbdjjpmgmpoaaDoor

import Derived.Test.YteidggmgknnibaaDoorWc
import Derived.ProofKit
import Derived.OpenShut
import Derived.LaidMore
import Derived.Lay
import Derived.Stop.Joined
import Derived.Stop.LaidErr
import Derived.Lib.LaidTab
import Derived.Lib.SmallJoins
import Derived.Shelf.Vars
import Derived.Below
import Derived.ChangeSame
namespace Go.Proofs.YteidggmgknnibaaDoor
open Go.ChangeShapes Go.WideShapes Go.ChangeAt Go.RowKit Go.Lines Go.Sort

def wordsB : List Bs := [[], [115, 116, 101, 112], [100, 101, 108, 105, 118, 101, 114], [100, 114, 111, 112], [100, 111, 117, 98, 108, 101], [102, 108, 105, 112], [116, 105, 99, 107], [99, 114, 97, 115, 104]]
theorem wordsB_at (i : Nat) (h : i < 8) : wordsB.getD i [] = wordS i := by
  match i, h with
  | 0, _ => rfl
  | 1, _ => rfl
  | 2, _ => rfl
  | 3, _ => rfl
  | 4, _ => rfl
  | 5, _ => rfl
  | 6, _ => rfl
  | 7, _ => rfl
theorem words_data {H : Type} : (Rows.laid_mullion_cluster_words : DataW H) = .agg (wordsB.map fun b => .lit (.string b)) := rfl
theorem pow_data {H : Type} : (Rows.laid_internal_strconv_uint64pow10 : DataW H) = Lib.tabData .u64 Lib.pow10Tab := by kernel_rfl

theorem star : "*" ++ "errors.errorString" = "*errors.errorString" := by decide
theorem row96 (u : TypeId) (h : Tryd.prog.typeName? 3 u = some "*errors.errorString") : u = 96 :=
  typeName_ptr_named (nm := "errors.errorString") (by rw [star]; kernel_rfl) (by kernel_rfl) (by decide) u (by rw [star]; exact h)

abbrev laidL : List (String × DataW Unit) := Rows.clusterLinesRow.laid

theorem cells9 : Tryd.prog.cellsOf 9 = 1 := by kernel_rfl
theorem words_cell {W : World} {r : List (String × DataW Unit)} (h : laidMet Tryd.prog (("mullion/cluster.words", Rows.laid_mullion_cluster_words) :: r) W) (i : Nat) (hi : i < 8) : W.cell? ⟨0, i, none⟩ = some (.string ⟨(wordS i).toArray⟩) := by
  obtain ⟨ps, ⟨g, t, cs, fuel, p, q, hg, ht, hv, hd, _, _⟩, _, _⟩ := h
  obtain rfl := Option.some.inj ((show Tryd.prog.globalNamed "mullion/cluster.words" = some 0 by kernel_rfl).symm.trans hg)
  obtain rfl := Option.some.inj ((show (Tryd.prog.globals[0]?).map (·.type) = some 35 by kernel_rfl).symm.trans ht)
  obtain ⟨xs, m, _, ex, _, hl, hel⟩ := DataW.trod_array Tryd.underlying35 hd
  have hE := hel i hi
  rw [cells9, Nat.mul_one, List.getElem?_eq_getElem (by omega)] at hE
  obtain ⟨s, e1, e2, _⟩ := DataW.trod_string Tryd.underlying9 hE
  have hlen : wordsB.length = 8 := rfl
  have e3 : (xs.map (·.1)) = wordsB.map fun n => .lit (.string n) := (DataW.agg.inj (Prod.mk.inj ex).1).symm
  have e4 : (xs.map (·.1))[i]? = (wordsB.map fun n => (DataW.lit (.string n) : DataW Unit))[i]? := by rw [e3]
  rw [List.getElem?_map, List.getElem?_map, List.getElem?_eq_getElem (by omega : i < xs.length), List.getElem?_eq_getElem (by omega : i < wordsB.length), e2] at e4
  have hz : s.data.toList = wordS i := by
    simp only [Option.map_some, Option.some.injEq, DataW.lit.injEq, Lit.string.injEq] at e4
    rw [e4, ← wordsB_at i hi, List.getD, List.getElem?_eq_getElem (by omega : i < wordsB.length)]; rfl
  have hs : s = ⟨(wordS i).toArray⟩ := by rw [← hz]
  rw [World.var?_cell hg hv i, ← hs]
  have : cs.toList[i]? = some (.string s) := by
    have h0 : ((cs.toList.drop i).take 1)[0]? = some (.string s) := by rw [e1]; rfl
    simpa using h0
  simpa using this

theorem laidMet.behind {P : Program} {x : String × DataW Unit} {r : List (String × DataW Unit)} {w : World} (h : laidMet P (x :: r) w) : laidMet P r w := Go.laidMet.tail h

theorem env_of {W : World} (h : laidMetH Tryd.prog laidL W) (hS : W.ShapedOpen Tryd.prog) : Env W := by
  rw [MakeChecks.laidMetH_plain _ _ _ (by kernel_rfl)] at h
  unfold laidL Rows.clusterLinesRow at h
  simp only at h
  have h2 := h.tail.tail
  have h4 := h2.tail.tail
  have h5 := h4.tail
  have h6 := h5.tail
  rw [pow_data] at h2
  obtain ⟨a0, s0, hv0, -, -, -⟩ := laid_sentinel h4 gRan (show (Tryd.prog.globals[2]?).map (·.type) = some 45 by kernel_rfl) Tryd.underlying45 row96 Tryd.underlying96 Tryd.underlying98 rfl rfl Tryd.underlying9 (by kernel_rfl) cells9
  obtain ⟨a1, s1, hv1, -, -, -⟩ := laid_sentinel h5 gSyn (show (Tryd.prog.globals[1]?).map (·.type) = some 45 by kernel_rfl) Tryd.underlying45 row96 Tryd.underlying96 Tryd.underlying98 rfl rfl Tryd.underlying9 (by kernel_rfl) cells9
  exact {
    words := words_cell h6
    pow := Lib.tabIs_of_head gPow (show (Tryd.prog.globals[3]?).map (·.type) = some 90 by kernel_rfl) Tryd.underlying90 Tryd.underlying70 (by kernel_rfl) (by kernel_rfl) h2
    syn := ⟨_, _, hv1⟩
    ran := ⟨_, _, hv0⟩
    most := cell_of_shapedOpen_int (zero := #[.int .i64 0]) (t := 3) hS (of_decide_eq_true (by kernel_rfl)) (by kernel_rfl) rfl (by kernel_rfl) (by kernel_rfl) Tryd.underlying3
    size := by
      obtain ⟨cs, hh, -, -⟩ := hS.1 8 _ _ (of_decide_eq_true (by kernel_rfl)) (show _ = some (Array.replicate 64 (.int .u8 0), 107) by kernel_rfl)
      have : 8 < W.heap.size := by
        by_cases hlt : 8 < W.heap.size
        · exact hlt
        · rw [Array.getElem?_eq_none (by omega)] at hh; cases hh
      exact this }
end Go.Proofs.YteidggmgknnibaaDoor

/- append onto a full row; rows of made cells. -/
import Derived.Test.YtfcbdjjpmgmpoaaDoorK6
import Derived.Laws.Append
import Derived.Laws.AppendOwn
namespace Go.Ka
open Go.RowKit
variable {c : Cx} {l : Fr} {h : Hp} {K : Act → World → Prop} {dst : Option Nat} {ty : TypeId} {pos : String} {af : Array Edge} {gd : Option (Nat × Bool)}

/-- A struct's fields: where each lies, and its size. -/
def flds (P : Program) (T : TypeId) : Option (List (Nat × Nat)) := match P.underlying T with
  | some (.struct fs) => fs.toList.mapM fun f => (P.info? f.type).map fun j => (f.offset, j.size)
  | _ => none
theorem flds_spec {P : Program} {T : TypeId} {L : List (Nat × Nat)} (h : flds P T = some L) : ∃ fs, P.underlying T = some (.struct fs) ∧ (fs.toList.mapM fun f => (P.info? f.type).map fun j => (f.offset, j.size)) = some L := by
  unfold flds at h
  split at h
  · exact ⟨_, by assumption, h⟩
  · cases h
theorem Row.front {w : World} {b o n : Nat} {cs ds : Array Value} {T : TypeId} {fz : Nat × Nat} {vs : List Value} (e : w.heap[b]? = some (.cells (cs ++ ds) T fz)) (hv : (cs.toList.drop o).take n = vs) : Row w b o vs := fun i v hi => by
  rw [← hv, List.getElem?_take] at hi
  split at hi
  · rw [List.getElem?_drop] at hi
    have h1 : cs[o + i]? = some v := by simpa using hi
    have h2 : o + i < cs.size := (Array.getElem?_eq_some_iff.1 h1).1
    simp only [World.cell?, e]
    simp [Array.getElem?_append_left h2, h1]
  · cases hi
theorem Row.made {w : World} {b n s : Nat} {z : Array Value} {T : TypeId} {fz : Nat × Nat} {vs : List Value} (e : w.heap[b]? = some (.cells (madeCells z (n * s)) T fz)) (hs : z.size = s) (hv : z.toList = vs) (i : Nat) (hi : i < n) : Row w b (0 + i * s) vs := fun j v hj => by
  subst hv hs
  have h1 : z[j]? = some v := by simpa using hj
  have h2 : j < z.size := (Array.getElem?_eq_some_iff.1 h1).1
  have h3 : i * z.size + j < n * z.size := by
    have : (i + 1) * z.size ≤ n * z.size := Nat.mul_le_mul_right _ hi
    rw [Nat.add_mul] at this; omega
  have h4 : (i * z.size + j) % z.size = j := by rw [Nat.mul_comm, Nat.mul_add_mod]; exact Nat.mod_eq_of_lt h2
  have h5 : z[j]'h2 = v := (Array.getElem?_eq_some_iff.1 h1).2
  simp only [World.cell?, e]
  simp [madeCells, h3, h4, h2, h5, Nat.zero_add]
theorem add_none (b o i : Nat) : (⟨b, o, none⟩ : Addr).add i = ⟨b, o + i, none⟩ := by
  unfold Addr.add; split
  · simp_all
  · rfl
theorem Tr.appendG {T e n cp m cx size : Nat} {z : Value} {g : Bool} {b b' o o' : Nat} {x y : Operand} {olds news all : List Value} (hu : c.P.underlying T = some (.slice e)) (hE : tyv c.P e = some (z, size, g))
    (hx : ev l x = some (.slice (some ⟨b, o, none⟩) n cp)) (hy : ev l y = some (.slice (some ⟨b', o', none⟩) m cx)) (ho : Cells c h b o olds) (hn : Cells c h b' o' news)
    (lo : olds.length = n * size) (ln : news.length = m * size) (hall : olds ++ news = all) (hg : cp < n + m) (h63 : ((n + m : Nat) : Int) ≤ 9223372036854775807) (hfit : Builtin.nextslicecap (n + m) cp * c.P.bytesOf e ≤ 281474976710656) (hd : okD dst c.n = true)
    (t : ∀ b k, Tr c (putF dst (.slice (some ⟨b, 0, none⟩) (n + m) (n + m + k)) l) ((b, .cells (all.toArray ++ Builtin.zeroCells z.cells k) e) :: h) K) :
    Tr c l h (OpK c.P c.r ⟨dst, .call ⟨.builtin .append, #[x, y], #[T, T]⟩, ty, pos, af, gd⟩ K) := fun a w ha hw => by
  subst hall
  obtain ⟨j, d', g1, g2, g3, g4, g5⟩ := tyv_spec hE
  have hb : c.P.bytesOf e = j.bytes := by simp [Program.bytesOf, g1]
  rw [hb] at hfit
  subst g3
  have hr := run_append_grow (P := c.P) w T ty e j z hu g1 g2 ⟨b, o, none⟩ n cp olds lo (fun i v hi => by rw [add_none]; exact ho i v hi w hw) ⟨b', o', none⟩ m cx news ln (fun i v hi => by rw [add_none]; exact hn i v hi w hw) hg h63 hfit
  have hge := grownCap_ge w (n + m) cp e
  obtain ⟨k, hk⟩ : ∃ k, grownCap w (n + m) cp e = n + m + k := ⟨_, (Nat.add_sub_cancel' hge).symm⟩
  rw [hk, Nat.add_sub_cancel_left] at hr
  refine OpK.value (fun c => by simp) (v := .slice (some ⟨w.heap.size, 0, none⟩) (n + m) (n + m + k)) (w' := w.drew.alloc (.cells (olds.toArray ++ news.toArray ++ Builtin.zeroCells z.cells k) e)) ?_ ?_
  · simp [execOp, resolve, invoke, builtin, ha.ev hx, ha.ev hy, hr]
  · have := t w.heap.size k
    rw [show (olds ++ news).toArray = olds.toArray ++ news.toArray from by simp] at this
    exact this _ _ (ha.putF hd _) ((hw.drew _).alloc _)
end Go.Ka

import Derived.Test.YteidggmgknnibaaDoorWa
namespace Go.Proofs.YteidggmgknnibaaDoor
open Go.RowKit Go.Lines Go.Sort

theorem ext_data (s : ByteArray) (a b : Nat) : (s.extract a b).data.toList = (s.data.toList.drop a).take (b - a) := Lib.extract_data s a b

theorem Tryd.info3 : (Tryd.prog.info? 3).map (fun i => (i.zero, i.size, i.bytes)) = some (some (.int .i64 0), 1, 8) := by kernel_rfl

/-- The first i bytes cut at blanks: the pieces that are there, and the one that goes on. -/
def Cut1 (s : ByteArray) (i fr : Nat) (ps : List ByteArray) : Prop :=
  fr ≤ i ∧ spl (s.data.toList.take i) = ps.map (·.data.toList) ++ [(s.data.toList.drop fr).take (i - fr)]

theorem Cut1.blank {s : ByteArray} {i fr : Nat} {ps : List ByteArray} (h : Cut1 s i fr ps) (hi : i < s.size) (hc : s[i] = 32) : Cut1 s (i + 1) (i + 1) (ps ++ [s.extract fr i]) := by
  refine ⟨Nat.le_refl _, ?_⟩
  have e : s.data.toList.take (i + 1) = s.data.toList.take i ++ [s[i]] := by
    rw [List.take_succ_eq_append_getElem (by simpa using hi)]; rfl
  rw [e, spl_snoc _ _ _ _ h.2, if_pos hc, List.map_append]
  simp [ext_data]

theorem Cut1.other {s : ByteArray} {i fr : Nat} {ps : List ByteArray} (h : Cut1 s i fr ps) (hi : i < s.size) (hc : s[i] ≠ 32) : Cut1 s (i + 1) fr ps := by
  refine ⟨Nat.le_succ_of_le h.1, ?_⟩
  have e : s.data.toList.take (i + 1) = s.data.toList.take i ++ [s[i]] := by
    rw [List.take_succ_eq_append_getElem (by simpa using hi)]; rfl
  rw [e, spl_snoc _ _ _ _ h.2, if_neg hc]
  have e2 : (s.data.toList.drop fr).take (i + 1 - fr) = (s.data.toList.drop fr).take (i - fr) ++ [s[i]] := by
    rw [show i + 1 - fr = (i - fr) + 1 by have := h.1; omega, List.take_succ_eq_append_getElem (by simp; have := h.1; omega)]
    congr 2
    simp only [List.getElem_drop]
    have h1 := h.1
    have : fr + (i - fr) = i := by omega
    simp [this]
    rfl
  rw [e2]

theorem Cut1.last {s : ByteArray} {fr : Nat} {ps : List ByteArray} (h : Cut1 s s.size fr ps) : spl s.data.toList = (ps ++ [s.extract fr s.size]).map (·.data.toList) := by
  have := h.2
  rw [List.take_of_length_le (by simp)] at this
  rw [this, List.map_append]
  simp [ext_data]

/-- The kind that is found among the words below k. -/
def kk (w : Bs) (k : Nat) : Int := if kindOf w < k then kindOf w else 0
theorem kk_one (w : Bs) : kk w 1 = 0 := by
  unfold kk
  have := kindOf_range w
  split <;> omega
theorem kk_last (w : Bs) : kk w 8 = kindOf w := by
  unfold kk
  have := kindOf_range w
  rw [if_pos (by omega)]
theorem kk_hit (w : Bs) (k : Nat) (h1 : 1 ≤ k) (h7 : k ≤ 7) (h : wordS k = w) : kk w (k + 1) = k := by
  unfold kk
  rw [← h, kindOf_word k (by omega) (by omega), if_pos (by omega)]
theorem kk_miss (w : Bs) (k : Nat) (h1 : 1 ≤ k) (h : ¬ wordS k = w) : kk w (k + 1) = kk w k := by
  unfold kk
  have hne : kindOf w ≠ k := fun e => h (by rw [← e]; exact word_kindOf w (by omega))
  by_cases hlt : kindOf w < k
  · rw [if_pos hlt, if_pos (by omega)]
  · rw [if_neg hlt, if_neg (by omega)]

set_option maxRecDepth 100000 in
set_option maxHeartbeats 4000000 in
theorem rread_any (s : ByteArray) (hs : s.size ≤ 200) (w : World) :
    Calls Tryd.prog 7 #[.string s] w fun e w' => e = .returned (.tuple #[opV (resO s.data.toList), .int .i64 (resE s.data.toList)]) ∧ Below w.heap.size w w' := by
  obtain ⟨i0, hi0, hzz, hsi, hby⟩ := info_parts Tryd.info9
  go_enter Tryd.func7, Tryd.ntmps7
  go_wp2_with fail
  go_loopw [4, 5, 6] (fun v fv iv wr => ∃ (i fr : Nat) (ps : List ByteArray), i ≤ s.size ∧ fr ≤ i ∧ ps.length ≤ i ∧ Hid (Cut1 s i fr ps) ∧ fv = .int .i64 fr ∧ iv = .int .i64 i ∧
      wr.ownsRow (w.heap.size + 1) 9 1 v ps.length (ps.map Value.string) ∧ Below (w.heap.size + 1) (w.alloc (.cells #[.int .i64 0, .int .i64 0, .int .i64 0, .int .i64 0, .int .i64 0, .int .i64 0] 23)) wr)
    (fun v fv iv _ => s.size - (intOf iv).toNat)
  case atStart => exact ⟨0, 0, [], by omega, by omega, by simp, Lib.hid ⟨by omega, by simp [spl]⟩, rfl, rfl, World.ownsRow_nil _ _ _ _, Below.refl _ _⟩
  case round =>
    obtain ⟨i, fr, ps, hi, hfi, hpl, hcut, rfl, rfl, hown, hB⟩ := hrel
    have hsB := hB.size
    simp only [World.size_alloc] at hsB
    by_cases hlt : i < s.size
    · by_cases hc : s[i] = 32
      · have hcb : ((s[i].toNat : Int) == 32) = true := by rw [hc]; rfl
        have Hc := Lib.hid hc
        clear hc
        have q1 : ∀ u ∈ [Value.string (s.extract fr i)], u.oneCell' = true := by intro u hu; simp at hu; subst hu; rfl
        have q2 : ps.length + 1 ≤ maxLen := by unfold maxLen; omega
        have q3 : (ps.length + 1) * 16 ≤ 140737488355328 := by omega
        have q4 : w.heap.size + 1 ≤ (wr.alloc (.cells #[Value.string (s.extract fr i)] 9)).heap.size := by simp; omega
        go_wp2_with (at_builtin; refine wpList_append_own_at _ rfl _ _ 36 rfl (w.heap.size + 1) 9 i0 (.string ByteArray.empty) 1 16 Tryd.underlying36 hi0 hzz hsi hby rfl (by decide) _ _ _ rfl (hown.alloc _) ⟨wr.heap.size, 0, none⟩ 1 1 [Value.string (s.extract fr i)] rfl rfl (cell_one_new _ _ _) q1 q2 q3 q4 ?_; intro v' w4 hown4 hg4 _ _)
        go_roundw
        case rel =>
          refine ⟨i + 1, i + 1, ps ++ [s.extract fr i], by omega, by omega, by simp; omega, Lib.hid (hcut.out.blank hlt Hc.out), by go_num, by go_num, by simpa using hown4, ?_⟩
          exact (hB.alloc (by omega) _).grown hg4 q4 (fun r e => (hown.lt r e).1)
        case measure => simp [intOf]; omega
      · have hcb : ((s[i].toNat : Int) == 32) = false := by
          rw [beq_eq_false_iff_ne]
          intro e
          refine hc (UInt8.toNat_inj.1 ?_)
          have : (32 : UInt8).toNat = 32 := rfl
          omega
        have Hc := Lib.hid hc
        clear hc
        go_wp2_with fail
        go_roundw
        case rel => exact ⟨i + 1, fr, ps, by omega, by omega, by omega, Lib.hid (hcut.out.other hlt Hc.out), rfl, by go_num, hown, hB⟩
        case measure => simp [intOf]; omega
    · obtain rfl : i = s.size := by omega
      have hps := hcut.out.last
      clear hcut
      have q1 : ∀ u ∈ [Value.string (s.extract fr s.size)], u.oneCell' = true := by intro u hu; simp at hu; subst hu; rfl
      have q2 : ps.length + 1 ≤ maxLen := by unfold maxLen; omega
      have q3 : (ps.length + 1) * 16 ≤ 140737488355328 := by omega
      have q4 : w.heap.size + 1 ≤ (wr.alloc (.cells #[Value.string (s.extract fr s.size)] 9)).heap.size := by simp; omega
      have hsub := Lib.extract_data s fr s.size
      clear hsub
      have Hps := Lib.hid hps
      clear hps
      go_wp2_with (at_builtin; refine wpList_append_own_at _ rfl _ _ 36 rfl (w.heap.size + 1) 9 i0 (.string ByteArray.empty) 1 16 Tryd.underlying36 hi0 hzz hsi hby rfl (by decide) _ _ _ rfl (hown.alloc _) ⟨wr.heap.size, 0, none⟩ 1 1 [Value.string (s.extract fr s.size)] rfl rfl (cell_one_new _ _ _) q1 q2 q3 q4 ?_; intro v' w4 hown4 hg4 _ _)
      obtain ⟨p0, pt, hpp⟩ : ∃ p0 pt, ps ++ [s.extract fr s.size] = p0 :: pt := by
        cases ps with
        | nil => exact ⟨_, _, rfl⟩
        | cons a r => exact ⟨_, _, rfl⟩
      have hpl2 : ps.length = pt.length := by
        have := congrArg List.length hpp
        simp at this; omega
      have hown5 : w4.ownsRow (w.heap.size + 1) 9 1 v' (pt.length + 1) ((p0 :: pt).map Value.string) := by
        rw [← hpp, ← hpl2]; simpa using hown4
      have hspl : spl s.data.toList = p0.data.toList :: pt.map (·.data.toList) := by
        rw [Hps.out, hpp]; rfl
      have hB4 : Below (w.heap.size + 1) (w.alloc (.cells #[.int .i64 0, .int .i64 0, .int .i64 0, .int .i64 0, .int .i64 0, .int .i64 0] 23)) w4 := (hB.alloc (by omega) _).grown hg4 q4 (fun r e => (hown.lt r e).1)
      have hpt : pt.length ≤ 200 := by omega
      have Hspl := Lib.hid hspl
      clear hspl Hps hpp hpl2 hown4 hown hpl hg4 q1 q2 q3 q4 hB
      have hex : ∃ g cap, v' = .slice (some ⟨g, 0, none⟩) (pt.length + 1) cap ∧ pt.length + 1 ≤ cap := by
        rcases hown5.2 with ⟨_, h⟩ | ⟨g, cap, cur, h, _, _, hc, _⟩
        · omega
        · exact ⟨g, cap, h, hc⟩
      obtain ⟨g, cap, rfl, hcap⟩ := hex
      have hg := (hown5.lt g rfl).2
      have hgb := (hown5.lt g rfl).1
      have hcl : ∀ (j : Nat) (p : ByteArray), (p0 :: pt)[j]? = some p → w4.cell? ⟨g, j, none⟩ = some (.string p) := by
        intro j p hj
        have hlt := (List.getElem?_eq_some_iff.1 hj).1
        simp only [List.length_cons] at hlt
        rw [hown5.cellAt j (by omega), List.getElem?_map, hj]; rfl
      have Hcl := Lib.hid hcl
      clear hcl hown5
      have hs4 := hB4.size
      simp only [World.size_alloc] at hs4
      obtain ⟨i3, hi3, hz3, hsi3, hby3⟩ := info_parts Tryd.info3
      go_loopw [7, 8] (fun v iv wr => ∃ j : Nat, j ≤ pt.length ∧ iv = .int .i64 ((j : Int) + 1) ∧ wr.ownsRow w4.heap.size 3 1 v j ((pt.take j).map fun p => Value.int .i64 (told p.data.toList)) ∧ Below w4.heap.size w4 wr)
        (fun v iv _ => pt.length + 1 - (intOf iv).toNat)
      case atStart => exact ⟨0, by omega, rfl, World.ownsRow_nil _ _ _ _, Below.refl _ _⟩
      case round =>
        obtain ⟨j, hj, rfl, hown, hB⟩ := hrel
        obtain ⟨wo, rfl⟩ : ∃ wo : World, wo = wr := ⟨_, rfl⟩
        have hso := hB.size
        by_cases hlt : j < pt.length
        · obtain ⟨p, hp⟩ : ∃ p, pt[j]? = some p := ⟨_, List.getElem?_eq_getElem hlt⟩
          have cp : wo.cell? ⟨g, j + 1, none⟩ = some (.string p) := (hB.cell (p := ⟨g, j + 1, none⟩) hg).trans (Hcl.out (j + 1) p (by simpa using hp))
          have Hp := Lib.hid hp
          clear hp
          have q1 : ∀ u ∈ [Value.int .i64 (told p.data.toList)], u.oneCell' = true := by intro u hu; simp at hu; subst hu; rfl
          have q2 : j + 1 ≤ maxLen := by unfold maxLen; omega
          have q3 : (j + 1) * 8 ≤ 140737488355328 := by omega
          have q4 : w4.heap.size ≤ (wo.alloc (.cells #[Value.int .i64 (told p.data.toList)] 3)).heap.size := by simp; omega
          go_wp2_with fail
          refine (told_any p _).mono ?_
          rintro e w5 ⟨rfl, rfl⟩
          go_wp2_with (at_builtin; refine wpList_append_own_at _ rfl _ _ 48 rfl w4.heap.size 3 i3 (.int .i64 0) 1 8 Tryd.underlying48 hi3 hz3 hsi3 hby3 rfl (by decide) _ _ _ rfl (hown.alloc _) ⟨wo.heap.size, 0, none⟩ 1 1 [Value.int .i64 (told p.data.toList)] rfl rfl (cell_one_new _ _ _) q1 q2 q3 q4 ?_; intro v2 w6 hown6 hg6 _ _)
          go_roundw
          case rel =>
            refine ⟨j + 1, by omega, by go_num, ?_, ?_⟩
            · have : pt.take (j + 1) = pt.take j ++ [p] := by rw [List.take_add_one, Hp.out]; rfl
              rw [this, List.map_append]
              simpa using hown6
            · exact (hB.alloc (by omega) _).grown hg6 q4 (fun r e => (hown.lt r e).1)
          case measure => simp [intOf]; omega
        · obtain rfl : j = pt.length := by omega
          rw [List.take_of_length_le (Nat.le_refl _)] at hown
          have hex7 : ∃ a7 cap7, u7 = .slice a7 pt.length cap7 ∧ Hid (0 < pt.length → ∃ g7, a7 = some ⟨g7, 0, none⟩ ∧ g7 < wo.heap.size ∧ ∀ (j : Nat) (p : ByteArray), pt[j]? = some p → wo.cell? ⟨g7, j, none⟩ = some (.int .i64 (told p.data.toList))) := by
            rcases hown.2 with ⟨h, h0⟩ | ⟨g7, cap7, cur, h, hg7, hh, _⟩
            · rw [h]
              exact ⟨none, 0, by rw [h0], fun h => by omega⟩
            · refine ⟨_, cap7, h, fun _ => ⟨g7, rfl, (Array.getElem?_eq_some_iff.1 hh).1, fun j p hj => ?_⟩⟩
              have hlt := (List.getElem?_eq_some_iff.1 hj).1
              have hown' := hown
              rw [h] at hown'
              rw [hown'.cellAt j (by omega), List.getElem?_map, hj]; rfl
          clear hown
          obtain ⟨a7, cap7, rfl, H7⟩ := hex7
          have hg0 : wo.cell? ⟨g, 0, none⟩ = some (.string p0) := (hB.cell (p := ⟨g, 0, none⟩) hg).trans (Hcl.out 0 p0 rfl)
          go_wp2_with fail
          go_loopw [11] (fun kv wr => ∃ k : Nat, 1 ≤ k ∧ k ≤ 8 ∧ kv = .int .i64 k ∧ Below wo.heap.size wo wr ∧ wo.heap.size < wr.heap.size ∧ wr.cell? ⟨wo.heap.size, 0, none⟩ = some (.int .i64 (kk p0.data.toList k)) ∧
              (∀ x, 1 ≤ x → x ≤ 5 → wr.cell? ⟨wo.heap.size, x, none⟩ = some (.int .i64 0)) ∧ (∀ x, wr.frozen? ⟨wo.heap.size, x, none⟩ = false))
            (fun kv _ => 8 - (intOf kv).toNat)
          case atStart =>
            refine ⟨1, by omega, by omega, rfl, (Below.refl _ _).alloc (Nat.le_refl _) _, by simp, by rw [kk_one]; simp, fun x h1 h5 => ?_, fun x => by simp⟩
            have : x = 1 ∨ x = 2 ∨ x = 3 ∨ x = 4 ∨ x = 5 := by omega
            rcases this with rfl | rfl | rfl | rfl | rfl <;> simp
          case round =>
            obtain ⟨k, hk1, hk8, rfl, hBk, hsk, hck, hzk, hfk⟩ := hrel
            have Hzk := Lib.hid hzk
            have Hfk := Lib.hid hfk
            have Hck := Lib.hid hck
            clear hzk hfk hck
            by_cases hlt : k < 8
            · go_wp2_with fail
              refine (word_any (k : Int) (by omega) (by omega) _).mono ?_
              rintro e w7 ⟨rfl, hb7⟩
              have hs7 := hb7.size
              have ck : w7.cell? ⟨wo.heap.size, 0, none⟩ = some (.int .i64 (kk p0.data.toList k)) := (hb7.cell (p := ⟨wo.heap.size, 0, none⟩) hsk).trans Hck.out
              have fk : w7.frozen? ⟨wo.heap.size, 0, none⟩ = false := (hb7.frozen (p := ⟨wo.heap.size, 0, none⟩) hsk).trans (Hfk.out 0)
              have cg : w7.cell? ⟨g, 0, none⟩ = some (.string p0) := (hb7.cell (p := ⟨g, 0, none⟩) (by show g < wr.heap.size; omega)).trans ((hBk.cell (p := ⟨g, 0, none⟩) (by show g < wo.heap.size; omega)).trans hg0)
              by_cases hw : wordS (k : Int) = p0.data.toList
              · have hkk := kk_hit p0.data.toList k hk1 (by omega) hw
                have Hkk := Lib.hid hkk
                have hwb : (wordS (k : Int) == p0.toList) = true := by
                  rw [ByteArray.toList_eq, beq_iff_eq]; exact hw
                clear hkk hw
                go_wp2_with fail
                go_roundw
                case rel =>
                  refine ⟨k + 1, by omega, by omega, by go_num, (hBk.trans (hb7.mono (by omega))).setCell (p := ⟨wo.heap.size, 0, none⟩) (Nat.le_refl _) _, by simp; omega, ?_, fun x h1 h5 => ?_, fun x => ?_⟩
                  · rw [scell_same ck, Hkk.out]
                  · rw [scell_other (by intro e; simp at e <;> omega)]
                    exact (hb7.cell (p := ⟨wo.heap.size, x, none⟩) hsk).trans (Hzk.out x h1 h5)
                  · rw [World.frozen?_setCell]
                    exact (hb7.frozen (p := ⟨wo.heap.size, x, none⟩) hsk).trans (Hfk.out x)
                case measure => simp [intOf]; omega
              · have hkk := kk_miss p0.data.toList k hk1 hw
                have Hkk := Lib.hid hkk
                have hwb : (wordS (k : Int) == p0.toList) = false := by
                  rw [ByteArray.toList_eq, beq_eq_false_iff_ne]; exact hw
                clear hkk
                go_wp2_with fail
                go_roundw
                case rel =>
                  refine ⟨k + 1, by omega, by omega, by go_num, hBk.trans (hb7.mono (by omega)), by omega, by rw [Hkk.out]; exact ck, fun x h1 h5 => ?_, fun x => ?_⟩
                  · exact (hb7.cell (p := ⟨wo.heap.size, x, none⟩) hsk).trans (Hzk.out x h1 h5)
                  · exact (hb7.frozen (p := ⟨wo.heap.size, x, none⟩) hsk).trans (Hfk.out x)
                case measure => simp [intOf]; omega
            · obtain rfl : k = 8 := by omega
              have hck := Hck.out
              rw [kk_last] at hck
              have hKr := kindOf_range p0.data.toList
              obtain ⟨K, hK⟩ : ∃ K, K = kindOf p0.data.toList := ⟨_, rfl⟩
              rw [← hK] at hck hKr
              have HK := Lib.hid hK
              clear hK
              have z1 := Hzk.out 1 (by omega) (by omega)
              have z2 := Hzk.out 2 (by omega) (by omega)
              have z3 := Hzk.out 3 (by omega) (by omega)
              have z4 := Hzk.out 4 (by omega) (by omega)
              have z5 := Hzk.out 5 (by omega) (by omega)
              have f0 := Hfk.out
              have hBl : Below (w.heap.size + 1) (w.alloc (.cells #[.int .i64 0, .int .i64 0, .int .i64 0, .int .i64 0, .int .i64 0, .int .i64 0] 23)) wr := (hB4.trans (hB.mono (by omega))).trans (hBk.mono (by omega))
              have r0 : wr.cell? ⟨w.heap.size, 0, none⟩ = some (.int .i64 0) := (hBl.cell (p := ⟨w.heap.size, 0, none⟩) (by simp)).trans (by simp)
              have r1 : wr.cell? ⟨w.heap.size, 1, none⟩ = some (.int .i64 0) := (hBl.cell (p := ⟨w.heap.size, 1, none⟩) (by simp)).trans (by simp)
              have r2 : wr.cell? ⟨w.heap.size, 2, none⟩ = some (.int .i64 0) := (hBl.cell (p := ⟨w.heap.size, 2, none⟩) (by simp)).trans (by simp)
              have r3 : wr.cell? ⟨w.heap.size, 3, none⟩ = some (.int .i64 0) := (hBl.cell (p := ⟨w.heap.size, 3, none⟩) (by simp)).trans (by simp)
              have r4 : wr.cell? ⟨w.heap.size, 4, none⟩ = some (.int .i64 0) := (hBl.cell (p := ⟨w.heap.size, 4, none⟩) (by simp)).trans (by simp)
              have r5 : wr.cell? ⟨w.heap.size, 5, none⟩ = some (.int .i64 0) := (hBl.cell (p := ⟨w.heap.size, 5, none⟩) (by simp)).trans (by simp)
              have fr0 : ∀ o, wr.frozen? ⟨w.heap.size, o, none⟩ = false := fun o => (hBl.frozen (p := ⟨w.heap.size, o, none⟩) (by simp)).trans (by simp)
              have hBw : Below w.heap.size w wr := ((Below.refl _ w).alloc (Nat.le_refl _) _).trans (hBl.mono (by omega))
              have hne : w.heap.size ≠ wo.heap.size := by omega
              by_cases hD : K ≠ 0 ∧ pt.length = arity K
              · rcases arity_cases K (by omega) (by omega) with ⟨ha, hk⟩ | ⟨ha, hk⟩ | ⟨ha, hk⟩
                · have hn : pt.length = 1 := by omega
                  obtain ⟨g7, ha7, hg7, hc7⟩ := H7.out (by omega)
                  have A7 := Lib.hid ha7
                  clear ha7
                  obtain ⟨p1, hp1⟩ : ∃ p, pt[0]? = some p := ⟨_, List.getElem?_eq_getElem (by omega)⟩
                  have cn1 : wr.cell? ⟨g7, 0, none⟩ = some (.int .i64 (told p1.data.toList)) := (hBk.cell (p := ⟨g7, 0, none⟩) hg7).trans (hc7 0 p1 hp1)
                  have hpt : pt = [p1] := by
                    apply List.ext_getElem?
                    intro i
                    match i with
                    | 0 => rw [hp1]; rfl
                    | i + 1 => rw [List.getElem?_eq_none (by omega)]; rfl
                  have hop : opOf K ((pt.map (·.data.toList)).map told) = ⟨K, told p1.data.toList, 0, 0, 0, 0⟩ := by
                    rw [hpt]
                    rcases hk with h | h | h <;> rw [h] <;> simp [opOf]
                  have hread : readS s.data.toList = if mayB ⟨K, told p1.data.toList, 0, 0, 0, 0⟩ then some ⟨K, told p1.data.toList, 0, 0, 0, 0⟩ else none := by
                    have hf := (fields_opOf K (by omega) (by omega) ((pt.map (·.data.toList)).map told) (by simpa using hD.2)).2.2
                    rw [hop] at hf
                    have hmb : mayB ⟨K, told p1.data.toList, 0, 0, 0, 0⟩ = true ↔ ∀ v ∈ (pt.map (·.data.toList)).map told, okN v := by
                      unfold mayB; rw [decide_eq_true_iff]; exact hf
                    unfold readS readL
                    rw [Hspl.out]
                    simp only
                    rw [← HK.out, hop]
                    by_cases hb : mayB ⟨K, told p1.data.toList, 0, 0, 0, 0⟩ = true
                    · rw [if_pos hb, if_pos]
                      exact ⟨hD.1, by simpa using hD.2, fun x hx => (hmb.1 hb) _ (List.mem_map.2 ⟨x, hx, rfl⟩)⟩
                    · rw [if_neg hb, if_neg]
                      rintro ⟨_, _, h3⟩
                      exact hb (hmb.2 (fun v hv => by
                        obtain ⟨x, hx, rfl⟩ := List.mem_map.1 hv
                        exact h3 x hx))
                  have Hread := Lib.hid hread
                  have cbn : ((pt.length : Int) == 1) = true := by rw [beq_iff_eq]; omega
                  have a7e := A7.out
                  subst a7e
                  have hln : 1 ≤ pt.length := by omega
                  clear hp1
                  clear hpt hop hread hn hc7 hD A7
                  have b5 : (K == 5) = false := by rw [beq_eq_false_iff_ne]; omega
                  have b1 : (K == 1) = true ∨ ((K == 1) = false ∧ 6 ≤ K) := by
                    by_cases h : K = 1
                    · left; rw [beq_iff_eq]; exact h
                    · right; exact ⟨by rw [beq_eq_false_iff_ne]; exact h, by omega⟩
                  clear hk ha
                  rcases b1 with b1 | ⟨b1, k1⟩
                  all_goals
                    go_wp2_with fail
                    refine (rmay_x (K) (told p1.data.toList) (0) (0) (0) (0) _).mono ?_
                    rintro e w8 ⟨rfl, hb8⟩
                    have hs8 := hb8.size
                    simp only [World.size_setCell] at hb8 hs8
                    have hBl8 := (hBl.setCell (p := ⟨wo.heap.size, 1, none⟩) (by show w.heap.size + 1 ≤ wo.heap.size; omega) _).trans (hb8.mono (by omega))
                    have hBw8 : Below w.heap.size w w8 := ((Below.refl _ w).alloc (Nat.le_refl _) _).trans (hBl8.mono (by omega))
                    have e0 : w8.cell? ⟨w.heap.size, 0, none⟩ = some (.int .i64 0) := (hBl8.cell (p := ⟨w.heap.size, 0, none⟩) (by simp)).trans (by simp)
                    have e1 : w8.cell? ⟨w.heap.size, 1, none⟩ = some (.int .i64 0) := (hBl8.cell (p := ⟨w.heap.size, 1, none⟩) (by simp)).trans (by simp)
                    have e2 : w8.cell? ⟨w.heap.size, 2, none⟩ = some (.int .i64 0) := (hBl8.cell (p := ⟨w.heap.size, 2, none⟩) (by simp)).trans (by simp)
                    have e3 : w8.cell? ⟨w.heap.size, 3, none⟩ = some (.int .i64 0) := (hBl8.cell (p := ⟨w.heap.size, 3, none⟩) (by simp)).trans (by simp)
                    have e4 : w8.cell? ⟨w.heap.size, 4, none⟩ = some (.int .i64 0) := (hBl8.cell (p := ⟨w.heap.size, 4, none⟩) (by simp)).trans (by simp)
                    have e5 : w8.cell? ⟨w.heap.size, 5, none⟩ = some (.int .i64 0) := (hBl8.cell (p := ⟨w.heap.size, 5, none⟩) (by simp)).trans (by simp)
                    have fe : ∀ o, w8.frozen? ⟨w.heap.size, o, none⟩ = false := fun o => (hBl8.frozen (p := ⟨w.heap.size, o, none⟩) (by simp)).trans (by simp)
                    have m0 : w8.cell? ⟨wo.heap.size, 0, none⟩ = some (.int .i64 (K)) := (hb8.cell (p := ⟨wo.heap.size, 0, none⟩) hsk).trans (by simp [go_sem, hck, z1, z2, z3, z4, z5])
                    have m1 : w8.cell? ⟨wo.heap.size, 1, none⟩ = some (.int .i64 (told p1.data.toList)) := (hb8.cell (p := ⟨wo.heap.size, 1, none⟩) hsk).trans (by simp [go_sem, hck, z1, z2, z3, z4, z5])
                    have m2 : w8.cell? ⟨wo.heap.size, 2, none⟩ = some (.int .i64 (0)) := (hb8.cell (p := ⟨wo.heap.size, 2, none⟩) hsk).trans (by simp [go_sem, hck, z1, z2, z3, z4, z5])
                    have m3 : w8.cell? ⟨wo.heap.size, 3, none⟩ = some (.int .i64 (0)) := (hb8.cell (p := ⟨wo.heap.size, 3, none⟩) hsk).trans (by simp [go_sem, hck, z1, z2, z3, z4, z5])
                    have m4 : w8.cell? ⟨wo.heap.size, 4, none⟩ = some (.int .i64 (0)) := (hb8.cell (p := ⟨wo.heap.size, 4, none⟩) hsk).trans (by simp [go_sem, hck, z1, z2, z3, z4, z5])
                    have m5 : w8.cell? ⟨wo.heap.size, 5, none⟩ = some (.int .i64 (0)) := (hb8.cell (p := ⟨wo.heap.size, 5, none⟩) hsk).trans (by simp [go_sem, hck, z1, z2, z3, z4, z5])
                    cases hb : mayB ⟨K, told p1.data.toList, 0, 0, 0, 0⟩ with
                    | true =>
                      have hfin : resO s.data.toList = ⟨K, told p1.data.toList, 0, 0, 0, 0⟩ ∧ resE s.data.toList = 0 := by
                        unfold resO resE; rw [Hread.out, hb]; exact ⟨rfl, rfl⟩
                      have Hfin := Lib.hid hfin
                      clear hfin Hread
                      go_wp2_with fail
                      refine bodyPost_ret (v := .tuple #[.agg #[.int .i64 (K), .int .i64 (told p1.data.toList), .int .i64 (0), .int .i64 (0), .int .i64 (0), .int .i64 (0)], .int .i64 0]) (by simp [results, Tryd.results7, go_sem, e0, e1, e2, e3, e4, e5]) rfl ⟨?_, ?_⟩
                      · rw [Hfin.out.1, Hfin.out.2]; rfl
                      · exact ((((((hBw8.setCell (p := ⟨w.heap.size, 0, none⟩) (Nat.le_refl _) _).setCell (p := ⟨w.heap.size, 1, none⟩) (Nat.le_refl _) _).setCell (p := ⟨w.heap.size, 2, none⟩) (Nat.le_refl _) _).setCell (p := ⟨w.heap.size, 3, none⟩) (Nat.le_refl _) _).setCell (p := ⟨w.heap.size, 4, none⟩) (Nat.le_refl _) _).setCell (p := ⟨w.heap.size, 5, none⟩) (Nat.le_refl _) _)
                    | false =>
                      have hfin : resO s.data.toList = ⟨0, 0, 0, 0, 0, 0⟩ ∧ resE s.data.toList = 292 := by
                        unfold resO resE; rw [Hread.out, hb]; exact ⟨rfl, rfl⟩
                      have Hfin := Lib.hid hfin
                      clear hfin Hread
                      go_wp2_with fail
                      refine bodyPost_ret (v := .tuple #[.agg #[.int .i64 0, .int .i64 0, .int .i64 0, .int .i64 0, .int .i64 0, .int .i64 0], .int .i64 292]) (by simp [results, Tryd.results7, go_sem, e0, e1, e2, e3, e4, e5]) rfl ⟨?_, ?_⟩
                      · rw [Hfin.out.1, Hfin.out.2]; rfl
                      · exact ((((((hBw8.setCell (p := ⟨w.heap.size, 0, none⟩) (Nat.le_refl _) _).setCell (p := ⟨w.heap.size, 1, none⟩) (Nat.le_refl _) _).setCell (p := ⟨w.heap.size, 2, none⟩) (Nat.le_refl _) _).setCell (p := ⟨w.heap.size, 3, none⟩) (Nat.le_refl _) _).setCell (p := ⟨w.heap.size, 4, none⟩) (Nat.le_refl _) _).setCell (p := ⟨w.heap.size, 5, none⟩) (Nat.le_refl _) _)
                · have hn : pt.length = 3 := by omega
                  obtain ⟨g7, ha7, hg7, hc7⟩ := H7.out (by omega)
                  have A7 := Lib.hid ha7
                  clear ha7
                  obtain ⟨p1, hp1⟩ : ∃ p, pt[0]? = some p := ⟨_, List.getElem?_eq_getElem (by omega)⟩
                  have cn1 : wr.cell? ⟨g7, 0, none⟩ = some (.int .i64 (told p1.data.toList)) := (hBk.cell (p := ⟨g7, 0, none⟩) hg7).trans (hc7 0 p1 hp1)
                  obtain ⟨p2, hp2⟩ : ∃ p, pt[1]? = some p := ⟨_, List.getElem?_eq_getElem (by omega)⟩
                  have cn2 : wr.cell? ⟨g7, 1, none⟩ = some (.int .i64 (told p2.data.toList)) := (hBk.cell (p := ⟨g7, 1, none⟩) hg7).trans (hc7 1 p2 hp2)
                  obtain ⟨p3, hp3⟩ : ∃ p, pt[2]? = some p := ⟨_, List.getElem?_eq_getElem (by omega)⟩
                  have cn3 : wr.cell? ⟨g7, 2, none⟩ = some (.int .i64 (told p3.data.toList)) := (hBk.cell (p := ⟨g7, 2, none⟩) hg7).trans (hc7 2 p3 hp3)
                  have hpt : pt = [p1, p2, p3] := by
                    apply List.ext_getElem?
                    intro i
                    match i with
                    | 0 => rw [hp1]; rfl
                    | 1 => rw [hp2]; rfl
                    | 2 => rw [hp3]; rfl
                    | i + 3 => rw [List.getElem?_eq_none (by omega)]; rfl
                  have hop : opOf K ((pt.map (·.data.toList)).map told) = ⟨K, 0, told p1.data.toList, told p2.data.toList, told p3.data.toList, 0⟩ := by
                    rw [hpt]
                    rcases hk with h | h | h <;> rw [h] <;> simp [opOf]
                  have hread : readS s.data.toList = if mayB ⟨K, 0, told p1.data.toList, told p2.data.toList, told p3.data.toList, 0⟩ then some ⟨K, 0, told p1.data.toList, told p2.data.toList, told p3.data.toList, 0⟩ else none := by
                    have hf := (fields_opOf K (by omega) (by omega) ((pt.map (·.data.toList)).map told) (by simpa using hD.2)).2.2
                    rw [hop] at hf
                    have hmb : mayB ⟨K, 0, told p1.data.toList, told p2.data.toList, told p3.data.toList, 0⟩ = true ↔ ∀ v ∈ (pt.map (·.data.toList)).map told, okN v := by
                      unfold mayB; rw [decide_eq_true_iff]; exact hf
                    unfold readS readL
                    rw [Hspl.out]
                    simp only
                    rw [← HK.out, hop]
                    by_cases hb : mayB ⟨K, 0, told p1.data.toList, told p2.data.toList, told p3.data.toList, 0⟩ = true
                    · rw [if_pos hb, if_pos]
                      exact ⟨hD.1, by simpa using hD.2, fun x hx => (hmb.1 hb) _ (List.mem_map.2 ⟨x, hx, rfl⟩)⟩
                    · rw [if_neg hb, if_neg]
                      rintro ⟨_, _, h3⟩
                      exact hb (hmb.2 (fun v hv => by
                        obtain ⟨x, hx, rfl⟩ := List.mem_map.1 hv
                        exact h3 x hx))
                  have Hread := Lib.hid hread
                  have cbn : ((pt.length : Int) == 3) = true := by rw [beq_iff_eq]; omega
                  have a7e := A7.out
                  subst a7e
                  have hln : 3 ≤ pt.length := by omega
                  clear hp1
                  clear hp2
                  clear hp3
                  clear hpt hop hread hn hc7 hD A7
                  have b5 : (K == 5) = false := by rw [beq_eq_false_iff_ne]; omega
                  have b1 : (K == 1) = false := by rw [beq_eq_false_iff_ne]; omega
                  have k1 : 2 ≤ K := by omega
                  have k2 : K ≤ 4 := by omega
                  clear hk ha
                  have _t := trivial
                  all_goals
                    go_wp2_with fail
                    refine (rmay_x (K) (0) (told p1.data.toList) (told p2.data.toList) (told p3.data.toList) (0) _).mono ?_
                    rintro e w8 ⟨rfl, hb8⟩
                    have hs8 := hb8.size
                    simp only [World.size_setCell] at hb8 hs8
                    have hBl8 := (((hBl.setCell (p := ⟨wo.heap.size, 2, none⟩) (by show w.heap.size + 1 ≤ wo.heap.size; omega) _).setCell (p := ⟨wo.heap.size, 3, none⟩) (by show w.heap.size + 1 ≤ wo.heap.size; omega) _).setCell (p := ⟨wo.heap.size, 4, none⟩) (by show w.heap.size + 1 ≤ wo.heap.size; omega) _).trans (hb8.mono (by omega))
                    have hBw8 : Below w.heap.size w w8 := ((Below.refl _ w).alloc (Nat.le_refl _) _).trans (hBl8.mono (by omega))
                    have e0 : w8.cell? ⟨w.heap.size, 0, none⟩ = some (.int .i64 0) := (hBl8.cell (p := ⟨w.heap.size, 0, none⟩) (by simp)).trans (by simp)
                    have e1 : w8.cell? ⟨w.heap.size, 1, none⟩ = some (.int .i64 0) := (hBl8.cell (p := ⟨w.heap.size, 1, none⟩) (by simp)).trans (by simp)
                    have e2 : w8.cell? ⟨w.heap.size, 2, none⟩ = some (.int .i64 0) := (hBl8.cell (p := ⟨w.heap.size, 2, none⟩) (by simp)).trans (by simp)
                    have e3 : w8.cell? ⟨w.heap.size, 3, none⟩ = some (.int .i64 0) := (hBl8.cell (p := ⟨w.heap.size, 3, none⟩) (by simp)).trans (by simp)
                    have e4 : w8.cell? ⟨w.heap.size, 4, none⟩ = some (.int .i64 0) := (hBl8.cell (p := ⟨w.heap.size, 4, none⟩) (by simp)).trans (by simp)
                    have e5 : w8.cell? ⟨w.heap.size, 5, none⟩ = some (.int .i64 0) := (hBl8.cell (p := ⟨w.heap.size, 5, none⟩) (by simp)).trans (by simp)
                    have fe : ∀ o, w8.frozen? ⟨w.heap.size, o, none⟩ = false := fun o => (hBl8.frozen (p := ⟨w.heap.size, o, none⟩) (by simp)).trans (by simp)
                    have m0 : w8.cell? ⟨wo.heap.size, 0, none⟩ = some (.int .i64 (K)) := (hb8.cell (p := ⟨wo.heap.size, 0, none⟩) hsk).trans (by simp [go_sem, hck, z1, z2, z3, z4, z5])
                    have m1 : w8.cell? ⟨wo.heap.size, 1, none⟩ = some (.int .i64 (0)) := (hb8.cell (p := ⟨wo.heap.size, 1, none⟩) hsk).trans (by simp [go_sem, hck, z1, z2, z3, z4, z5])
                    have m2 : w8.cell? ⟨wo.heap.size, 2, none⟩ = some (.int .i64 (told p1.data.toList)) := (hb8.cell (p := ⟨wo.heap.size, 2, none⟩) hsk).trans (by simp [go_sem, hck, z1, z2, z3, z4, z5])
                    have m3 : w8.cell? ⟨wo.heap.size, 3, none⟩ = some (.int .i64 (told p2.data.toList)) := (hb8.cell (p := ⟨wo.heap.size, 3, none⟩) hsk).trans (by simp [go_sem, hck, z1, z2, z3, z4, z5])
                    have m4 : w8.cell? ⟨wo.heap.size, 4, none⟩ = some (.int .i64 (told p3.data.toList)) := (hb8.cell (p := ⟨wo.heap.size, 4, none⟩) hsk).trans (by simp [go_sem, hck, z1, z2, z3, z4, z5])
                    have m5 : w8.cell? ⟨wo.heap.size, 5, none⟩ = some (.int .i64 (0)) := (hb8.cell (p := ⟨wo.heap.size, 5, none⟩) hsk).trans (by simp [go_sem, hck, z1, z2, z3, z4, z5])
                    cases hb : mayB ⟨K, 0, told p1.data.toList, told p2.data.toList, told p3.data.toList, 0⟩ with
                    | true =>
                      have hfin : resO s.data.toList = ⟨K, 0, told p1.data.toList, told p2.data.toList, told p3.data.toList, 0⟩ ∧ resE s.data.toList = 0 := by
                        unfold resO resE; rw [Hread.out, hb]; exact ⟨rfl, rfl⟩
                      have Hfin := Lib.hid hfin
                      clear hfin Hread
                      go_wp2_with fail
                      refine bodyPost_ret (v := .tuple #[.agg #[.int .i64 (K), .int .i64 (0), .int .i64 (told p1.data.toList), .int .i64 (told p2.data.toList), .int .i64 (told p3.data.toList), .int .i64 (0)], .int .i64 0]) (by simp [results, Tryd.results7, go_sem, e0, e1, e2, e3, e4, e5]) rfl ⟨?_, ?_⟩
                      · rw [Hfin.out.1, Hfin.out.2]; rfl
                      · exact ((((((hBw8.setCell (p := ⟨w.heap.size, 0, none⟩) (Nat.le_refl _) _).setCell (p := ⟨w.heap.size, 1, none⟩) (Nat.le_refl _) _).setCell (p := ⟨w.heap.size, 2, none⟩) (Nat.le_refl _) _).setCell (p := ⟨w.heap.size, 3, none⟩) (Nat.le_refl _) _).setCell (p := ⟨w.heap.size, 4, none⟩) (Nat.le_refl _) _).setCell (p := ⟨w.heap.size, 5, none⟩) (Nat.le_refl _) _)
                    | false =>
                      have hfin : resO s.data.toList = ⟨0, 0, 0, 0, 0, 0⟩ ∧ resE s.data.toList = 292 := by
                        unfold resO resE; rw [Hread.out, hb]; exact ⟨rfl, rfl⟩
                      have Hfin := Lib.hid hfin
                      clear hfin Hread
                      go_wp2_with fail
                      refine bodyPost_ret (v := .tuple #[.agg #[.int .i64 0, .int .i64 0, .int .i64 0, .int .i64 0, .int .i64 0, .int .i64 0], .int .i64 292]) (by simp [results, Tryd.results7, go_sem, e0, e1, e2, e3, e4, e5]) rfl ⟨?_, ?_⟩
                      · rw [Hfin.out.1, Hfin.out.2]; rfl
                      · exact ((((((hBw8.setCell (p := ⟨w.heap.size, 0, none⟩) (Nat.le_refl _) _).setCell (p := ⟨w.heap.size, 1, none⟩) (Nat.le_refl _) _).setCell (p := ⟨w.heap.size, 2, none⟩) (Nat.le_refl _) _).setCell (p := ⟨w.heap.size, 3, none⟩) (Nat.le_refl _) _).setCell (p := ⟨w.heap.size, 4, none⟩) (Nat.le_refl _) _).setCell (p := ⟨w.heap.size, 5, none⟩) (Nat.le_refl _) _)
                · have hn : pt.length = 4 := by omega
                  obtain ⟨g7, ha7, hg7, hc7⟩ := H7.out (by omega)
                  have A7 := Lib.hid ha7
                  clear ha7
                  obtain ⟨p1, hp1⟩ : ∃ p, pt[0]? = some p := ⟨_, List.getElem?_eq_getElem (by omega)⟩
                  have cn1 : wr.cell? ⟨g7, 0, none⟩ = some (.int .i64 (told p1.data.toList)) := (hBk.cell (p := ⟨g7, 0, none⟩) hg7).trans (hc7 0 p1 hp1)
                  obtain ⟨p2, hp2⟩ : ∃ p, pt[1]? = some p := ⟨_, List.getElem?_eq_getElem (by omega)⟩
                  have cn2 : wr.cell? ⟨g7, 1, none⟩ = some (.int .i64 (told p2.data.toList)) := (hBk.cell (p := ⟨g7, 1, none⟩) hg7).trans (hc7 1 p2 hp2)
                  obtain ⟨p3, hp3⟩ : ∃ p, pt[2]? = some p := ⟨_, List.getElem?_eq_getElem (by omega)⟩
                  have cn3 : wr.cell? ⟨g7, 2, none⟩ = some (.int .i64 (told p3.data.toList)) := (hBk.cell (p := ⟨g7, 2, none⟩) hg7).trans (hc7 2 p3 hp3)
                  obtain ⟨p4, hp4⟩ : ∃ p, pt[3]? = some p := ⟨_, List.getElem?_eq_getElem (by omega)⟩
                  have cn4 : wr.cell? ⟨g7, 3, none⟩ = some (.int .i64 (told p4.data.toList)) := (hBk.cell (p := ⟨g7, 3, none⟩) hg7).trans (hc7 3 p4 hp4)
                  have hpt : pt = [p1, p2, p3, p4] := by
                    apply List.ext_getElem?
                    intro i
                    match i with
                    | 0 => rw [hp1]; rfl
                    | 1 => rw [hp2]; rfl
                    | 2 => rw [hp3]; rfl
                    | 3 => rw [hp4]; rfl
                    | i + 4 => rw [List.getElem?_eq_none (by omega)]; rfl
                  have hop : opOf K ((pt.map (·.data.toList)).map told) = ⟨K, 0, told p1.data.toList, told p2.data.toList, told p3.data.toList, told p4.data.toList⟩ := by
                    rw [hpt]
                    rw [hk]; simp [opOf]
                  have hread : readS s.data.toList = if mayB ⟨K, 0, told p1.data.toList, told p2.data.toList, told p3.data.toList, told p4.data.toList⟩ then some ⟨K, 0, told p1.data.toList, told p2.data.toList, told p3.data.toList, told p4.data.toList⟩ else none := by
                    have hf := (fields_opOf K (by omega) (by omega) ((pt.map (·.data.toList)).map told) (by simpa using hD.2)).2.2
                    rw [hop] at hf
                    have hmb : mayB ⟨K, 0, told p1.data.toList, told p2.data.toList, told p3.data.toList, told p4.data.toList⟩ = true ↔ ∀ v ∈ (pt.map (·.data.toList)).map told, okN v := by
                      unfold mayB; rw [decide_eq_true_iff]; exact hf
                    unfold readS readL
                    rw [Hspl.out]
                    simp only
                    rw [← HK.out, hop]
                    by_cases hb : mayB ⟨K, 0, told p1.data.toList, told p2.data.toList, told p3.data.toList, told p4.data.toList⟩ = true
                    · rw [if_pos hb, if_pos]
                      exact ⟨hD.1, by simpa using hD.2, fun x hx => (hmb.1 hb) _ (List.mem_map.2 ⟨x, hx, rfl⟩)⟩
                    · rw [if_neg hb, if_neg]
                      rintro ⟨_, _, h3⟩
                      exact hb (hmb.2 (fun v hv => by
                        obtain ⟨x, hx, rfl⟩ := List.mem_map.1 hv
                        exact h3 x hx))
                  have Hread := Lib.hid hread
                  have cbn : ((pt.length : Int) == 4) = true := by rw [beq_iff_eq]; omega
                  have a7e := A7.out
                  subst a7e
                  have hln : 4 ≤ pt.length := by omega
                  clear hp1
                  clear hp2
                  clear hp3
                  clear hp4
                  clear hpt hop hread hn hc7 hD A7
                  have b5 : (K == 5) = true := by rw [beq_iff_eq]; omega
                  have b1 : (K == 1) = false := by rw [beq_eq_false_iff_ne]; omega
                  have k1 : 5 ≤ K := by omega
                  have k2 : K ≤ 5 := by omega
                  clear hk ha
                  have _t := trivial
                  all_goals
                    go_wp2_with fail
                    refine (rmay_x (K) (0) (told p1.data.toList) (told p2.data.toList) (told p3.data.toList) (told p4.data.toList) _).mono ?_
                    rintro e w8 ⟨rfl, hb8⟩
                    have hs8 := hb8.size
                    simp only [World.size_setCell] at hb8 hs8
                    have hBl8 := ((((hBl.setCell (p := ⟨wo.heap.size, 2, none⟩) (by show w.heap.size + 1 ≤ wo.heap.size; omega) _).setCell (p := ⟨wo.heap.size, 3, none⟩) (by show w.heap.size + 1 ≤ wo.heap.size; omega) _).setCell (p := ⟨wo.heap.size, 4, none⟩) (by show w.heap.size + 1 ≤ wo.heap.size; omega) _).setCell (p := ⟨wo.heap.size, 5, none⟩) (by show w.heap.size + 1 ≤ wo.heap.size; omega) _).trans (hb8.mono (by omega))
                    have hBw8 : Below w.heap.size w w8 := ((Below.refl _ w).alloc (Nat.le_refl _) _).trans (hBl8.mono (by omega))
                    have e0 : w8.cell? ⟨w.heap.size, 0, none⟩ = some (.int .i64 0) := (hBl8.cell (p := ⟨w.heap.size, 0, none⟩) (by simp)).trans (by simp)
                    have e1 : w8.cell? ⟨w.heap.size, 1, none⟩ = some (.int .i64 0) := (hBl8.cell (p := ⟨w.heap.size, 1, none⟩) (by simp)).trans (by simp)
                    have e2 : w8.cell? ⟨w.heap.size, 2, none⟩ = some (.int .i64 0) := (hBl8.cell (p := ⟨w.heap.size, 2, none⟩) (by simp)).trans (by simp)
                    have e3 : w8.cell? ⟨w.heap.size, 3, none⟩ = some (.int .i64 0) := (hBl8.cell (p := ⟨w.heap.size, 3, none⟩) (by simp)).trans (by simp)
                    have e4 : w8.cell? ⟨w.heap.size, 4, none⟩ = some (.int .i64 0) := (hBl8.cell (p := ⟨w.heap.size, 4, none⟩) (by simp)).trans (by simp)
                    have e5 : w8.cell? ⟨w.heap.size, 5, none⟩ = some (.int .i64 0) := (hBl8.cell (p := ⟨w.heap.size, 5, none⟩) (by simp)).trans (by simp)
                    have fe : ∀ o, w8.frozen? ⟨w.heap.size, o, none⟩ = false := fun o => (hBl8.frozen (p := ⟨w.heap.size, o, none⟩) (by simp)).trans (by simp)
                    have m0 : w8.cell? ⟨wo.heap.size, 0, none⟩ = some (.int .i64 (K)) := (hb8.cell (p := ⟨wo.heap.size, 0, none⟩) hsk).trans (by simp [go_sem, hck, z1, z2, z3, z4, z5])
                    have m1 : w8.cell? ⟨wo.heap.size, 1, none⟩ = some (.int .i64 (0)) := (hb8.cell (p := ⟨wo.heap.size, 1, none⟩) hsk).trans (by simp [go_sem, hck, z1, z2, z3, z4, z5])
                    have m2 : w8.cell? ⟨wo.heap.size, 2, none⟩ = some (.int .i64 (told p1.data.toList)) := (hb8.cell (p := ⟨wo.heap.size, 2, none⟩) hsk).trans (by simp [go_sem, hck, z1, z2, z3, z4, z5])
                    have m3 : w8.cell? ⟨wo.heap.size, 3, none⟩ = some (.int .i64 (told p2.data.toList)) := (hb8.cell (p := ⟨wo.heap.size, 3, none⟩) hsk).trans (by simp [go_sem, hck, z1, z2, z3, z4, z5])
                    have m4 : w8.cell? ⟨wo.heap.size, 4, none⟩ = some (.int .i64 (told p3.data.toList)) := (hb8.cell (p := ⟨wo.heap.size, 4, none⟩) hsk).trans (by simp [go_sem, hck, z1, z2, z3, z4, z5])
                    have m5 : w8.cell? ⟨wo.heap.size, 5, none⟩ = some (.int .i64 (told p4.data.toList)) := (hb8.cell (p := ⟨wo.heap.size, 5, none⟩) hsk).trans (by simp [go_sem, hck, z1, z2, z3, z4, z5])
                    cases hb : mayB ⟨K, 0, told p1.data.toList, told p2.data.toList, told p3.data.toList, told p4.data.toList⟩ with
                    | true =>
                      have hfin : resO s.data.toList = ⟨K, 0, told p1.data.toList, told p2.data.toList, told p3.data.toList, told p4.data.toList⟩ ∧ resE s.data.toList = 0 := by
                        unfold resO resE; rw [Hread.out, hb]; exact ⟨rfl, rfl⟩
                      have Hfin := Lib.hid hfin
                      clear hfin Hread
                      go_wp2_with fail
                      refine bodyPost_ret (v := .tuple #[.agg #[.int .i64 (K), .int .i64 (0), .int .i64 (told p1.data.toList), .int .i64 (told p2.data.toList), .int .i64 (told p3.data.toList), .int .i64 (told p4.data.toList)], .int .i64 0]) (by simp [results, Tryd.results7, go_sem, e0, e1, e2, e3, e4, e5]) rfl ⟨?_, ?_⟩
                      · rw [Hfin.out.1, Hfin.out.2]; rfl
                      · exact ((((((hBw8.setCell (p := ⟨w.heap.size, 0, none⟩) (Nat.le_refl _) _).setCell (p := ⟨w.heap.size, 1, none⟩) (Nat.le_refl _) _).setCell (p := ⟨w.heap.size, 2, none⟩) (Nat.le_refl _) _).setCell (p := ⟨w.heap.size, 3, none⟩) (Nat.le_refl _) _).setCell (p := ⟨w.heap.size, 4, none⟩) (Nat.le_refl _) _).setCell (p := ⟨w.heap.size, 5, none⟩) (Nat.le_refl _) _)
                    | false =>
                      have hfin : resO s.data.toList = ⟨0, 0, 0, 0, 0, 0⟩ ∧ resE s.data.toList = 292 := by
                        unfold resO resE; rw [Hread.out, hb]; exact ⟨rfl, rfl⟩
                      have Hfin := Lib.hid hfin
                      clear hfin Hread
                      go_wp2_with fail
                      refine bodyPost_ret (v := .tuple #[.agg #[.int .i64 0, .int .i64 0, .int .i64 0, .int .i64 0, .int .i64 0, .int .i64 0], .int .i64 292]) (by simp [results, Tryd.results7, go_sem, e0, e1, e2, e3, e4, e5]) rfl ⟨?_, ?_⟩
                      · rw [Hfin.out.1, Hfin.out.2]; rfl
                      · exact ((((((hBw8.setCell (p := ⟨w.heap.size, 0, none⟩) (Nat.le_refl _) _).setCell (p := ⟨w.heap.size, 1, none⟩) (Nat.le_refl _) _).setCell (p := ⟨w.heap.size, 2, none⟩) (Nat.le_refl _) _).setCell (p := ⟨w.heap.size, 3, none⟩) (Nat.le_refl _) _).setCell (p := ⟨w.heap.size, 4, none⟩) (Nat.le_refl _) _).setCell (p := ⟨w.heap.size, 5, none⟩) (Nat.le_refl _) _)
              · have hfin : resO s.data.toList = ⟨0, 0, 0, 0, 0, 0⟩ ∧ resE s.data.toList = 292 := by
                  have hr : readS s.data.toList = none := by
                    unfold readS readL
                    rw [Hspl.out]
                    simp only
                    rw [← HK.out, if_neg]
                    rintro ⟨h1, h2, _⟩
                    exact hD ⟨h1, by simpa using h2⟩
                  unfold resO resE; rw [hr]; exact ⟨rfl, rfl⟩
                have Hfin := Lib.hid hfin
                clear hfin
                have hKc : (K = 0) ∨ (K = 1 ∧ pt.length ≠ 1) ∨ ((K = 6 ∨ K = 7) ∧ pt.length ≠ 1) ∨ ((K = 2 ∨ K = 3 ∨ K = 4) ∧ pt.length ≠ 3) ∨ (K = 5 ∧ pt.length ≠ 4) := by
                  by_cases h0 : K = 0
                  · exact .inl h0
                  have hne2 : pt.length ≠ arity K := fun e => hD ⟨h0, e⟩
                  rcases arity_cases K (by omega) (by omega) with ⟨ha, h⟩ | ⟨ha, h⟩ | ⟨ha, h⟩ <;> rw [ha] at hne2 <;> omega
                clear hD
                rcases hKc with h | ⟨h, hn⟩ | ⟨h, hn⟩ | ⟨h, hn⟩ | ⟨h, hn⟩
                · have b1 : (K == 1) = false := by rw [beq_eq_false_iff_ne]; omega
                  have b5 : (K == 5) = false := by rw [beq_eq_false_iff_ne]; omega
                  have k1 : K < 2 := by omega
                  clear h
                  go_wp2_with fail
                  refine bodyPost_ret (v := .tuple #[.agg #[.int .i64 0, .int .i64 0, .int .i64 0, .int .i64 0, .int .i64 0, .int .i64 0], .int .i64 292]) (by simp [results, Tryd.results7, go_sem, r0, r1, r2, r3, r4, r5]) rfl ⟨?_, ?_⟩
                  · rw [Hfin.out.1, Hfin.out.2]; rfl
                  · exact (((((hBw.setCell (p := ⟨w.heap.size, 0, none⟩) (Nat.le_refl _) _).setCell (p := ⟨w.heap.size, 1, none⟩) (Nat.le_refl _) _).setCell (p := ⟨w.heap.size, 2, none⟩) (Nat.le_refl _) _).setCell (p := ⟨w.heap.size, 3, none⟩) (Nat.le_refl _) _).setCell (p := ⟨w.heap.size, 4, none⟩) (Nat.le_refl _) _).setCell (p := ⟨w.heap.size, 5, none⟩) (Nat.le_refl _) _
                · have b1 : (K == 1) = true := by rw [beq_iff_eq]; omega
                  have b5 : (K == 5) = false := by rw [beq_eq_false_iff_ne]; omega
                  have bn : ((pt.length : Int) == 1) = false := by rw [beq_eq_false_iff_ne]; omega
                  have k1 : K < 2 := by omega
                  clear h
                  go_wp2_with fail
                  refine bodyPost_ret (v := .tuple #[.agg #[.int .i64 0, .int .i64 0, .int .i64 0, .int .i64 0, .int .i64 0, .int .i64 0], .int .i64 292]) (by simp [results, Tryd.results7, go_sem, r0, r1, r2, r3, r4, r5]) rfl ⟨?_, ?_⟩
                  · rw [Hfin.out.1, Hfin.out.2]; rfl
                  · exact (((((hBw.setCell (p := ⟨w.heap.size, 0, none⟩) (Nat.le_refl _) _).setCell (p := ⟨w.heap.size, 1, none⟩) (Nat.le_refl _) _).setCell (p := ⟨w.heap.size, 2, none⟩) (Nat.le_refl _) _).setCell (p := ⟨w.heap.size, 3, none⟩) (Nat.le_refl _) _).setCell (p := ⟨w.heap.size, 4, none⟩) (Nat.le_refl _) _).setCell (p := ⟨w.heap.size, 5, none⟩) (Nat.le_refl _) _
                · have b1 : (K == 1) = false := by rw [beq_eq_false_iff_ne]; omega
                  have b5 : (K == 5) = false := by rw [beq_eq_false_iff_ne]; omega
                  have bn : ((pt.length : Int) == 1) = false := by rw [beq_eq_false_iff_ne]; omega
                  have k1 : 6 ≤ K := by omega
                  clear h
                  go_wp2_with fail
                  refine bodyPost_ret (v := .tuple #[.agg #[.int .i64 0, .int .i64 0, .int .i64 0, .int .i64 0, .int .i64 0, .int .i64 0], .int .i64 292]) (by simp [results, Tryd.results7, go_sem, r0, r1, r2, r3, r4, r5]) rfl ⟨?_, ?_⟩
                  · rw [Hfin.out.1, Hfin.out.2]; rfl
                  · exact (((((hBw.setCell (p := ⟨w.heap.size, 0, none⟩) (Nat.le_refl _) _).setCell (p := ⟨w.heap.size, 1, none⟩) (Nat.le_refl _) _).setCell (p := ⟨w.heap.size, 2, none⟩) (Nat.le_refl _) _).setCell (p := ⟨w.heap.size, 3, none⟩) (Nat.le_refl _) _).setCell (p := ⟨w.heap.size, 4, none⟩) (Nat.le_refl _) _).setCell (p := ⟨w.heap.size, 5, none⟩) (Nat.le_refl _) _
                · have b1 : (K == 1) = false := by rw [beq_eq_false_iff_ne]; omega
                  have b5 : (K == 5) = false := by rw [beq_eq_false_iff_ne]; omega
                  have bn : ((pt.length : Int) == 3) = false := by rw [beq_eq_false_iff_ne]; omega
                  have k1 : 2 ≤ K := by omega
                  have k2 : K ≤ 4 := by omega
                  clear h
                  go_wp2_with fail
                  refine bodyPost_ret (v := .tuple #[.agg #[.int .i64 0, .int .i64 0, .int .i64 0, .int .i64 0, .int .i64 0, .int .i64 0], .int .i64 292]) (by simp [results, Tryd.results7, go_sem, r0, r1, r2, r3, r4, r5]) rfl ⟨?_, ?_⟩
                  · rw [Hfin.out.1, Hfin.out.2]; rfl
                  · exact (((((hBw.setCell (p := ⟨w.heap.size, 0, none⟩) (Nat.le_refl _) _).setCell (p := ⟨w.heap.size, 1, none⟩) (Nat.le_refl _) _).setCell (p := ⟨w.heap.size, 2, none⟩) (Nat.le_refl _) _).setCell (p := ⟨w.heap.size, 3, none⟩) (Nat.le_refl _) _).setCell (p := ⟨w.heap.size, 4, none⟩) (Nat.le_refl _) _).setCell (p := ⟨w.heap.size, 5, none⟩) (Nat.le_refl _) _
                · have b1 : (K == 1) = false := by rw [beq_eq_false_iff_ne]; omega
                  have b5 : (K == 5) = true := by rw [beq_iff_eq]; omega
                  have bn : ((pt.length : Int) == 4) = false := by rw [beq_eq_false_iff_ne]; omega
                  have k1 : 5 ≤ K := by omega
                  have k2 : K ≤ 5 := by omega
                  clear h
                  go_wp2_with fail
                  refine bodyPost_ret (v := .tuple #[.agg #[.int .i64 0, .int .i64 0, .int .i64 0, .int .i64 0, .int .i64 0, .int .i64 0], .int .i64 292]) (by simp [results, Tryd.results7, go_sem, r0, r1, r2, r3, r4, r5]) rfl ⟨?_, ?_⟩
                  · rw [Hfin.out.1, Hfin.out.2]; rfl
                  · exact (((((hBw.setCell (p := ⟨w.heap.size, 0, none⟩) (Nat.le_refl _) _).setCell (p := ⟨w.heap.size, 1, none⟩) (Nat.le_refl _) _).setCell (p := ⟨w.heap.size, 2, none⟩) (Nat.le_refl _) _).setCell (p := ⟨w.heap.size, 3, none⟩) (Nat.le_refl _) _).setCell (p := ⟨w.heap.size, 4, none⟩) (Nat.le_refl _) _).setCell (p := ⟨w.heap.size, 5, none⟩) (Nat.le_refl _) _
end Go.Proofs.YteidggmgknnibaaDoor

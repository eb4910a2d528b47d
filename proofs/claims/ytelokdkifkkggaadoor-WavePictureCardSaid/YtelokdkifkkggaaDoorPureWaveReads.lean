/- The plain law behind busbarlaw37.WaveReads: for every text of at most 140737488351232 bytes the printed function answers true with enough rounds. -/
import Derived.Test.YtelokdkifkkggaaDoorQP
namespace Go.Proofs.YtelokdkifkkggaaDoor.QW
open Go.RowKit Go.Proofs.YtelokdkifkkggaaDoorW.PrintWords Go.Proofs.YtelokdkifkkggaaDoorW.PrintLast Go.Proofs.YtelokdkifkkggaaDoorW.PrintMore

/-! ### run -/
theorem bt_data (s : ByteArray) (i : Nat) (h : i < s.size) : bt s (i : Int) = ((s[i]'h).toNat : Int) := by
  unfold bt; simp [h]
theorem run_l0 (x4 x5 : ByteArray) (hn : x4.size < 4294967281) : ∀ (d i : Nat) (v : Int), i + d = x4.size → 0 ≤ v → v ≤ 1048576 * 10 + 9 →
    ∃ L T ok, 0 ≤ L ∧ L < 256 ∧ (ok = true → 1 ≤ T ∧ T ≤ 1048576) ∧ ∀ k, wave_run.l0 (k + d + 1) x4 x5 (x4.size : Int) (i : Int) 0 v = some (L, T, ok)
  | 0, i, v, hi, h0, h1 => by
    have hs : strings_Index.f (⟨#[48, 49, 50, 51, 52, 53, 54, 55, 56, 57, 97, 98, 99, 100, 101, 102]⟩ : ByteArray) x5 = some (Lib.index hexs.data.toList x5.data.toList) := by
      unfold strings_Index.f
      rw [if_pos (by decide)]
      rfl
    by_cases a : (x5.size : Int) = 1 ∧ Lib.index hexs.data.toList x5.data.toList ≥ 0 ∧ v > 0
    · refine ⟨mx (Lib.index hexs.data.toList x5.data.toList) 0 % 256, v, decide (v ≤ 1048576), by omega, by omega, fun h => ⟨by omega, by simpa using h⟩, fun k => ?_⟩
      rw [show k + 0 + 1 = k + 1 from rfl, wave_run.l0, if_neg (by omega), hs, Option.bind_some, if_pos a.1, if_pos a.2.1, if_pos a.2.2]
    · refine ⟨mx (Lib.index hexs.data.toList x5.data.toList) 0 % 256, v, false, by omega, by omega, (fun h => by cases h), fun k => ?_⟩
      rw [show k + 0 + 1 = k + 1 from rfl, wave_run.l0, if_neg (by omega), hs, Option.bind_some]
      by_cases a1 : (x5.size : Int) = 1
      · rw [if_pos a1]
        by_cases a2 : Lib.index hexs.data.toList x5.data.toList ≥ 0
        · rw [if_pos a2, if_neg (fun h => a ⟨a1, a2, h⟩)]
        · rw [if_neg a2]
      · rw [if_neg a1]
  | d + 1, i, v, hi, h0, h1 => by
    have hb := bt_range x4 (i : Int)
    by_cases c1 : bt x4 (i : Int) < 48
    · exact ⟨0, 0, false, by omega, by omega, (fun h => by cases h), fun k => by rw [show k + (d + 1) + 1 = (k + d + 1) + 1 by omega, wave_run.l0, if_pos (by omega), if_pos (by omega), if_pos (by omega), if_pos c1]⟩
    · by_cases c2 : bt x4 (i : Int) > 57
      · exact ⟨0, 0, false, by omega, by omega, (fun h => by cases h), fun k => by rw [show k + (d + 1) + 1 = (k + d + 1) + 1 by omega, wave_run.l0, if_pos (by omega), if_pos (by omega), if_pos (by omega), if_neg c1, if_pos c2]⟩
      · by_cases c3 : v > 1048576
        · exact ⟨0, 0, false, by omega, by omega, (fun h => by cases h), fun k => by rw [show k + (d + 1) + 1 = (k + d + 1) + 1 by omega, wave_run.l0, if_pos (by omega), if_pos (by omega), if_pos (by omega), if_neg c1, if_neg c2, if_pos c3]⟩
        · obtain ⟨L, T, ok, h2, h3, h4, hk⟩ := run_l0 x4 x5 hn d (i + 1) (v * 10 + (bt x4 (i : Int) - 48)) (by omega) (by omega) (by omega)
          refine ⟨L, T, ok, h2, h3, h4, fun k => ?_⟩
          rw [show k + (d + 1) + 1 = (k + d + 1) + 1 by omega, wave_run.l0, if_pos (by omega), if_pos (by omega), if_pos (by omega), if_neg c1, if_neg c2, if_neg c3, w64 (x := v * 10) (by omega) (by omega),
            show (bt x4 (i : Int) - 48) % 256 = bt x4 (i : Int) - 48 by omega, w64 (by omega) (by omega), w64 (by omega) (by omega)]
          exact hk k
theorem run_some (s : ByteArray) (hn : s.size < 4294967281) : ∃ L T ok, 0 ≤ L ∧ L < 256 ∧ (ok = true → 1 ≤ T ∧ T ≤ 1048576) ∧ ∀ k, s.size < k → wave_run.f k s = some (L, T, ok) := by
  obtain ⟨a, b, c, hc, ha⟩ : ∃ a b c, strings_Cut.f s (⟨#[120]⟩ : ByteArray) = some (a, b, c) ∧ a.size ≤ s.size := by
    unfold strings_Cut.f
    rw [if_pos hn]
    refine ⟨_, _, _, rfl, ?_⟩
    unfold Lib.cut
    split
    · show ((s.data.toList.take _).toArray).size ≤ s.size
      have : s.size = s.data.toList.length := (data_length s).symm
      simp only [List.size_toArray, List.length_take]
      omega
    · show (s.data.toList.toArray).size ≤ s.size
      have : s.size = s.data.toList.length := (data_length s).symm
      simp only [List.size_toArray]
      omega
  obtain ⟨L, T, ok, h2, h3, h4, hk⟩ := run_l0 a b (by omega) a.size 0 0 (by omega) (by omega) (by omega)
  refine ⟨L, T, ok, h2, h3, h4, fun k hk' => ?_⟩
  unfold wave_run.f
  rw [hc, Option.bind_some, show k = (k - a.size - 1) + a.size + 1 by omega]
  exact hk _

/-! ### Parse -/
theorem splitB_size (sep : ByteArray) : ∀ (n : Nat) (s : ByteArray), ∀ x ∈ Lib.splitB sep 0 n s, x.size ≤ s.size
  | 0, s, x, hx => by
    rw [Lib.splitB_zero, List.mem_singleton] at hx
    rw [hx]; exact Nat.le_refl _
  | n + 1, s, x, hx => by
    unfold Lib.splitB at hx
    split at hx
    · rw [List.mem_singleton.1 hx]; exact Nat.le_refl _
    · rcases List.mem_cons.1 hx with hx | hx
      · rw [hx, ByteArray.size_extract]; omega
      · have := splitB_size sep n _ x hx
        rw [ByteArray.size_extract] at this
        omega
theorem rdOf_at (l : List ByteArray) (i : Nat) (h : i < l.length) : rdOf ByteArray.empty l (i : Int) = l[i] := by
  unfold rdOf
  rw [Int.toNat_natCast, List.getD_eq_getElem?_getD, List.getElem?_eq_getElem h]; rfl
/-- What a Parse of text s may answer. -/
def Read (s : ByteArray) (n : Nat) (w : List S46) (e : Int) : Prop :=
  (e = 30 ∧ w = []) ∨ (e = 0 ∧ w.length = n ∧ (∀ r ∈ w, 1 ≤ r.f1 ∧ 0 ≤ r.f0 ∧ r.f0 < 256) ∧ ∃ t : ByteArray, t.toList = s.toList ∧ ∃ K, ∀ k, K ≤ k → wave_Wave_Text.f k w = some t)
theorem parse_l0 (s : ByteArray) (l : List ByteArray) (hl : ∀ x ∈ l, x.size ≤ 300) (hn : l.length ≤ 1000) :
    ∀ (d i : Nat) (x4 : List S46), i + d = l.length → x4.length = i → (∀ r ∈ x4, 1 ≤ r.f1 ∧ 0 ≤ r.f0 ∧ r.f0 < 256) →
    ∃ w e, Read s l.length w e ∧ ∃ K, ∀ k, K ≤ k → wave_Parse.l0 k s x4 l (l.length : Int) (i : Int) = some (w, e)
  | 0, i, x4, hi, hx, hr => by
    obtain ⟨t, K, ht⟩ := text_some x4 (fun r h => (hr r h).2) (by omega)
    by_cases he : t.toList = s.toList
    · refine ⟨x4, 0, .inr ⟨rfl, by omega, hr, t, he, K, ht⟩, K + 1, fun k hk => ?_⟩
      rw [show k = (k - 1) + 1 by omega, wave_Parse.l0, if_neg (by omega), ht _ (by omega), Option.bind_some, if_pos he]
    · refine ⟨[], 30, .inl ⟨rfl, rfl⟩, K + 1, fun k hk => ?_⟩
      rw [show k = (k - 1) + 1 by omega, wave_Parse.l0, if_neg (by omega), ht _ (by omega), Option.bind_some, if_neg he]
  | d + 1, i, x4, hi, hx, hr => by
    have hlt : i < l.length := by omega
    obtain ⟨L, T, ok, h2, h3, h4, hrun⟩ := run_some l[i] (by have := hl l[i] (List.getElem_mem hlt); omega)
    have hsz := hl l[i] (List.getElem_mem hlt)
    cases ok with
    | false =>
      refine ⟨[], 30, .inl ⟨rfl, rfl⟩, 302, fun k hk => ?_⟩
      rw [show k = (k - 1) + 1 by omega, wave_Parse.l0, if_pos (by omega), if_pos (by omega), if_pos (by omega), rdOf_at l i hlt, hrun _ (by omega), Option.bind_some, if_neg (by simp)]
    | true =>
      have h5 := h4 rfl
      obtain ⟨w, e, hw, K, hK⟩ := parse_l0 s l hl hn d (i + 1) (x4 ++ [(⟨L, T⟩ : S46)]) (by omega) (by simp [hx]) (by
        intro r hr'
        rcases List.mem_append.1 hr' with hr' | hr'
        · exact hr r hr'
        · rw [List.mem_singleton.1 hr']; exact ⟨h5.1, h2, h3⟩)
      refine ⟨w, e, hw, K + 302, fun k hk => ?_⟩
      rw [show k = (k - 1) + 1 by omega, wave_Parse.l0, if_pos (by omega), if_pos (by omega), if_pos (by omega), rdOf_at l i hlt, hrun _ (by omega), Option.bind_some, if_pos rfl, if_neg (by omega), if_pos (by omega), w64 (by omega) (by omega)]
      exact hK _ (by omega)
theorem one_true : busbarlaw37_one.f 40 = some true := by kernel_rfl
theorem one_ev : ∀ k, 40 ≤ k → busbarlaw37_one.f k = some true := fun _ hk => at_rounds (g := busbarlaw37_one.f) (fun j => busbarlaw37_one.mono j) hk one_true
theorem dash (s : ByteArray) (h : s.toList = [45]) : s = ⟨#[45]⟩ := WideShapes.bytes_inj (by rw [← ByteArray.toList_eq, h])
theorem WaveReads : busbarlaw37_WaveReads.Pure := by
  intro s hs
  by_cases h300 : (s.size : Int) > 300
  · exact ⟨0, by unfold busbarlaw37_WaveReads.f; rw [if_pos h300]⟩
  · by_cases hd : s.toList = ([45] : List UInt8)
    · obtain rfl := dash s hd
      refine ⟨60, ?_⟩
      have h1 : wave_Parse.f 60 (⟨#[45]⟩ : ByteArray) = some ([], 0) := by unfold wave_Parse.f; rw [if_pos hd]
      have h2 : wave_Wave_Text.f 60 [] = some (⟨#[45]⟩ : ByteArray) := by kernel_rfl
      have h3 : wave_Wave_Long.f 60 [] = some 0 := by kernel_rfl
      unfold busbarlaw37_WaveReads.f
      rw [if_neg h300, h1, Option.bind_some, if_pos rfl, h2, Option.bind_some, if_pos rfl, h3, Option.bind_some, if_pos (by rw [hd]; rfl), one_ev _ (by omega), Option.bind_some]
    · have hsp : strings_Split.f s (⟨#[32]⟩ : ByteArray) = some (Lib.splitB (⟨#[32]⟩ : ByteArray) 0 (Lib.countB s ⟨#[32]⟩) s) := by
        unfold strings_Split.f
        rw [if_pos ⟨by omega, by decide⟩]
      have hlen := Lib.splitB_all (⟨#[32]⟩ : ByteArray) (by decide) 0 _ s rfl
      have hcnt := Lib.countB_le (⟨#[32]⟩ : ByteArray) (by decide) s.size s (Nat.le_refl _)
      obtain ⟨w, e, hw, K, hK⟩ := parse_l0 s (Lib.splitB (⟨#[32]⟩ : ByteArray) 0 (Lib.countB s ⟨#[32]⟩) s) (fun x hx => by have := splitB_size _ _ _ x hx; omega) (by omega) _ 0 [] (Nat.zero_add _) rfl (by simp)
      have hP : ∀ k, K ≤ k → wave_Parse.f k s = some (w, e) := fun k hk => by
        unfold wave_Parse.f
        rw [if_neg hd, hsp, Option.bind_some]
        exact hK k hk
      rcases hw with ⟨rfl, rfl⟩ | ⟨rfl, hwl, hwr, t, ht, K2, hK2⟩
      · refine ⟨K + 40, ?_⟩
        unfold busbarlaw37_WaveReads.f
        rw [if_neg h300, hP _ (by omega), Option.bind_some, if_neg (by decide), if_pos rfl, if_pos (by simp), one_ev _ (by omega), Option.bind_some]
      · have hpos : longn w ≠ 0 := by
          cases w with
          | nil => simp at hwl; omega
          | cons r w =>
            have h1 := (hwr r List.mem_cons_self).1
            have h2 := longn_pos w (0 + min (max r.f1 0) (1048576 - 0)) (by omega) (by omega)
            have : longn (r :: w) = w.foldl (fun n r => n + min (max r.f1 0) (1048576 - n)) (0 + min (max r.f1 0) (1048576 - 0)) := rfl
            omega
        refine ⟨K + K2 + w.length + 50, ?_⟩
        unfold busbarlaw37_WaveReads.f
        have hL := long_spec w (by omega) (K + K2 + 49)
        rw [show K + K2 + 49 + w.length + 1 = K + K2 + w.length + 50 by omega] at hL
        rw [if_neg h300, hP _ (by omega), Option.bind_some, if_pos rfl, hK2 _ (by omega), Option.bind_some, if_pos ht, hL, Option.bind_some, if_pos (by rw [show (s.toList == ([45] : List UInt8)) = false from beq_eq_false_iff_ne.mpr hd, show (longn w == 0) = false from beq_eq_false_iff_ne.mpr hpos]; rfl), one_ev _ (by omega), Option.bind_some]
end Go.Proofs.YtelokdkifkkggaaDoor.QW

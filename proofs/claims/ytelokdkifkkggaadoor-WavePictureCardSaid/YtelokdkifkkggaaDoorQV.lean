/- Plain laws on the printed functions of package wave, for WaveWalks: what At, Long and Few come to; and the walk joined to them. -/
import Derived.Test.YtelokdkifkkggaaDoorQU
import Derived.Test.YtelokdkifkkggaaDoorPureWaveReads
namespace Go.Proofs.YtelokdkifkkggaaDoor.QW
open Go.RowKit Go.Shelf Go.Proofs.YtelokdkifkkggaaDoorW.PrintWords Go.Proofs.YtelokdkifkkggaaDoorW.PrintLast Go.Proofs.YtelokdkifkkggaaDoorW.PrintMore

theorem mx_eq (a b : Int) : mx a b = max a b := by unfold mx; split <;> omega
theorem rawn_cons (r : S46) (l : List S46) : rawn (r :: l) = List.replicate (max r.f1 0).toNat (r.f0 % 16) ++ rawn l := by simp [rawn]
theorem long_fold : ∀ (l : List S46) (n : Int), 0 ≤ n → n ≤ 1048576 → l.foldl (fun n r => n + min (max r.f1 0) (1048576 - n)) n = min (n + ((rawn l).length : Nat)) 1048576
  | [], n, h0, h1 => by simp [rawn]; omega
  | r :: l, n, h0, h1 => by
    rw [List.foldl_cons, long_fold l _ (by omega) (by omega), rawn_cons, List.length_append, List.length_replicate]
    omega
theorem long_take (l : List S46) : longn l = (((rawn l).take 1048576).length : Nat) := by
  unfold longn
  rw [long_fold l 0 (by omega) (by omega), List.length_take]
  omega
theorem at_l0 (l : List S46) (hl : ∀ r ∈ l, 0 ≤ r.f0 ∧ r.f0 < 256) (hn : l.length < 4611686018427387904) : ∀ (d i : Nat) (x : Nat), i + d = l.length → x < 1048576 → x < (rawn (l.drop i)).length →
    ∀ k, wave_Wave_At.l0 (k + d + 1) (x : Int) l (l.length : Int) (i : Int) = some ((rawn (l.drop i)).getD x 0, true)
  | 0, i, x, hi, _, hx, k => by
    rw [List.drop_eq_nil_of_le (by omega)] at hx
    simp [rawn] at hx
  | d + 1, i, x, hi, hxb, hx, k => by
    have hlt : i < l.length := by omega
    have hr := hl l[i] (List.getElem_mem hlt)
    rw [List.drop_eq_getElem_cons hlt, rawn_cons] at hx ⊢
    rw [List.length_append, List.length_replicate] at hx
    rw [show k + (d + 1) + 1 = (k + d + 1) + 1 by omega, wave_Wave_At.l0, if_pos (by omega), if_pos (by omega), if_pos (by omega), rd_T46_at l i hlt, mx_eq]
    by_cases hge : (x : Int) ≥ max l[i].f1 0
    · rw [if_pos hge, w64 (by omega) (by omega), w64 (by omega) (by omega)]
      have := at_l0 l hl hn d (i + 1) (x - (max l[i].f1 0).toNat) (by omega) (by omega) (by omega) k
      rw [show (((x - (max l[i].f1 0).toNat : Nat)) : Int) = (x : Int) - max l[i].f1 0 by omega] at this
      refine Eq.trans this ?_
      rw [List.getD_eq_getElem?_getD, List.getD_eq_getElem?_getD, List.getElem?_append_right (by rw [List.length_replicate]; omega), List.length_replicate]
    · rw [if_neg hge, and15 _ hr.1 hr.2, List.getD_eq_getElem?_getD, List.getElem?_append_left (by rw [List.length_replicate]; omega), List.getElem?_replicate, if_pos (by omega)]
      rfl
theorem few_l0 (l : List S46) (hn : l.length < 4611686018427387904) : ∀ (d i : Nat) (n : Int), i + d = l.length → 0 ≤ n → n ≤ 3000 →
    ∃ m, ∀ k, busbarlaw37_Few.l0 (k + d + 1) l n (i : Int) = some m
  | 0, i, n, hi, _, _ => ⟨1, fun k => by rw [busbarlaw37_Few.l0, if_neg (by omega)]⟩
  | d + 1, i, n, hi, h0, h1 => by
    have hlt : i < l.length := by omega
    by_cases hA : l[i].f1 > 3000
    · exact ⟨0, fun k => by rw [show k + (d + 1) + 1 = (k + d + 1) + 1 by omega, busbarlaw37_Few.l0, if_pos (by omega), if_pos (by omega), rd_T46_at l i hlt, if_pos hA]⟩
    · have hw : wrap64 (n + mx l[i].f1 0) = n + max l[i].f1 0 := by rw [mx_eq]; exact w64 (by omega) (by omega)
      by_cases hB : n + max l[i].f1 0 > 3000
      · exact ⟨0, fun k => by rw [show k + (d + 1) + 1 = (k + d + 1) + 1 by omega, busbarlaw37_Few.l0, if_pos (by omega), if_pos (by omega), rd_T46_at l i hlt, if_neg hA, hw, if_pos hB]⟩
      · obtain ⟨m, hm⟩ := few_l0 l hn d (i + 1) (n + max l[i].f1 0) (by omega) (by omega) (by omega)
        exact ⟨m, fun k => by rw [show k + (d + 1) + 1 = (k + d + 1) + 1 by omega, busbarlaw37_Few.l0, if_pos (by omega), if_pos (by omega), rd_T46_at l i hlt, if_neg hA, hw, if_neg hB, w64 (by omega) (by omega)]; exact hm k⟩
theorem few_some (l : List S46) (hn : l.length < 4611686018427387904) : ∃ m, ∀ k, l.length + 1 ≤ k → busbarlaw37_Few.f k l = some m := by
  unfold busbarlaw37_Few.f
  by_cases h : (l.length : Int) > 200
  · exact ⟨0, fun k _ => by rw [if_pos h]⟩
  · obtain ⟨m, hm⟩ := few_l0 l hn l.length 0 0 (by omega) (by omega) (by omega)
    exact ⟨m, fun k hk => by rw [if_neg h, show k = (k - l.length - 1) + l.length + 1 by omega]; exact hm _⟩
theorem at_spec (l c : List S46) (hl : ∀ r ∈ l, 0 ≤ r.f0 ∧ r.f0 < 256) (hn : l.length < 4611686018427387904) (hc : expn c = (rawn l).take 1048576) (k : Nat) (hk : l.length + 3 ≤ k) (i : Nat) (hi : i < (expn c).length) :
    wave_Wave_At.f k l i = some (tk c i, true) := by
  have hL := long_spec l hn (k - l.length - 1)
  rw [show k - l.length - 1 + l.length + 1 = k by omega, long_take, ← hc] at hL
  have hi2 := hi
  rw [hc, List.length_take] at hi2
  unfold wave_Wave_At.f
  rw [if_neg (by omega), hL, Option.bind_some, decide_eq_false (by omega), show k = (k - 1) + 1 by omega, wave_Wave_At.j0, if_neg (by simp)]
  have := at_l0 l hl hn l.length 0 i (by omega) (by omega) (by rw [List.drop_zero]; omega) (k - l.length - 2)
  rw [show k - l.length - 2 + l.length + 1 = k - 1 by omega, List.drop_zero] at this
  refine Eq.trans this ?_
  unfold tk
  rw [hc, List.getD_eq_getElem?_getD, List.getD_eq_getElem?_getD, List.getElem?_take, if_pos (by omega)]

/-- WaveWalks, at every wave whose lines are bytes and every int. -/
theorem waveWalks_calls (A : Option Addr) (cp : Nat) (lw : List S46) (a1 : Int) (w : World) (hG : GW w) (hC : Kd.C k46 w A lw.length lw) (hcp : lw.length ≤ cp) (hl : ∀ r ∈ lw, 0 ≤ r.f0 ∧ r.f0 < 256) (hn : lw.length < 4611686018427387904) :
    Calls Tryd.prog 4 #[.slice A lw.length cp, .int .i64 a1] w fun e w' => e = .returned (.bool true) ∧ Below w.heap.size w w' := by
  refine (callsIn_wide (n := 4)).1 ?_
  obtain ⟨m, hm⟩ := few_some lw hn
  have hF := hm (40 + lw.length + 3) (by omega)
  by_cases h0 : m = 0
  · subst h0
    exact walks_few0 A cp lw _ a1 w hC hcp hF
  · obtain ⟨c, long, hcl, he, hk⟩ := clean_spec lw hl hn
    have hle := hcl.le
    have hlen := hcl.len
    refine walks_in A cp lw c (40 + lw.length + 3) a1 m w hG hC hcp hF h0 (one_ev _ (by omega)) (hk 40) (fun r hr => (hcl.run r hr).1) (by omega) hcl.short (fun i hi => at_spec lw c hl hn he _ (by omega) i hi) ?_
    have hL := long_spec lw hn 42
    rw [long_take, ← he] at hL
    rw [show 40 + lw.length + 3 = 42 + lw.length + 1 by omega]
    exact hL
end Go.Proofs.YtelokdkifkkggaaDoor.QW

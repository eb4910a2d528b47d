/- The walk of busbarlaw37.WavePicture. -/
import Derived.Test.YtelokdkifkkggaaDoorQZ
namespace Go.Proofs.YtelokdkifkkggaaDoor.QW
open Go.RowKit Go.Shelf Go.Proofs.YtelokdkifkkggaaDoorW.PrintWords Go.Proofs.YtelokdkifkkggaaDoorW.PrintLast Go.Proofs.YtelokdkifkkggaaDoorW.PrintMore
attribute [local go_sem] max2_int min2_int max_two min_two
set_option linter.unusedVariables false
set_option linter.unusedSimpArgs false

set_option maxHeartbeats 8000000 in
set_option maxRecDepth 100000 in
theorem pic_few0 (A : Option Addr) (cp : Nat) (lw : List S46) (K : Nat) (per : Int) (w : World) (hC : Kd.C k46 w A lw.length lw) (hcp : lw.length ≤ cp) (hF : busbarlaw37_Few.f K lw = some 0) :
    Calls Tryd.prog 5 #[.slice A lw.length cp, .int .i64 per] w fun e w' => e = .returned (.bool true) ∧ Below w.heap.size w w' := by
  go_enter Tryd.func5, Tryd.ntmps5
  go_wp2_with (go_at_call 10; refine (busbarlaw37_Few.calls K A cp lw 0 _ hC hcp hF).mono ?_; rintro e w1 ⟨rfl, hb1⟩)
  go_ret
  exact ⟨rfl, hb1⟩
set_option maxHeartbeats 8000000 in
set_option maxRecDepth 100000 in
theorem pic_neg (A : Option Addr) (cp : Nat) (lw : List S46) (K : Nat) (m per : Int) (hp : per < 1) (w : World) (hG : GW w) (hC : Kd.C k46 w A lw.length lw) (hcp : lw.length ≤ cp) (hn : lw.length < 4611686018427387904) (hF : busbarlaw37_Few.f K lw = some m) (hm : m ≠ 0) (hone : busbarlaw37_one.f K = some true) :
    Calls Tryd.prog 5 #[.slice A lw.length cp, .int .i64 per] w fun e w' => e = .returned (.bool true) ∧ Below w.heap.size w w' := by
  have hm' : (m == 0) = false := by simpa using hm
  go_enter Tryd.func5, Tryd.ntmps5
  go_wp2_with (first
    | (go_at_call 10; refine (busbarlaw37_Few.calls K A cp lw m _ hC hcp hF).mono ?_; rintro e w1 ⟨rfl, hb1⟩; have hC1 := Kd.C_below hC hb1)
    | (go_at_call 13; refine (picture_neg A cp lw hn per hp _ hC1 hcp).mono ?_; rintro e w2 ⟨rfl, hb2⟩; have hb3 := hb1.trans (hb2.mono hb1.size); have hG3 := GW_of hG hb3)
    | (go_at_call 7; refine (busbarlaw37_one.calls K true _ hG3 hone).mono ?_; rintro e w4 ⟨rfl, hb4⟩; have hb5 := hb3.trans (hb4.mono hb3.size)))
  go_ret
  exact ⟨rfl, hb5⟩
theorem str_app (a b : List UInt8) : (⟨a.toArray⟩ : ByteArray) ++ (⟨b.toArray⟩ : ByteArray) = ⟨(a ++ b).toArray⟩ := by
  apply ByteArray.ext
  simp
set_option maxHeartbeats 8000000 in
set_option maxRecDepth 100000 in
theorem pic_in (A : Option Addr) (cp : Nat) (lw c : List S46) (long : Int) (hl : ∀ r ∈ lw, 0 ≤ r.f0 ∧ r.f0 < 256) (hn : lw.length < 4611686018427387904) (hc : Cln c long) (he : expn c = (rawn lw).take 1048576) (hk : ∀ k, wave_Wave_Clean.f (k + lw.length + 3) lw = some c)
    (hN3 : (expn c).length ≤ 3000) (per : Int) (hp : 1 ≤ per) (hp2 : per < 9223372036854775808) (w : World) (hG : GW w) (hC : Kd.C k46 w A lw.length lw) (hcp : lw.length ≤ cp)
    (K : Nat) (m : Int) (hF : busbarlaw37_Few.f K lw = some m) (hm : m ≠ 0) (hone : busbarlaw37_one.f K = some true) :
    Calls Tryd.prog 5 #[.slice A lw.length cp, .int .i64 per] w fun e w' => e = .returned (.bool true) ∧ Below w.heap.size w w' := by
  have hm' : (m == 0) = false := by simpa using hm
  have hlong : ∀ (w : World), Kd.C k46 w A lw.length lw → Calls Tryd.prog 9 #[.slice A lw.length cp] w fun e w' => e = .returned (.int .i64 ((expn c).length : Int)) ∧ Below w.heap.size w w' := fun w hC => by
    have hL := long_spec lw hn 0
    rw [long_take, ← he] at hL
    exact wave_Wave_Long.calls _ A cp lw _ w hC hcp hL
  have hpic := fun (w : World) hC => picture_calls A cp lw c long hl hn hc he hk hN3 per hp hp2 w hC hcp
  have HE := Aside0.mk he
  clear he
  obtain ⟨N, hN⟩ : ∃ N : Nat, (expn c).length = N := ⟨_, rfl⟩
  rw [hN] at hN3 hlong
  obtain ⟨P, hP⟩ : ∃ P : Nat, per = (P : Int) := ⟨per.toNat, by omega⟩
  rw [show per.toNat = P by omega] at hpic
  have HP := Aside0.mk hP
  clear hP
  have hp1 : ¬ per < 1 := by omega
  obtain ⟨pic, hpe⟩ : ∃ pic : ByteArray, (⟨(rowsUpto (expn c) P 4).toArray⟩ : ByteArray) = pic := ⟨_, rfl⟩
  rw [hpe] at hpic
  have HPE := Aside0.mk hpe
  clear hpe
  go_enter Tryd.func5, Tryd.ntmps5
  go_wp2_with (first
    | (go_at_call 10; refine (busbarlaw37_Few.calls K A cp lw m _ hC hcp hF).mono ?_; rintro e w1 ⟨rfl, hb1⟩; have hC1 := Kd.C_below hC hb1)
    | (go_at_call 13; refine (hpic _ hC1).mono ?_; rintro e w2 ⟨rfl, hb2⟩; have hb3 := hb1.trans (hb2.mono hb1.size); have hC3 := Kd.C_below hC hb3)
    | (go_at_call 9; refine (hlong _ hC3).mono ?_; rintro e w4 ⟨rfl, hb4⟩; have hb5 := hb3.trans (hb4.mono hb3.size)))
  have hG5 := GW_of hG hb5
  generalize Value.bool (decide (per < 1)) = d3
  have HPP := Aside0.mk hp
  have HR := Aside0.mk (rowsUpto_length (expn c) P)
  clear hp hp1
  go_loopw [6, 8] (fun wv li wr => ∃ j : Nat, j ≤ 4 ∧ li = .int .i64 j ∧ wv = .string ⟨(rowsUpto (expn c) P j).toArray⟩ ∧ Below w.heap.size w wr) (fun _ li _ => 4 - (intOf li).toNat)
  case atStart => exact ⟨0, by omega, rfl, rfl, hb5⟩
  case round =>
    obtain ⟨j, hj, rfl, rfl, hB⟩ := hrel
    by_cases hj3 : j < 4
    · go_wp2
      generalize Value.bool (decide ((j : Int) < 4)) = d5
      go_loopw [6, 9] (fun wv a wq => ∃ (at_ f : Nat) (pre : List UInt8), a = .int .i64 at_ ∧ wv = .string ⟨(rowsUpto (expn c) P j ++ pre).toArray⟩ ∧ at_ ≤ N ∧ pre.length ≤ at_ ∧ Aside0 (pre ++ rowFrom (expn c) P j f at_ = rowOf (expn c) P j) ∧ N ≤ at_ + f ∧ Below w.heap.size w wq) (fun _ a _ => N - (intOf a).toNat)
      case atStart => exact ⟨0, N, [], rfl, by simp, Nat.zero_le _, Nat.le_refl _, ⟨by simp [rowOf, hN]⟩, by omega, hB⟩
      case round =>
        obtain ⟨at_, f, pre, rfl, rfl, hat, hpl, hpre, hfu, hB2⟩ := hrel
        have hCr := Kd.C_below hC hB2
        have hRl := Nat.le_trans (HR.out j) (Nat.mul_le_mul_right _ hj)
        rw [hN] at hRl
        have hal : (rowsUpto (expn c) P j ++ pre).length ≤ 20000 := by rw [List.length_append]; omega
        generalize hac : rowsUpto (expn c) P j ++ pre = acc at hal
        have hac9 : ¬ 9223372036854775807 < acc.length + 1 := by omega
        have HAC := Aside0.mk hac
        clear hac
        by_cases hlt : at_ < N
        · obtain ⟨f', rfl⟩ : ∃ f', f = f' + 1 := ⟨f - 1, by omega⟩
          obtain ⟨E, hE⟩ : ∃ E : Nat, endOf P N at_ = E := ⟨_, rfl⟩
          have hE1 : at_ < E ∧ E ≤ N ∧ (E : Int) = min per ((N : Int) - at_) + at_ := by have := HP.out; have := HPP.out; rw [← hE]; unfold endOf; omega
          have hst : rowFrom (expn c) P j (f' + 1) at_ = sgnOf j (seg (expn c) at_ E) :: rowFrom (expn c) P j f' E := by
            rw [rowFrom, if_pos (by omega), sgn_eq _ _ _ _ (by omega), hN, hE]
          have hpr : pre ++ [sgnOf j (seg (expn c) at_ E)] ++ rowFrom (expn c) P j f' E = rowOf (expn c) P j := by
            rw [← hpre.out, hst]; simp
          have hsl : (seg (expn c) at_ E).length = E - at_ := by have := seg_length (expn c) P at_ (by omega); rwa [hN, hE] at this
          have HS := Aside0.mk hpr
          clear hE hpr hst
          have hwa : wrap64 ((N : Int) - at_) = (N : Int) - at_ := w64 (by omega) (by omega)
          rcases Int.lt_or_le ((N : Int) - at_) per with hmn | hmn
          all_goals
            have HE3 := Aside0.mk hE1.2.2
            go_wp2_with (first
              | (go_at_call 14; refine (cut_calls A cp lw c long hl hn hc HE.out hk at_ E (by omega) (by omega) _ _ rfl (by first | omega | (rw [w64 (by omega) (by omega)]; omega)) _ hCr hcp).mono ?_; rintro e w7 ⟨A', cp', x, l', rfl, hCx, hcx, hx, hxe, hb7⟩; have hB7 := hB2.trans (hb7.mono hB2.size))
              | (go_at_call 15; refine (high_cln A' cp' x l' hx j _ hCx hcx).mono ?_; rintro e w8 ⟨rfl, hb8⟩; rw [hxe]; generalize hH : highs j (seg (expn c) at_ E) = H; have hB8 := hB7.trans (hb8.mono hB7.size)))
            all_goals go_roundw
            case rel | rel | rel =>
              have hHS := HS.out
              first
                | (have hs : sgnOf j (seg (expn c) at_ E) = 46 := by
                    have h0 : H = 0 := by simpa using ‹((H : Int) == 0) = true›
                    simp [sgnOf, hH, h0]
                   rw [hs] at hHS
                   exact ⟨E, f', pre ++ [46], by first | (congr 1; omega) | (rw [w64 (by omega) (by omega)]; congr 1; omega), by rw [← List.append_assoc, HAC.out]; exact congrArg Value.string (str_app acc [46]), hE1.2.1, by rw [List.length_append]; simp; omega, ⟨hHS⟩, by omega, hB8⟩)
                | (have hs : sgnOf j (seg (expn c) at_ E) = 35 := by
                    have h0 : ¬ H = 0 := by simpa using ‹((H : Int) == 0) = false›
                    have h1 : H = E - at_ := by
                      first
                        | (have h2 : (H : Int) = (N : Int) - at_ := by simpa using ‹((H : Int) == (N : Int) - at_) = true›
                           omega)
                        | (have h2 : (H : Int) = per + at_ - at_ := by simpa using ‹((H : Int) == per + at_ - at_) = true›
                           omega)
                        | (have h2 : (H : Int) = per := by simpa using ‹((H : Int) == per) = true›
                           omega)
                    simp [sgnOf, hH, hsl, h0, h1]
                    omega
                   rw [hs] at hHS
                   exact ⟨E, f', pre ++ [35], by first | (congr 1; omega) | (rw [w64 (by omega) (by omega)]; congr 1; omega), by rw [← List.append_assoc, HAC.out]; exact congrArg Value.string (str_app acc [35]), hE1.2.1, by rw [List.length_append]; simp; omega, ⟨hHS⟩, by omega, hB8⟩)
                | (have hs : sgnOf j (seg (expn c) at_ E) = 43 := by
                    have h0 : ¬ H = 0 := by simpa using ‹((H : Int) == 0) = false›
                    have h1 : ¬ H = E - at_ := by
                      first
                        | (have h2 : ¬ (H : Int) = (N : Int) - at_ := by simpa using ‹((H : Int) == (N : Int) - at_) = false›
                           omega)
                        | (have h2 : ¬ (H : Int) = per + at_ - at_ := by simpa using ‹((H : Int) == per + at_ - at_) = false›
                           omega)
                        | (have h2 : ¬ (H : Int) = per := by simpa using ‹((H : Int) == per) = false›
                           omega)
                    simp [sgnOf, hH, hsl, h0, h1]
                   rw [hs] at hHS
                   exact ⟨E, f', pre ++ [43], by first | (congr 1; omega) | (rw [w64 (by omega) (by omega)]; congr 1; omega), by rw [← List.append_assoc, HAC.out]; exact congrArg Value.string (str_app acc [43]), hE1.2.1, by rw [List.length_append]; simp; omega, ⟨hHS⟩, by omega, hB8⟩)
            all_goals (try (simp [intOf]; omega))
        · obtain rfl : at_ = N := by omega
          have hend : pre = rowOf (expn c) P j := by
            have := hpre.out
            cases f with
            | zero => simpa [rowFrom] using this
            | succ f => rw [rowFrom, if_neg (by omega), List.append_nil] at this; exact this
          go_wp2
          go_roundw
          case rel => exact ⟨j + 1, by omega, by simp, by rw [rowsUpto_succ, ← List.append_assoc, ← hend, HAC.out]; exact congrArg Value.string (str_app acc [10]), hB2⟩
          case measure => simp [intOf]; omega
    · obtain rfl : j = 4 := by omega
      rw [HPE.out]
      go_wp2_with (go_at_call 7; refine (busbarlaw37_one.calls K true _ (GW_of hG hB) hone).mono ?_; rintro e w9 ⟨rfl, hb9⟩; have hB9 := hB.trans (hb9.mono hB.size))
      go_ret
      exact ⟨rfl, hB9⟩
/-- WavePicture, at every wave whose lines are bytes and every int. -/
theorem wavePicture_calls (A : Option Addr) (cp : Nat) (lw : List S46) (per : Int) (hp2 : per < 9223372036854775808) (w : World) (hG : GW w) (hC : Kd.C k46 w A lw.length lw) (hcp : lw.length ≤ cp) (hl : ∀ r ∈ lw, 0 ≤ r.f0 ∧ r.f0 < 256) (hn : lw.length < 4611686018427387904) :
    Calls Tryd.prog 5 #[.slice A lw.length cp, .int .i64 per] w fun e w' => e = .returned (.bool true) ∧ Below w.heap.size w w' := by
  obtain ⟨m, hm, hle⟩ := few_le lw hn
  have hF := hm (40 + lw.length + 3) (by omega)
  by_cases h0 : m = 0
  · subst h0
    exact pic_few0 A cp lw _ per w hC hcp hF
  · by_cases hp : per < 1
    · exact pic_neg A cp lw _ m per hp w hG hC hcp hn hF h0 (one_ev _ (by omega))
    · obtain ⟨c, long, hcl, he, hk⟩ := clean_spec lw hl hn
      have h3 := hle h0
      have hN3 : (expn c).length ≤ 3000 := by rw [he, List.length_take]; omega
      exact pic_in A cp lw c long hl hn hcl he hk hN3 per (by omega) hp2 w hG hC hcp (40 + lw.length + 3) m hF h0 (one_ev _ (by omega))
end Go.Proofs.YtelokdkifkkggaaDoor.QW

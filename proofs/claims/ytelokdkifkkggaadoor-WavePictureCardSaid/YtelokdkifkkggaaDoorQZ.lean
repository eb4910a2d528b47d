/- The walks for WavePicture: High, sign, Picture, and the law. -/
import Derived.Test.YtelokdkifkkggaaDoorQX
import Derived.Test.YtelokdkifkkggaaDoorQY
import Derived.WalkKit
import Derived.BigCall
namespace Go.Proofs.YtelokdkifkkggaaDoor.QW
open Go.RowKit Go.Shelf Go.Proofs.YtelokdkifkkggaaDoorW.PrintWords Go.Proofs.YtelokdkifkkggaaDoorW.PrintLast Go.Proofs.YtelokdkifkkggaaDoorW.PrintMore
attribute [local go_sem] max2_int min2_int max_two min_two
set_option linter.unusedVariables false
set_option linter.unusedSimpArgs false

/-- High of a clean wave. -/
theorem high_cln (A : Option Addr) (cp : Nat) (x : List S46) (long : Int) (hx : Cln x long) (line : Int) (w : World) (hC : Kd.C k46 w A x.length x) (hcp : x.length ≤ cp) :
    Calls Tryd.prog 15 #[.slice A x.length cp, .int .i64 line] w fun e w' => e = .returned (.int .i64 ((highs line (expn x) : Nat) : Int)) ∧ Below w.heap.size w w' := by
  have hle := hx.le
  have hlen := hx.len
  have hs := hx.short
  obtain ⟨c, l2, hc, he, hk⟩ := clean_spec x (fun r hr => by have := hx.run r hr; omega) (by omega)
  rw [hx.rawn, List.take_of_length_le (by omega)] at he
  have := high_in A cp x c (0 + x.length + 3) line w (hk 0) (fun r hr => (hc.run r hr).1) (by rw [he]; omega) hc.short (fun y => high_some line y) hC hcp
  rw [he] at this
  exact (callsIn_wide (n := 3)).1 this
theorem long_cln (A : Option Addr) (cp : Nat) (x : List S46) (long : Int) (hx : Cln x long) (w : World) (hC : Kd.C k46 w A x.length x) (hcp : x.length ≤ cp) :
    Calls Tryd.prog 9 #[.slice A x.length cp] w fun e w' => e = .returned (.int .i64 ((expn x).length : Int)) ∧ Below w.heap.size w w' := by
  have hle := hx.le
  have hlen := hx.len
  have hs := hx.short
  have hL := long_spec x (by omega) 0
  rw [long_take, hx.rawn, List.take_of_length_le (by omega)] at hL
  exact wave_Wave_Long.calls _ A cp x _ w hC hcp hL
def sgnOf (line : Int) (T : List Int) : UInt8 := if highs line T = 0 then 46 else if highs line T = T.length then 35 else 43
set_option maxHeartbeats 4000000 in
set_option maxRecDepth 100000 in
theorem sign_cln (A : Option Addr) (cp : Nat) (x : List S46) (long : Int) (hx : Cln x long) (line : Int) (w : World) (hC : Kd.C k46 w A x.length x) (hcp : x.length ≤ cp) :
    Calls Tryd.prog 25 #[.slice A x.length cp, .int .i64 line] w fun e w' => e = .returned (.int .u8 ((sgnOf line (expn x)).toNat : Int)) ∧ Below w.heap.size w w' := by
  have hh := highs_le line (expn x)
  generalize hN : (expn x).length = N at hh
  generalize hH : highs line (expn x) = H at hh
  go_enter Tryd.func25, Tryd.ntmps25
  go_wp2_with (first
    | (go_at_call 15; refine (high_cln A cp x long hx line _ hC hcp).mono ?_; rintro e w1 ⟨rfl, hb1⟩; rw [hH]; have hC1 := Kd.C_below hC hb1)
    | (go_at_call 9; refine (long_cln A cp x long hx _ hC1 hcp).mono ?_; rintro e w2 ⟨rfl, hb2⟩; rw [hN]; have hb3 := hb1.trans (hb2.mono hb1.size)))
  all_goals (try go_ret)
  · have h0 : H = 0 := by simpa using ‹((H : Int) == 0) = true›
    refine ⟨?_, hb1⟩
    simp [sgnOf, hH, h0]
  · have h0 : ¬ H = 0 := by simpa using ‹((H : Int) == 0) = false›
    have h1 : H = N := by have h2 : (H : Int) = (N : Int) := by simpa using ‹((H : Int) == (N : Int)) = true›
                          omega
    refine ⟨?_, hb3⟩
    subst h1
    simp [sgnOf, hH, hN, h0]
  · have h0 : ¬ H = 0 := by simpa using ‹((H : Int) == 0) = false›
    have h1 : ¬ H = N := by have h2 : ¬ (H : Int) = (N : Int) := by simpa using ‹((H : Int) == (N : Int)) = false›
                            omega
    refine ⟨?_, hb3⟩
    simp [sgnOf, hH, hN, h0, h1]
/-- Cut, within the wave. -/
theorem cut_calls (A : Option Addr) (cp : Nat) (lw c : List S46) (long : Int) (hl : ∀ r ∈ lw, 0 ≤ r.f0 ∧ r.f0 < 256) (hn : lw.length < 4611686018427387904) (hc : Cln c long) (he : expn c = (rawn lw).take 1048576) (hk : ∀ k, wave_Wave_Clean.f (k + lw.length + 3) lw = some c)
    (a e : Nat) (hae : a ≤ e) (heN : e ≤ (expn c).length) (a1 a2 : Int) (h1 : a1 = a) (h2 : a2 = e) (w : World) (hC : Kd.C k46 w A lw.length lw) (hcp : lw.length ≤ cp) :
    Calls Tryd.prog 14 #[.slice A lw.length cp, .int .i64 a1, .int .i64 a2] w fun r w' => ∃ A' cp' x long', r = .returned (.slice A' x.length cp') ∧ Kd.C k46 w' A' x.length x ∧ x.length ≤ cp' ∧ Cln x long' ∧ expn x = seg (expn c) a e ∧ Below w.heap.size w w' := by
  subst h1 h2
  obtain ⟨x, long', hx, hxe, hxk⟩ := cut_spec lw c long hl hn hc he hk a e hae heN
  refine (wave_Wave_Cut.calls _ A cp lw a e x w hC hcp (hxk _ (Nat.le_refl _))).mono ?_
  rintro r w' ⟨v, rfl, hR, hb⟩
  obtain ⟨Av, cv, rfl, hcv, hCc⟩ := Kd.R_reads hR
  exact ⟨Av, cv, x, long', rfl, hCc, hcv, hx, hxe, hb⟩
theorem sgn_eq (T : List Int) (per : Nat) (line : Int) (at_ : Nat) (h : at_ ≤ T.length) : sgn T per line at_ = sgnOf line (seg T at_ (endOf per T.length at_)) := by
  unfold sgn sgnOf
  rw [seg_length T per at_ h]
theorem builder_below {T e : TypeId} {B b : Nat} {bs : List Value} {w w' : World} (h : Lib.IsBuilder T e B b bs w) (hb : Below w.heap.size w w') : Lib.IsBuilder T e B b bs w' := by
  rcases h with ⟨hB, v, h1, h2, h3⟩ | ⟨hB, v, h1, h2, h3⟩
  · exact .inl ⟨hB, v, (hb.block b (Array.getElem?_eq_some_iff.1 h1).1).trans h1, row_below h2 hb, h3⟩
  · exact .inr ⟨hB, v, (hb.block b (Array.getElem?_eq_some_iff.1 h1).1).trans h1, row_below h2 hb, h3⟩
set_option maxHeartbeats 8000000 in
set_option maxRecDepth 100000 in
theorem picture_calls (A : Option Addr) (cp : Nat) (lw c : List S46) (long : Int) (hl : ∀ r ∈ lw, 0 ≤ r.f0 ∧ r.f0 < 256) (hn : lw.length < 4611686018427387904) (hc : Cln c long) (he : expn c = (rawn lw).take 1048576) (hk : ∀ k, wave_Wave_Clean.f (k + lw.length + 3) lw = some c)
    (hN3 : (expn c).length ≤ 3000) (per : Int) (hp : 1 ≤ per) (hp2 : per < 9223372036854775808) (w : World) (hC : Kd.C k46 w A lw.length lw) (hcp : lw.length ≤ cp) :
    Calls Tryd.prog 13 #[.slice A lw.length cp, .int .i64 per] w fun e w' => e = .returned (.string ⟨(rowsUpto (expn c) per.toNat 4).toArray⟩) ∧ Below w.heap.size w w' := by
  have hL := long_spec lw hn 0
  rw [long_take, ← he] at hL
  have hlong := wave_Wave_Long.calls _ A cp lw _ w hC hcp hL
  have HE := Aside0.mk he
  clear he
  obtain ⟨N, hN⟩ : ∃ N : Nat, (expn c).length = N := ⟨_, rfl⟩
  rw [hN] at hN3 hlong
  obtain ⟨P, hP⟩ : ∃ P : Nat, per = (P : Int) := ⟨per.toNat, by omega⟩
  have HP := Aside0.mk hP
  rw [show per.toNat = P by omega]
  clear hP
  have hp1 : ¬ per < 1 := by omega
  have hP0 : ¬ per = 0 := by omega
  have hq : ∀ q : Int, 1 ≤ q → ¬ 4096 < wrap64 ((N : Int) / q) := fun q hq => by
    have h1 : (N : Int) / q ≤ N := Int.ediv_le_self _ (by omega)
    have h2 : 0 ≤ (N : Int) / q := Int.ediv_nonneg (by omega) (by omega)
    rw [w64 (by omega) (by omega)]
    omega
  have hq1 := hq 1048576 (by decide)
  have hq2 := hq per hp
  clear hq
  have HR := Aside0.mk (rowsUpto_length (expn c) P)
  rcases Int.lt_or_le 1048576 per with hbig | hbig
  · go_enter Tryd.func13, Tryd.ntmps13
    go_wp2_with (go_at_call 9; refine hlong.mono ?_; rintro e w1 ⟨rfl, hb1⟩)
    rename_i hcond Kq aq
    have HPP := Aside0.mk hp
    clear hcond hp1 hq1 hq2 hP0 hbig hp
    have hC1 := Kd.C_below hC hb1
    generalize Value.bool (decide (per < 1) || decide (4096 < (N : Int) / 1048576)) = d1
    generalize Value.bool (decide (4096 < (N : Int) / 1048576)) = d2
    generalize Value.bool (decide (per < 1)) = d3
    generalize Value.int .i64 ((N : Int) / 1048576) = d4
    have hI0 := Lib.fresh_isBuilder 57 5 w1
    have hB0 := (Below.refl w1.heap.size w1).alloc (Nat.le_refl _) (.cells #[.pointer none, .slice none 0 0] 57)
    go_loopw [7] (fun li wr => ∃ j : Nat, j ≤ 4 ∧ li = .int .i64 j ∧ Lib.IsBuilder 57 5 w1.heap.size w1.heap.size (Lib.byteCells (rowsUpto (expn c) P j)) wr ∧ Below w1.heap.size w1 wr) (fun li _ => 4 - (intOf li).toNat)
    case atStart => exact ⟨0, by omega, rfl, hI0, hB0⟩
    case round =>
      obtain ⟨j, hj, rfl, hI, hB⟩ := hrel
      have hsz := hB.size
      by_cases hj3 : j ≤ 3
      · go_wp2
        generalize Value.bool (decide ((j : Int) ≤ 3)) = d5
        go_loopw [8] (fun a wq => ∃ (at_ f : Nat) (pre : List UInt8), a = .int .i64 at_ ∧ at_ ≤ N ∧ Aside0 (pre ++ rowFrom (expn c) P j f at_ = rowOf (expn c) P j) ∧ N ≤ at_ + f ∧ pre.length ≤ at_ ∧ Lib.IsBuilder 57 5 w1.heap.size w1.heap.size (Lib.byteCells (rowsUpto (expn c) P j ++ pre)) wq ∧ Below w1.heap.size w1 wq) (fun a _ => N - (intOf a).toNat)
        case atStart => exact ⟨0, N, [], rfl, Nat.zero_le _, ⟨by simp [rowOf, hN]⟩, by omega, by simp, by simpa using hI, hB⟩
        case round =>
          obtain ⟨at_, f, pre, rfl, hat, hpre, hfu, hpl, hI2, hB2⟩ := hrel
          have hCr := Kd.C_below hC1 hB2
          have hRl := Nat.le_trans (HR.out j) (Nat.mul_le_mul_right _ hj)
          rw [hN] at hRl
          by_cases hlt : at_ < N
          · obtain ⟨f', rfl⟩ : ∃ f', f = f' + 1 := ⟨f - 1, by omega⟩
            obtain ⟨E, hE⟩ : ∃ E : Nat, endOf P N at_ = E := ⟨_, rfl⟩
            have hE1 : at_ < E ∧ E ≤ N ∧ (E : Int) = min per ((N : Int) - at_) + at_ := by have := HP.out; have := HPP.out; rw [← hE]; unfold endOf; omega
            have hst : rowFrom (expn c) P j (f' + 1) at_ = sgnOf j (seg (expn c) at_ E) :: rowFrom (expn c) P j f' E := by
              rw [rowFrom, if_pos (by omega), sgn_eq _ _ _ _ (by omega), hN, hE]
            have hpr : pre ++ [sgnOf j (seg (expn c) at_ E)] ++ rowFrom (expn c) P j f' E = rowOf (expn c) P j := by
              rw [← hpre.out, hst]; simp
            have HS := Aside0.mk hpr
            clear hE hpr hst
            have hwa : wrap64 ((N : Int) - at_) = (N : Int) - at_ := w64 (by omega) (by omega)
            rcases Int.lt_or_le ((N : Int) - at_) per with hmn | hmn
            all_goals
              have HE3 := Aside0.mk hE1.2.2
              go_wp2_with (first
                | (go_at_call 14; refine (cut_calls A cp lw c long hl hn hc HE.out hk at_ E (by omega) (by omega) _ _ rfl (by first | omega | (rw [w64 (by omega) (by omega)]; omega)) _ hCr hcp).mono ?_; rintro e w3 ⟨A', cp', x, l', rfl, hCx, hcx, hx, hxe, hb3⟩; have hI3 := builder_below hI2 hb3)
                | (go_at_call 25; refine (sign_cln A' cp' x l' hx j _ hCx hcx).mono ?_; rintro e w4 ⟨rfl, hb4⟩; have hI4 := builder_below hI3 hb4; have hsz4 : w1.heap.size ≤ w4.heap.size := (by have h1 := hB2.size; have h2 := hb3.size; have h3 := hb4.size; omega))
                | (go_at_call 24; refine (writeByte _ _ _ _ _ hI4 (by rw [Lib.byteCells_length, List.length_append]; omega) hsz4).mono ?_; rintro e w5 ⟨rfl, hI5, hb5⟩))
              go_roundw
              case rel =>
                refine ⟨E, f', pre ++ [sgnOf j (seg (expn c) at_ E)], by first | (congr 1; omega) | (rw [w64 (by omega) (by omega)]; congr 1; omega), hE1.2.1, HS, by omega, by simp; omega, .inr ?_, ((hB2.trans (hb3.mono (by have := hB2.size; omega))).trans (hb4.mono (by have := hB2.size; have := hb3.size; omega))).trans hb5⟩
                rw [← List.append_assoc, Lib.byteCells_append]
                exact hI5
              case measure => simp [intOf]; omega
          · obtain rfl : at_ = N := by omega
            have hend : pre = rowOf (expn c) P j := by
              have := hpre.out
              cases f with
              | zero => simpa [rowFrom] using this
              | succ f => rw [rowFrom, if_neg (by omega), List.append_nil] at this; exact this
            have hsz2 := hB2.size
            go_wp2_with (go_at_call 24; refine (writeByte _ _ _ _ _ hI2 (by rw [Lib.byteCells_length, List.length_append]; omega) hsz2).mono ?_; rintro e w5 ⟨rfl, hI5, hb5⟩)
            go_roundw
            case rel =>
              refine ⟨j + 1, by omega, by simp, .inr ?_, hB2.trans hb5⟩
              rw [rowsUpto_succ, ← List.append_assoc, Lib.byteCells_append, ← hend]
              exact hI5
            case measure => simp [intOf]; omega
      · obtain rfl : j = 4 := by omega
        go_wp2_with (go_at_call 26; refine (Tryd.Builder_String_any w1.heap.size w1.heap.size _ _ hI hsz).mono ?_; rintro e w5 ⟨rfl, hb5⟩)
        go_ret
        exact ⟨rfl, hb1.trans ((hB.trans hb5).mono hb1.size)⟩
  · go_enter Tryd.func13, Tryd.ntmps13
    go_wp2_with (go_at_call 9; refine hlong.mono ?_; rintro e w1 ⟨rfl, hb1⟩)
    rename_i hcond Kq aq hsm
    have HPP := Aside0.mk hp
    clear hcond hsm hp1 hq1 hq2 hP0 hbig hp
    have hC1 := Kd.C_below hC hb1
    generalize Value.bool (decide (per < 1) || decide (4096 < wrap64 ((N : Int) / per))) = d1
    generalize Value.bool (decide (4096 < wrap64 ((N : Int) / per))) = d2
    generalize Value.bool (decide (per < 1)) = d3
    generalize Value.int .i64 (wrap64 ((N : Int) / per)) = d4
    have hI0 := Lib.fresh_isBuilder 57 5 w1
    have hB0 := (Below.refl w1.heap.size w1).alloc (Nat.le_refl _) (.cells #[.pointer none, .slice none 0 0] 57)
    go_loopw [7] (fun li wr => ∃ j : Nat, j ≤ 4 ∧ li = .int .i64 j ∧ Lib.IsBuilder 57 5 w1.heap.size w1.heap.size (Lib.byteCells (rowsUpto (expn c) P j)) wr ∧ Below w1.heap.size w1 wr) (fun li _ => 4 - (intOf li).toNat)
    case atStart => exact ⟨0, by omega, rfl, hI0, hB0⟩
    case round =>
      obtain ⟨j, hj, rfl, hI, hB⟩ := hrel
      have hsz := hB.size
      by_cases hj3 : j ≤ 3
      · go_wp2
        generalize Value.bool (decide ((j : Int) ≤ 3)) = d5
        go_loopw [8] (fun a wq => ∃ (at_ f : Nat) (pre : List UInt8), a = .int .i64 at_ ∧ at_ ≤ N ∧ Aside0 (pre ++ rowFrom (expn c) P j f at_ = rowOf (expn c) P j) ∧ N ≤ at_ + f ∧ pre.length ≤ at_ ∧ Lib.IsBuilder 57 5 w1.heap.size w1.heap.size (Lib.byteCells (rowsUpto (expn c) P j ++ pre)) wq ∧ Below w1.heap.size w1 wq) (fun a _ => N - (intOf a).toNat)
        case atStart => exact ⟨0, N, [], rfl, Nat.zero_le _, ⟨by simp [rowOf, hN]⟩, by omega, by simp, by simpa using hI, hB⟩
        case round =>
          obtain ⟨at_, f, pre, rfl, hat, hpre, hfu, hpl, hI2, hB2⟩ := hrel
          have hCr := Kd.C_below hC1 hB2
          have hRl := Nat.le_trans (HR.out j) (Nat.mul_le_mul_right _ hj)
          rw [hN] at hRl
          by_cases hlt : at_ < N
          · obtain ⟨f', rfl⟩ : ∃ f', f = f' + 1 := ⟨f - 1, by omega⟩
            obtain ⟨E, hE⟩ : ∃ E : Nat, endOf P N at_ = E := ⟨_, rfl⟩
            have hE1 : at_ < E ∧ E ≤ N ∧ (E : Int) = min per ((N : Int) - at_) + at_ := by have := HP.out; have := HPP.out; rw [← hE]; unfold endOf; omega
            have hst : rowFrom (expn c) P j (f' + 1) at_ = sgnOf j (seg (expn c) at_ E) :: rowFrom (expn c) P j f' E := by
              rw [rowFrom, if_pos (by omega), sgn_eq _ _ _ _ (by omega), hN, hE]
            have hpr : pre ++ [sgnOf j (seg (expn c) at_ E)] ++ rowFrom (expn c) P j f' E = rowOf (expn c) P j := by
              rw [← hpre.out, hst]; simp
            have HS := Aside0.mk hpr
            clear hE hpr hst
            have hwa : wrap64 ((N : Int) - at_) = (N : Int) - at_ := w64 (by omega) (by omega)
            rcases Int.lt_or_le ((N : Int) - at_) per with hmn | hmn
            all_goals
              have HE3 := Aside0.mk hE1.2.2
              go_wp2_with (first
                | (go_at_call 14; refine (cut_calls A cp lw c long hl hn hc HE.out hk at_ E (by omega) (by omega) _ _ rfl (by first | omega | (rw [w64 (by omega) (by omega)]; omega)) _ hCr hcp).mono ?_; rintro e w3 ⟨A', cp', x, l', rfl, hCx, hcx, hx, hxe, hb3⟩; have hI3 := builder_below hI2 hb3)
                | (go_at_call 25; refine (sign_cln A' cp' x l' hx j _ hCx hcx).mono ?_; rintro e w4 ⟨rfl, hb4⟩; have hI4 := builder_below hI3 hb4; have hsz4 : w1.heap.size ≤ w4.heap.size := (by have h1 := hB2.size; have h2 := hb3.size; have h3 := hb4.size; omega))
                | (go_at_call 24; refine (writeByte _ _ _ _ _ hI4 (by rw [Lib.byteCells_length, List.length_append]; omega) hsz4).mono ?_; rintro e w5 ⟨rfl, hI5, hb5⟩))
              go_roundw
              case rel =>
                refine ⟨E, f', pre ++ [sgnOf j (seg (expn c) at_ E)], by first | (congr 1; omega) | (rw [w64 (by omega) (by omega)]; congr 1; omega), hE1.2.1, HS, by omega, by simp; omega, .inr ?_, ((hB2.trans (hb3.mono (by have := hB2.size; omega))).trans (hb4.mono (by have := hB2.size; have := hb3.size; omega))).trans hb5⟩
                rw [← List.append_assoc, Lib.byteCells_append]
                exact hI5
              case measure => simp [intOf]; omega
          · obtain rfl : at_ = N := by omega
            have hend : pre = rowOf (expn c) P j := by
              have := hpre.out
              cases f with
              | zero => simpa [rowFrom] using this
              | succ f => rw [rowFrom, if_neg (by omega), List.append_nil] at this; exact this
            have hsz2 := hB2.size
            go_wp2_with (go_at_call 24; refine (writeByte _ _ _ _ _ hI2 (by rw [Lib.byteCells_length, List.length_append]; omega) hsz2).mono ?_; rintro e w5 ⟨rfl, hI5, hb5⟩)
            go_roundw
            case rel =>
              refine ⟨j + 1, by omega, by simp, .inr ?_, hB2.trans hb5⟩
              rw [rowsUpto_succ, ← List.append_assoc, Lib.byteCells_append, ← hend]
              exact hI5
            case measure => simp [intOf]; omega
      · obtain rfl : j = 4 := by omega
        go_wp2_with (go_at_call 26; refine (Tryd.Builder_String_any w1.heap.size w1.heap.size _ _ hI hsz).mono ?_; rintro e w5 ⟨rfl, hb5⟩)
        go_ret
        exact ⟨rfl, hb1.trans ((hB.trans hb5).mono hb1.size)⟩
/-- .. with no tick for a sign: the empty text. -/
theorem picture_neg (A : Option Addr) (cp : Nat) (lw : List S46) (hn : lw.length < 4611686018427387904) (per : Int) (hp : per < 1) (w : World) (hC : Kd.C k46 w A lw.length lw) (hcp : lw.length ≤ cp) :
    Calls Tryd.prog 13 #[.slice A lw.length cp, .int .i64 per] w fun e w' => e = .returned (.string ByteArray.empty) ∧ Below w.heap.size w w' := by
  have hlong := wave_Wave_Long.calls _ A cp lw _ w hC hcp (long_spec lw hn 0)
  go_enter Tryd.func13, Tryd.ntmps13
  go_wp2_with (go_at_call 9; refine hlong.mono ?_; rintro e w1 ⟨rfl, hb1⟩)
  go_ret
  exact ⟨rfl, hb1⟩
end Go.Proofs.YtelokdkifkkggaaDoor.QW

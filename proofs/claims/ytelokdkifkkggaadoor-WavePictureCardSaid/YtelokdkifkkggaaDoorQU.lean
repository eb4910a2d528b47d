/- The walk of busbarlaw37.WaveWalks: it returns true, where Few, one, Clean, At and Long tell what the premises say. -/
import Derived.Test.YtelokdkifkkggaaDoorQT
import Derived.Shelf.RegionOpen
import Derived.Laws.Bits128
namespace Go.Proofs.YtelokdkifkkggaaDoor.QW
open Go.RowKit Go.Shelf Go.Proofs.YtelokdkifkkggaaDoorW.PrintWords Go.Proofs.YtelokdkifkkggaaDoorW.PrintLast Go.Proofs.YtelokdkifkkggaaDoorW.PrintMore
attribute [local go_sem] Oper.semAt_some
theorem wide_fn (f : FuncId) : Fence.wide.fn f = True := rfl
theorem wide_fn_in (l : Nat) (f : FuncId) : (Fence.wide.inRound l).fn f = True := rfl
attribute [local go_sem] wide_fn wide_fn_in
attribute [local go_sem] max2_int min2_int max_two min_two
set_option linter.unusedVariables false
set_option linter.unusedSimpArgs false

theorem info36b : (Tryd.prog.info? 36).map (fun i => (i.zero, i.size, i.bytes)) = some (some (.int .u8 0), 1, 1) := by kernel_rfl
theorem box_own {W W' : World} {row : Option Nat} {B : Nat} {t : TypeId} {v : Value} (h : Boxed W B t v) (hg : W.grownBy W' row) (hr : ∀ r, row = some r → ∃ o : Obj, W.heap[r]? = some o ∧ o.isCells = false) : Boxed W' B t v :=
  h.kept hg (fun e => by obtain ⟨o, ho, hc⟩ := hr _ e.symm; rw [show W.heap[B]? = _ from h] at ho; cases ho; cases hc)
theorem row_below {W W' : World} {base : Nat} {e : TypeId} {size n : Nat} {v : Value} {xs : List Value} (h : W.ownsRow base e size v n xs) (hb : Below W.heap.size W W') : W'.ownsRow base e size v n xs :=
  h.kept (grown_of_below hb none) (by cases v.ownBlock <;> simp)
theorem row_shape {W : World} {base : Nat} {e : TypeId} {size n : Nat} {v : Value} {xs : List Value} (h : W.ownsRow base e size v n xs) : ∃ ad cp, v = .slice ad n cp := by
  rcases h.2 with ⟨rfl, rfl⟩ | ⟨g, cap, _, rfl, _⟩
  · exact ⟨_, _, rfl⟩
  · exact ⟨_, _, rfl⟩
theorem keeps_below {W W' : World} (h : Below W.heap.size W W') : KeepsOthers W W' := ⟨h.size, fun k o hk _ => (h.block k (Array.getElem?_eq_some_iff.1 hk).1).trans hk⟩
def fineB {n : Nat} (pre : List (Fin n)) : Bool := pre.map (fun x => x.1) == List.range pre.length
theorem fineB_snoc {n : Nat} (pre : List (Fin n)) (x : Fin n) : fineB (pre ++ [x]) = (fineB pre && decide (x.1 = pre.length)) := by
  unfold fineB
  rw [List.map_append, List.length_append, List.length_singleton, List.range_succ, Bool.eq_iff_iff]
  simp only [beq_iff_eq, Bool.and_eq_true, decide_eq_true_eq, List.map_cons, List.map_nil]
  constructor
  · intro h
    have := List.append_inj h (by simp)
    exact ⟨this.1, by simpa using this.2⟩
  · rintro ⟨h1, h2⟩
    rw [h1, h2]
theorem fineB_take (n k : Nat) : fineB ((List.finRange n).take k) = true := by
  unfold fineB
  rw [beq_iff_eq]
  apply List.ext_getElem
  · simp
  · intro i h1 h2; simp
theorem cell_one_new' (w : World) (v : Value) (t : TypeId) {n : Nat} (hn : n = w.heap.size) : ∀ j u, ([v] : List Value)[j]? = some u → (w.alloc (.cells #[v] t)).cell? ((⟨n, 0, none⟩ : Addr).add j) = some u := by
  subst hn; exact cell_one_new w v t
theorem box_below {W W' : World} {B : Nat} {t : TypeId} {v : Value} (h : Boxed W B t v) (hb : Below W.heap.size W W') : Boxed W' B t v := (hb.block B h.lt).trans h

theorem KpB.row {W W' : World} {base : Nat} {n : Nat} {v : Value} {xs : List Value} (hr : W.ownsRow base 36 1 v n xs) (hg : W.grownBy W' v.ownBlock) : KpB W W' := by
  refine KpB.grown hg hg.size fun k e => ?_
  rcases hr.2 with ⟨rfl, _⟩ | ⟨g, cap, cur, rfl, _, hb, _⟩
  · cases e
  · cases e; exact ⟨_, _, _, hb, by decide⟩
theorem fin_facts {W V w6 : World} {n₀ Bw Bs Bf Bl : Nat} {vw vs vf v v' : Value} {k m : Nat} {xs ys : List Value} {tmp : Obj}
    (hW : Boxed V Bw 23 vw) (hS : Boxed V Bs 3 vs) (hF : Boxed V Bf 4 vf) (hL : Boxed V Bl 32 v) (hr : V.ownsRow n₀ 36 1 v k xs) (hKo : KeepsOthers W V) (hKp : KpB W V) (hn : n₀ ≤ V.heap.size) (hBl : n₀ ≤ Bl)
    (hne : Bw ≠ Bl ∧ Bs ≠ Bl ∧ Bf ≠ Bl) (hown : w6.ownsRow n₀ 36 1 v' m ys) (hg : (V.alloc tmp).grownBy w6 v.ownBlock) :
    Boxed w6 Bl 32 v ∧ Boxed w6 Bw 23 vw ∧ Boxed (w6.setCell ⟨Bl, 0, none⟩ v') Bw 23 vw ∧ Boxed (w6.setCell ⟨Bl, 0, none⟩ v') Bs 3 vs ∧ Boxed (w6.setCell ⟨Bl, 0, none⟩ v') Bf 4 vf ∧ Boxed (w6.setCell ⟨Bl, 0, none⟩ v') Bl 32 v' ∧
      (w6.setCell ⟨Bl, 0, none⟩ v').ownsRow n₀ 36 1 v' m ys ∧ KeepsOthers W (w6.setCell ⟨Bl, 0, none⟩ v') ∧ KpB W (w6.setCell ⟨Bl, 0, none⟩ v') ∧ Below n₀ V (w6.setCell ⟨Bl, 0, none⟩ v') := by
  obtain ⟨h1, h2, h3, h4, h5⟩ := hL.appended (by decide) hr hn hBl hown hg
  have gW := (hW.alloc tmp).kept hg (hW.not_row (by decide) hr)
  have gS := (hS.alloc tmp).kept hg (hS.not_row (by decide) hr)
  have gF := (hF.alloc tmp).kept hg (hF.not_row (by decide) hr)
  have g := grownBy_setCell' w6 Bl v'
  refine ⟨h1, gW, gW.kept g (by simpa using hne.1), gS.kept g (by simpa using hne.2.1), gF.kept g (by simpa using hne.2.2), h2, h3, hKo.trans h4, ?_, h5⟩
  exact ((hKp.trans (KpB.below ((Below.refl _ V).alloc (Nat.le_refl _) tmp))).trans (KpB.row (hr.alloc tmp) hg)).trans (KpB.set h1 (by decide) v')

theorem i64_and1023 (n : Int) : bits .and .i64 n 1023 = n % 1024 := by
  have hm : (BitVec.ofInt 64 1023).toNat = 2 ^ 10 - 1 := by decide
  have key : (BitVec.ofInt 64 n &&& BitVec.ofInt 64 1023).toNat = (n % ((2 ^ 64 : Nat) : Int)).toNat % 2 ^ 10 := by
    rw [BitVec.toNat_and, BitVec.toNat_ofInt, hm, Nat.and_two_pow_sub_one_eq_mod]
  show IntKind.i64.wrap ((BitVec.ofInt 64 n &&& BitVec.ofInt 64 1023).toNat : Nat) = n % 1024
  rw [key, IntKind.wrap_i64]
  omega
set_option maxRecDepth 100000 in
set_option maxHeartbeats 4000000 in
theorem walks_few0 (A : Option Addr) (cp : Nat) (lw : List S46) (K : Nat) (a1 : Int) (w : World) (hC : Kd.C k46 w A lw.length lw) (hcp : lw.length ≤ cp) (hF : busbarlaw37_Few.f K lw = some 0) :
    CallsIn Fence.wide 4 Tryd.prog 4 #[.slice A lw.length cp, .int .i64 a1] w fun e w' => e = .returned (.bool true) ∧ Below w.heap.size w w' := by
  refine callsIn_of_wp Tryd.func4 rfl trivial ?_ rfl
  simp only [Tryd.ntmps4, List.size_toArray, List.length_cons, List.length_nil, Nat.reduceAdd, Nat.reduceSub, Array.replicate_succ, Array.replicate_zero, List.push_toArray, List.append_toArray, List.nil_append, List.cons_append]
  have bW := Boxed.new w 23 (.slice A lw.length cp)
  have hC2 := Kd.C_alloc (Kd.C_alloc hC (.cells #[.slice A lw.length cp] 23)) (.cells #[.int .i64 a1] 3)
  have bW2 := bW.alloc (.cells #[.int .i64 a1] 3)
  have hB2 : Below w.heap.size w ((w.alloc (.cells #[.slice A lw.length cp] 23)).alloc (.cells #[.int .i64 a1] 3)) := ((Below.refl _ w).alloc (Nat.le_refl _) _).alloc (by simp) _
  have hc0 := bW2.cell
  gi_wp2_with (first | (gi_at_call 10; first | (refine (callsIn_wide.2 (busbarlaw37_Few.calls K A cp lw 0 _ hC2 hcp hF)).mono ?_; rintro e w1 ⟨rfl, hb1⟩; have bW3 := box_below bW2 hb1; have hc1 := bW3.cell; have hC3 := Kd.C_below hC2 hb1; have hb2 := hB2.trans (hb1.mono hB2.size); clear hb1 bW2 hC2) | (refine (callsIn_wide.2 (busbarlaw37_Few.calls K A cp lw 0 _ hC3 hcp hF)).mono ?_; rintro e w4 ⟨rfl, hb4⟩; have hb5 := hb2.trans (hb4.mono hb2.size))))
  go_ret
  exact ⟨rfl, hb5⟩

set_option maxRecDepth 100000 in
set_option maxHeartbeats 4000000 in
theorem walks_in (A : Option Addr) (cp : Nat) (lw c : List S46) (K : Nat) (a1 m : Int) (w : World) (hG : GW w) (hC : Kd.C k46 w A lw.length lw) (hcp : lw.length ≤ cp) (hF : busbarlaw37_Few.f K lw = some m) (hm : m ≠ 0)
    (hone : busbarlaw37_one.f K = some true) (hclean : wave_Wave_Clean.f K lw = some c) (hc : ∀ r ∈ c, 1 ≤ r.f1) (hlen : (expn c).length ≤ 1048576) (hcl : c.length ≤ 1048576)
    (hAt : ∀ i : Nat, i < (expn c).length → wave_Wave_At.f K lw i = some (tk c i, true)) (hLong : wave_Wave_Long.f K lw = some ((expn c).length : Int)) :
    CallsIn Fence.wide 4 Tryd.prog 4 #[.slice A lw.length cp, .int .i64 a1] w fun e w' => e = .returned (.bool true) ∧ Below w.heap.size w w' := by
  refine callsIn_of_wp_marks Tryd.func4 rfl trivial ?_ rfl
  simp only [Tryd.ntmps4, List.size_toArray, List.length_cons, List.length_nil, Nat.reduceAdd, Nat.reduceSub, Array.replicate_succ, Array.replicate_zero, List.push_toArray, List.append_toArray, List.nil_append, List.cons_append]
  have bW := Boxed.new w 23 (.slice A lw.length cp)
  have hC2 := Kd.C_alloc (Kd.C_alloc hC (.cells #[.slice A lw.length cp] 23)) (.cells #[.int .i64 a1] 3)
  have bW2 := bW.alloc (.cells #[.int .i64 a1] 3)
  have bS2 := Boxed.new (w.alloc (.cells #[.slice A lw.length cp] 23)) 3 (.int .i64 a1)
  rw [World.size_alloc] at bS2
  have hB2 : Below w.heap.size w ((w.alloc (.cells #[.slice A lw.length cp] 23)).alloc (.cells #[.int .i64 a1] 3)) := ((Below.refl _ w).alloc (Nat.le_refl _) _).alloc (by simp) _
  have hc0 := bW2.cell
  have hG2 := GW_of hG hB2
  have hm' : (m == 0) = false := by simpa using hm
  obtain ⟨st, hst, hst0, hst1⟩ : ∃ st : Nat, bits .and .i64 a1 1023 = (st : Int) ∧ 0 ≤ st ∧ st ≤ 1023 := ⟨(a1 % 1024).toNat, by rw [i64_and1023]; omega, Nat.zero_le _, by omega⟩
  have hw1 : IntKind.i64.wrap ((st : Int) + 1) = (st : Int) + 1 := by rw [IntKind.wrap_i64]; omega
  gi_wp2_with (first | (gi_at_call 10; refine (callsIn_wide.2 (busbarlaw37_Few.calls K A cp lw m _ hC2 hcp hF)).mono ?_; rintro e w1 ⟨rfl, hb1⟩; have hG1 := GW_of hG2 hb1) | (gi_at_call 7; refine (callsIn_wide.2 (busbarlaw37_one.calls K true _ hG1 hone)).mono ?_; rintro e w2 ⟨rfl, hb2⟩; have bW3 := box_below (box_below bW2 hb1) hb2; have bS3 := box_below (box_below bS2 hb1) hb2; have hB3 := hB2.trans ((hb1.trans (hb2.mono hb1.size)).mono hB2.size); have hsz : w.heap.size + 2 ≤ w2.heap.size := (by have h1 := hb1.size; have h2 := hb2.size; simp at h1; omega); have hc1 := bW3.cell; have hc2 := bS3.cell; have hf2 := bS3.frozen; clear hb1 hb2; have bW4 := ((bW3.kept (grownBy_setCell' w2 (w.heap.size + 1) (.int .i64 st)) (by simp)).alloc (.cells #[.slice none 0 0] 32)).alloc (.cells #[.bool true] 4); have hc4 := bW4.cell) | (gi_at_call 11; refine (ticks_in _ _ _ _ _).mono ?_; rintro e w' ⟨rfl, rfl⟩))
  have bS4 := ((bS3.set (.int .i64 st)).alloc (.cells #[.slice none 0 0] 32)).alloc (.cells #[.bool true] 4)
  have bL4 := (Boxed.new (w2.setCell ⟨w.heap.size + 1, 0, none⟩ (.int .i64 st)) 32 (.slice none 0 0)).alloc (.cells #[.bool true] 4)
  have bF4 := Boxed.new ((w2.setCell ⟨w.heap.size + 1, 0, none⟩ (.int .i64 st)).alloc (.cells #[.slice none 0 0] 32)) 4 (.bool true)
  have hB4 := ((hB3.setCell (p := ⟨w.heap.size + 1, 0, none⟩) (Nat.le_succ _) (.int .i64 st)).alloc (by simp; omega) (.cells #[.slice none 0 0] 32)).alloc (by simp; omega) (.cells #[.bool true] 4)
  have hs4 : (((w2.setCell ⟨w.heap.size + 1, 0, none⟩ (.int .i64 st)).alloc (.cells #[.slice none 0 0] 32)).alloc (.cells #[.bool true] 4)).heap.size = w2.heap.size + 2 := by simp
  rw [World.size_alloc] at bF4
  have e2 : (w2.setCell ⟨w.heap.size + 1, 0, none⟩ (.int .i64 st)).heap.size = w2.heap.size := by simp
  rw [e2] at bL4 bF4
  generalize ((w2.setCell ⟨w.heap.size + 1, 0, none⟩ (.int .i64 st)).alloc (.cells #[.slice none 0 0] 32)).alloc (.cells #[.bool true] 4) = W4 at bW4 bS4 bL4 bF4 hB4 hs4 ⊢
  have hc4 := bW4.cell
  have bT := Boxed.new W4 23 (.slice A lw.length cp)
  rw [hs4] at bT
  have hB5 := hB4.alloc hB4.size (.cells #[.slice A lw.length cp] 23)
  obtain ⟨i0, hi, hz0, hz1, hz2⟩ := info_parts info36b
  have hu32 := Tryd.underlying32
  have hC4 := Kd.C_below hC hB4
  refine wpIn_rangeFunc_ownG rfl (by omega) (gf := 23) (lb := #[.pointer (some ⟨w2.heap.size + 2, 0, none⟩)]) (by rw [← hs4]; rfl) trivial (enters_of Tryd.func23 (by kernel_rfl) rfl)
    (ticks_stops _ (w2.heap.size + 2) (by omega) A cp lw c K w _ hclean hc hlen hcl hC hcp hB5 (by simp [hs4]) bT.cell) KpB.trans (fun W l o o' _ ho hc _ => KpB.put W l o o' ho hc) (Below.refl _ _) (fun _ => rfl)
    (fun pre W => ((Boxed W w.heap.size 23 (.slice A lw.length cp) ∧ Boxed W (w.heap.size + 1) 3 (.int .i64 st) ∧ Boxed W (w2.heap.size + 1) 4 (.bool (fineB pre))) ∧ pre.length ≤ st ∧ ∃ v, Boxed W w2.heap.size 32 v ∧ W.ownsRow w.heap.size 36 1 v pre.length ((ticksOf c pre).map (Value.int .u8)) ∧ True) ∧ Below w.heap.size w W)
    (fun cd pre W => ((Boxed W w.heap.size 23 (.slice A lw.length cp) ∧ Boxed W (w.heap.size + 1) 3 (.int .i64 st) ∧ Boxed W (w2.heap.size + 1) 4 (.bool (fineB pre))) ∧ (cd = .exit 0 ∧ pre.length = st + 1) ∧ ∃ v, Boxed W w2.heap.size 32 v ∧ W.ownsRow w.heap.size 36 1 v pre.length ((ticksOf c pre).map (Value.int .u8)) ∧ True) ∧ Below w.heap.size w W)
    (OwnFrom.and (Own.from (fun s A B row hs hg hr => ⟨⟨box_own hs.1.1 hg hr, box_own hs.1.2.1 hg hr, box_own hs.1.2.2 hg hr⟩, hs.2.1, holdsRow_own w.heap.size w2.heap.size 32 36 1 (fun _ => s.length) (fun _ => (ticksOf c s).map (Value.int .u8)) (fun _ _ => True) () A B row hs.2.2 hg hr⟩) _) (ownFrom_below (Nat.le_refl _) (by simp; omega)))
    (fun cd => OwnFrom.and (Own.from (fun s A B row hs hg hr => ⟨⟨box_own hs.1.1 hg hr, box_own hs.1.2.1 hg hr, box_own hs.1.2.2 hg hr⟩, hs.2.1, holdsRow_own w.heap.size w2.heap.size 32 36 1 (fun _ => s.length) (fun _ => (ticksOf c s).map (Value.int .u8)) (fun _ _ => True) () A B row hs.2.2 hg hr⟩) _) (ownFrom_below (Nat.le_refl _) (by simp; omega)))
    ⟨⟨⟨bW4.alloc _, bS4.alloc _, bF4.alloc _⟩, Nat.zero_le _, _, bL4.alloc _, World.ownsRow_nil _ _ _ _, trivial⟩, hB5⟩ ?a1 ?assign ?body ?done ?stop
  case assign =>
    intro l x W K' hK
    gi_wp2
    exact hK
  case body =>
    rintro l pre x W ⟨⟨⟨hbW, hbS, hbF⟩, hps, v, hbL, hrow, _⟩, hB⟩ hlt
    obtain ⟨ad, cpv, rfl⟩ := row_shape hrow
    have hwl : w.heap.size ≤ w2.heap.size := by omega
    have hne3 : w.heap.size ≠ w2.heap.size ∧ w.heap.size + 1 ≠ w2.heap.size ∧ w2.heap.size + 1 ≠ w2.heap.size := by omega
    have hc1 := hbW.cell
    have hpl : pre.length ≤ 1048576 := by omega
    gi_wp2_with (first
      | (gi_at_call 12; refine (CallsIn.inRound l (callsIn_wide.2 (wave_Wave_At.calls K A cp lw x.1 (tk c x.1) true _ (Kd.C_below hC hB) hcp (hAt x.1 x.2)))).mono ?_; rintro e w3 ⟨rfl, hb3⟩; have hB3' := hB.trans (hb3.mono hB.size); have hW3 := box_below hbW hb3; have hS3 := box_below hbS hb3; have hF3 := box_below hbF hb3; have hL3 := box_below hbL hb3; have hr3 := row_below hrow hb3; have hc5 := hF3.cell; have hf5 := hF3.frozen; have hc6 := hL3.cell; have hW5 := (fun b : Value => hW3.kept (grownBy_setCell' w3 (w2.heap.size + 1) b) (by simp; omega)); have hS5 := (fun b : Value => hS3.kept (grownBy_setCell' w3 (w2.heap.size + 1) b) (by simp; omega)); have hL5 := (fun b : Value => hL3.kept (grownBy_setCell' w3 (w2.heap.size + 1) b) (by simp)); have hF5 := (fun b : Value => hF3.set b); have hr5 := (fun b : Value => hr3.kept (grownBy_setCell' w3 (w2.heap.size + 1) b) (.inr (hF3.not_row (by decide) hr3).symm)); have hb5 := (fun b : Value => (by have := hB3'.size; simp; omega : w.heap.size ≤ (w3.setCell ⟨w2.heap.size + 1, 0, none⟩ b).heap.size)); have hKo5 := (fun b : Value => (keeps_below hb3).trans (KeepsOthers.setCell w3 ⟨w2.heap.size + 1, 0, none⟩ b)); have hKp5 := (fun b : Value => (KpB.below hb3).trans (KpB.set hF3 (by decide) b)); have hB5' := (fun b : Value => hB3'.setCell (p := ⟨w2.heap.size + 1, 0, none⟩) (by show w.heap.size ≤ w2.heap.size + 1; omega) b); clear hW3 hS3 hL3 hF3 hr3)
      | (gi_at_builtin; refine wpListIn_append_own _ rfl _ _ 32 rfl w.heap.size 36 i0 (.int .u8 0) 1 1 hu32 hi hz0 hz1 hz2 rfl (by decide) _ _ _ rfl ((hr5 _).alloc _) ⟨w3.heap.size, 0, none⟩ 1 1 [.int .u8 (tk c x.1)] rfl rfl ?_ ?_ ?_ ?_ ?_ ?_; (go_loud (first | exact cell_one_new' _ _ _ (by simp) | fail "L1")); (go_loud (first | simp [Value.oneCell'] | fail "L2")); (go_loud (first | exact Nat.le_trans (show pre.length + 1 ≤ 1048577 by omega) (by decide) | fail "L3")); (go_loud (first | omega | fail "L4")); (go_loud (first | (have := hB3'.size; simp; omega) | fail "L5")); intro v' w6 hown' hgrow _; obtain ⟨g', cap', rfl⟩ := ownsRow_succ hown'; obtain ⟨hv1, hv9, fW, fS, fF, fL, fR, fK, fP, fB⟩ := fin_facts (hW5 _) (hS5 _) (hF5 _) (hL5 _) (hr5 _) (hKo5 _) (hKp5 _) (hb5 _) hwl hne3 hown' hgrow; have hc8 := hv1.cell; have hf8 := hv1.frozen; have hcS := fS.cell; have fB' := (hB5' _).trans fB))
    all_goals
      have eF : Boxed (w6.setCell ⟨w2.heap.size, 0, none⟩ (.slice (some ⟨g', 0, none⟩) (pre.length + 1) cap')) (w2.heap.size + 1) 4 (.bool (fineB (pre ++ [x]))) := by
        rw [fineB_snoc]
        first
          | (rw [show fineB pre = false by simpa using ‹¬ fineB pre = true›]; exact fF)
          | (rw [‹fineB pre = true›, Bool.true_and, decide_eq_false (fun h => by have hq := ‹(((x.1 : Nat) : Int) == ((pre.length : Nat) : Int)) = false›; rw [h] at hq; simp at hq)]; exact fF)
          | (rw [‹fineB pre = true›, Bool.true_and]; first | (rw [decide_eq_true (by omega)]; exact fF) | (rw [decide_eq_false (by omega)]; exact fF))
      have eR : (w6.setCell ⟨w2.heap.size, 0, none⟩ (.slice (some ⟨g', 0, none⟩) (pre.length + 1) cap')).ownsRow w.heap.size 36 1 (.slice (some ⟨g', 0, none⟩) (pre.length + 1) cap') (pre ++ [x]).length ((ticksOf c (pre ++ [x])).map (Value.int .u8)) := by
        rw [List.length_append, List.length_singleton, ticksOf_snoc, List.map_append]
        exact fR
      first
        | exact ⟨fK.from _, ⟨⟨fW, fS, eF⟩, ⟨rfl, by rw [List.length_append, List.length_singleton]; omega⟩, _, fL, eR, trivial⟩, fB'⟩
        | exact ⟨fK.from _, fP, ⟨⟨fW, fS, eF⟩, by rw [List.length_append, List.length_singleton]; omega, _, fL, eR, trivial⟩, fB'⟩
  case done =>
    rintro D ys W hD rfl ⟨⟨⟨hbW, hbS, hbF⟩, hps, v, hbL, hrow, _⟩, hB⟩ hK
    have hfi := fineB_take (expn c).length (expn c).length
    rw [fins_all] at hfi
    rw [hfi] at hbF
    rw [List.length_finRange] at hrow hps
    have hlm : ((expn c).length : Int) = min ((st : Int) + 1) ((expn c).length : Int) := by omega
    obtain ⟨ad, cpv, rfl⟩ := row_shape hrow
    clear hrow
    generalize hLl : (expn c).length = L at hbL hlm
    have HLM := Aside0.mk hlm
    clear hlm
    have hc1 := hbW.cell
    have hc2 := hbS.cell
    have hc3 := hbF.cell
    have hc5 := hbL.cell
    have hmx : Tryd.prog.follows .mixedOrders = true := by kernel_rfl
    have hLL : L ≤ 1048576 := by omega
    gi_wp2
    refine Code.wpIn_mono (Q := fun e a' w' => match e with | .normal => (a'.defers = [{ target := .collected D, args := #[] }] ∧ a'.tmps[4]?.getD undef = .bool true) ∧ Below W.heap.size W w' | _ => False) ?_ ?_
    · intro e a' w' hq
      cases e with
      | normal =>
       obtain ⟨T, df⟩ := a'
       obtain ⟨⟨rfl, hT⟩, hb3⟩ := hq
       dsimp only at hT
       have hK3 := (hb3.block D (Array.getElem?_eq_some_iff.1 hK).1).trans hK
       gi_wp2
       refine ⟨by simp, .inl ⟨_, _, rfl, run_takeDeferred hK3, ?_⟩⟩
       exact ⟨_, by simp [results, Tryd.f4, go_sem, hT], rfl, (hB.trans (hb3.mono hB.size)).trans (belowK_b (w := w) (Nat.le_refl _) w' D _ _ (by simp [hs4] at hD; omega) hK3 rfl rfl)⟩
      | _ => exact hq.elim
    · gi_region_with_o (gi_at_call 9; refine (callsIn_wide.2 (wave_Wave_Long.calls K A cp lw _ _ (Kd.C_drew (Kd.C_below hC hB)) hcp hLong)).mono ?_; rintro e w3 ⟨rfl, hb3⟩; have hb3' : Below W.heap.size W w3 := (below_drew (Below.refl W.heap.size W)).trans hb3; have hc11 := (box_below hbW hb3').cell; have hc12 := (box_below hbS hb3').cell; have hc13 := (box_below hbF hb3').cell; have hc15 := (box_below hbL hb3').cell)
      all_goals refine ⟨⟨rfl, ?_⟩, hb3'⟩
      all_goals go_simp
      all_goals (have := HLM.out; first | omega | (split <;> omega))
  case stop =>
    rintro D cd pre W hD ⟨k, hk, rfl⟩ ⟨⟨⟨hbW, hbS, hbF⟩, ⟨rfl, hps⟩, v, hbL, hrow, _⟩, hB⟩ hK
    rw [fineB_take] at hbF
    rw [List.length_take, List.length_finRange] at hrow hps
    rw [hps] at hrow
    have hlm : ((st + 1 : Nat) : Int) = min ((st : Int) + 1) ((expn c).length : Int) := by omega
    obtain ⟨ad, cpv, rfl⟩ := row_shape hrow
    generalize hLl : st + 1 = L at hbL hlm
    have HLM := Aside0.mk hlm
    clear hlm
    have hc1 := hbW.cell
    have hc2 := hbS.cell
    have hc3 := hbF.cell
    have hc5 := hbL.cell
    have hmx : Tryd.prog.follows .mixedOrders = true := by kernel_rfl
    have hLL : L ≤ 1048576 := by omega
    gi_wp2
    refine Code.wpIn_mono (Q := fun e a' w' => match e with | .normal => (a'.defers = [{ target := .collected D, args := #[] }] ∧ a'.tmps[4]?.getD undef = .bool true) ∧ Below W.heap.size W w' | _ => False) ?_ ?_
    · intro e a' w' hq
      cases e with
      | normal =>
       obtain ⟨T, df⟩ := a'
       obtain ⟨⟨rfl, hT⟩, hb3⟩ := hq
       dsimp only at hT
       have hK3 := (hb3.block D (Array.getElem?_eq_some_iff.1 hK).1).trans hK
       gi_wp2
       refine ⟨by simp, .inl ⟨_, _, rfl, run_takeDeferred hK3, ?_⟩⟩
       exact ⟨_, by simp [results, Tryd.f4, go_sem, hT], rfl, (hB.trans (hb3.mono hB.size)).trans (belowK_b (w := w) (Nat.le_refl _) w' D _ _ (by simp [hs4] at hD; omega) hK3 rfl rfl)⟩
      | _ => exact hq.elim
    · gi_region_with_o (gi_at_call 9; refine (callsIn_wide.2 (wave_Wave_Long.calls K A cp lw _ _ (Kd.C_drew (Kd.C_below hC hB)) hcp hLong)).mono ?_; rintro e w3 ⟨rfl, hb3⟩; have hb3' : Below W.heap.size W w3 := (below_drew (Below.refl W.heap.size W)).trans hb3; have hc11 := (box_below hbW hb3').cell; have hc12 := (box_below hbS hb3').cell; have hc13 := (box_below hbF hb3').cell; have hc15 := (box_below hbL hb3').cell)
      all_goals refine ⟨⟨rfl, ?_⟩, hb3'⟩
      all_goals go_simp
      all_goals (have := HLM.out; first | omega | (split <;> omega))
end Go.Proofs.YtelokdkifkkggaaDoor.QW

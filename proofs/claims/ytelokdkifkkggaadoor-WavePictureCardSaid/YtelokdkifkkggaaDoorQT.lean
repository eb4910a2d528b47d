/- The iterator that (wave.Wave).Ticks hands back: for every loop body that keeps what lay in cells but for some blocks of its own; on waves whose runs' lines are bytes. -/
import Derived.RangeFuncNested
import Derived.RangeFuncBound
import Derived.RangeFuncCalls
import Derived.RangeFuncLeaves
import Derived.RangeFuncBox
import Derived.Maps.AppendAt
import Derived.Shelf.Abstract
import Derived.WalkKit
import Derived.OwnWalkIn
import Derived.TacticsInMore
import Derived.LoopNIn
import Derived.LoopIn
import Derived.Test.YtelokdkifkkggaaDoorQP
namespace Go.Proofs.YtelokdkifkkggaaDoor.QW
open Go.RowKit Go.Shelf Go.Proofs.YtelokdkifkkggaaDoorW.PrintWords Go.Proofs.YtelokdkifkkggaaDoorW.PrintLast Go.Proofs.YtelokdkifkkggaaDoorW.PrintMore
attribute [local go_sem] Oper.semAt_some
set_option linter.unusedVariables false
set_option linter.unusedSimpArgs false

/-- Blocks of runs that lay lie as they lay. -/
def KpB (W W' : World) : Prop := W.heap.size ≤ W'.heap.size ∧ ∀ (k : Nat) (cs : Array Value) (fr : Nat × Nat), W.heap[k]? = some (Obj.cells cs 46 fr) → W'.heap[k]? = some (Obj.cells cs 46 fr)
theorem KpB.trans {A B C : World} (h : KpB A B) (k : KpB B C) : KpB A C :=
  ⟨Nat.le_trans h.1 k.1, fun i cs fr hi => k.2 i cs fr (h.2 i cs fr hi)⟩
theorem KpB.refl (A : World) : KpB A A := ⟨Nat.le_refl _, fun _ _ _ h => h⟩
theorem KpB.put (W : World) (l : Nat) (o o' : Obj) (hl : W.heap[l]? = some o) (ho : o.isCells = false) : KpB W (W.putObj l o') :=
  ⟨by simp, fun k cs fr hk => (World.putObj_heap_other (fun e => by subst e; rw [hl] at hk; cases hk; cases ho)).trans hk⟩
theorem KpB.below {W W' : World} (h : Below W.heap.size W W') : KpB W W' :=
  ⟨h.size, fun k cs fr hk => (h.block k (Array.getElem?_eq_some_iff.1 hk).1).trans hk⟩
theorem KpB.grown {W W' : World} {row : Option Nat} (h : W.grownBy W' row) (hs : W.heap.size ≤ W'.heap.size) (hr : ∀ k, row = some k → ∃ cs t fr, W.heap[k]? = some (Obj.cells cs t fr) ∧ t ≠ 46) : KpB W W' :=
  ⟨hs, fun k cs fr hk => (h.block k (Array.getElem?_eq_some_iff.1 hk).1 (fun e => by obtain ⟨cs', t, fr', h1, h2⟩ := hr k e.symm; rw [h1] at hk; cases hk; exact h2 rfl)).trans hk⟩
theorem KpB.set {W : World} {B : Nat} {t : TypeId} {v : Value} (h : Boxed W B t v) (ht : t ≠ 46) (v' : Value) : KpB W (W.setCell ⟨B, 0, none⟩ v') :=
  KpB.grown (grownBy_setCell' W B v') (by simp) (fun k e => by cases e; exact ⟨_, _, _, h, ht⟩)
theorem KpB.drewN (W : World) (n : Nat) : KpB W (W.drewN n) := ⟨Nat.le_refl _, fun _ _ _ h => h⟩
theorem keeps_drewN (W : World) (n : Nat) : KeepsOthers W (W.drewN n) := ⟨Nat.le_refl _, fun _ _ h _ => h⟩
theorem R_kp {w w1 : World} {base : Nat} {ok : Nat → Prop} {v : Value} {c : List S46} (h : Kd.R k46 46 w base ok v c) (hk : KpB w w1) : Kd.R k46 46 w1 base ok v c := by
  refine Kd.R_mono (Kd.R_move (Kd.R_bound h) (fun k hk' => ?_)) (fun _ h => h.1)
  obtain ⟨_, hb, _, q, hq, cells, hc⟩ := hk'
  obtain rfl : q = 46 := by simpa [k46, Kd.iso, Kd.pair, Kd.int, Kd.scalar] using hq
  rw [hc]
  exact hk.2 k _ _ hc
theorem blk_kp {w w1 : World} {g : Nat} {cs : Array Value} {fr : Nat × Nat} (h : w.heap[g]? = some (Obj.cells cs 46 fr)) (hk : KpB w w1) : w1.heap[g]? = some (Obj.cells cs 46 fr) :=
  hk.2 g _ _ h

def tk (c : List S46) (i : Nat) : Int := (expn c).getD i 0
def begins (c : List S46) (k : Nat) : Nat := (expn (c.take k)).length
theorem begins_succ (c : List S46) (k : Nat) (h : k < c.length) : begins c (k + 1) = begins c k + c[k].f1.toNat := by
  unfold begins
  rw [List.take_succ_eq_append_getElem h, expn_append, List.length_append]
  simp [expn]
theorem begins_all (c : List S46) : begins c c.length = (expn c).length := by unfold begins; rw [List.take_length]
theorem begins_le (c : List S46) (k : Nat) : begins c k ≤ (expn c).length := by
  have h : expn c = expn (c.take k) ++ expn (c.drop k) := by rw [← expn_append, List.take_append_drop]
  unfold begins
  rw [h, List.length_append]; omega
theorem tick_in (c : List S46) (k t : Nat) (h : k < c.length) (ht : t < c[k].f1.toNat) : tk c (begins c k + t) = c[k].f0 := by
  unfold tk begins
  have e : expn c = expn (c.take k) ++ (List.replicate c[k].f1.toNat c[k].f0 ++ expn (c.drop (k + 1))) := by
    have h2 : c = c.take k ++ c[k] :: c.drop (k + 1) := by rw [← List.drop_eq_getElem_cons h, List.take_append_drop]
    have h3 : expn (c.take k ++ c[k] :: c.drop (k + 1)) = expn (c.take k) ++ (List.replicate c[k].f1.toNat c[k].f0 ++ expn (c.drop (k + 1))) := by
      rw [expn_append]; rfl
    rw [← h3, ← h2]
  rw [e, List.getD_eq_getElem?_getD, List.getElem?_append_right (by omega), Nat.add_sub_cancel_left, List.getElem?_append_left (by simpa using ht)]
  simp [ht]

set_option maxRecDepth 100000 in
set_option maxHeartbeats 4000000 in
theorem ticks1_in (n l Bs : Nat) (hn : 1 ≤ n) (A : Option Addr) (cp : Nat) (lw c : List S46) (K : Nat) (w0 : World)
    (hclean : wave_Wave_Clean.f K lw = some c) (hc : ∀ r ∈ c, 1 ≤ r.f1) (hlen : (expn c).length ≤ 1048576) (hcl : c.length ≤ 1048576)
    (hC : Kd.C k46 w0 A lw.length lw) (hcp : lw.length ≤ cp) (J Jx : Nat → World → Prop) (W : World) (h0W : Below w0.heap.size w0 W) (hJ : AbidesFrom W.heap.size J)
    (hY : ∀ (k : Nat) W1, J k W1 → k < (expn c).length → YieldAt Fence.wide (n - 1) Tryd.prog l #[.int .i64 (k : Int), .int .u8 (tk c k)] W1 fun e W' =>
      (e = .returned (.bool true) ∧ J (k + 1) W' ∧ KpB W1 W') ∨ (e = .returned (.bool false) ∧ Jx (k + 1) W'))
    (hBs : W.cell? ⟨Bs, 0, none⟩ = some (.slice A lw.length cp)) (h0 : J 0 W) :
    CallsIn Fence.wide n Tryd.prog 23 #[.func (.yield l) #[] #[], .pointer (some ⟨Bs, 0, none⟩)] W fun e W' => (∃ v, e = .returned v) ∧
      (J (expn c).length W' ∨ (∃ k, k ≤ (expn c).length ∧ Jx k W')) := by
  refine callsIn_of_wp Tryd.func23 rfl trivial ?_ rfl
  simp only [Tryd.ntmps23, List.size_toArray, List.length_cons, List.length_nil, Nat.reduceAdd, Nat.reduceSub, Array.replicate_succ, Array.replicate_zero, List.push_toArray, List.append_toArray, List.nil_append, List.cons_append]
  have hV : Kd.V k46 46 W W.heap.size (fun k => k < w0.heap.size) (.slice A lw.length cp) lw := Kd.V_mk hcp (Kd.F_below (Kd.C_F k46_heap hC) h0W)
  gi_wp2_with (refine ⟨trivial, ?_⟩; gi_at_call 20; refine (callsIn_wide.2 (wave_Wave_Clean.calls K _ A cp lw c _ hV hclean)).mono ?_; rintro e w1 ⟨v, rfl, hR, hb⟩; obtain ⟨Av, cv, rfl, hcv, hCc⟩ := Kd.R_reads hR; clear hCc)
  have hJ1 : J 0 w1 := hJ 0 W w1 none h0 (grown_of_below hb none) (fun r e => by cases e)
  have hlt1 : W.heap.size ≤ w1.heap.size := hb.size
  gi_loopw [3, 5, 9] (fun at_ bx i wr => ∃ k : Nat, k ≤ c.length ∧ i = .int .i64 k ∧ at_ = .int .i64 (begins c k) ∧ J (begins c k) wr ∧ Kd.R k46 46 wr W.heap.size (fun k_ => W.heap.size ≤ k_) (.slice Av c.length cv) c ∧ W.heap.size ≤ wr.heap.size)
    (fun _ _ i _ => c.length - (intOf i).toNat)
  case atStart => exact ⟨0, Nat.zero_le _, rfl, by simp [begins, expn], by simpa [begins, expn] using hJ1, hR, hlt1⟩
  case round =>
    obtain ⟨k, hk, rfl, rfl, hJr, hRr, hsz⟩ := hrel
    obtain ⟨wo, rfl⟩ : ∃ wo : World, wo = wr := ⟨_, rfl⟩
    by_cases hlt : k < c.length
    · have hr1 := hc c[k] (List.getElem_mem hlt)
      obtain ⟨ad, ead, hx0, hx1⟩ := at_T46 (Kd.R_reads' hRr).2.2 (k : Int) (by omega) (by omega)
      cases ead
      rw [rd_T46_at c k hlt] at hx0 hx1
      rw [Int.toNat_natCast] at hx0 hx1
      have hbl := begins_le c (k + 1)
      have hbs := begins_succ c k hlt
      have htk := tick_in c k
      obtain ⟨T, hT⟩ : ∃ T : Nat, c[k].f1 = (T : Int) := ⟨c[k].f1.toNat, by omega⟩
      rw [hT] at hx1 hbs
      rw [Int.toNat_natCast] at hbs
      have htk : ∀ t, t < T → tk c (begins c k + t) = c[k].f0 := fun t ht => htk t hlt (by rw [hT, Int.toNat_natCast]; exact ht)
      generalize c[k].f0 = L at hx0 htk
      have hTb : T ≤ 1048576 := by omega
      have HT := Aside0.mk htk
      have HB := Aside0.mk hbs
      clear htk hbs hT hr1
      gi_wp2
      gi_loopw [3, 15] (fun at_ j wq => ∃ t m : Nat, t ≤ T ∧ j = .int .i64 t ∧ at_ = .int .i64 m ∧ Aside0 (m = begins c k + t) ∧ J m wq ∧ Kd.R k46 46 wq W.heap.size (fun k_ => W.heap.size ≤ k_) (.slice (some ad) c.length cv) c ∧ wq.heap[wo.heap.size]? = some (.cells #[.int .u8 L, .int .i64 T] 46 (0, 0)) ∧ W.heap.size ≤ wq.heap.size)
        (fun _ j _ => T - (intOf j).toNat)
      case atStart => exact ⟨0, begins c k, Nat.zero_le _, rfl, rfl, ⟨rfl⟩, hJ _ wo _ none hJr (World.grownBy_alloc wo _ none) (fun r e => by cases e), Kd.R_alloc hRr _, World.alloc_heap_new wo _, by simp; omega⟩
      case round =>
        obtain ⟨t, m, ht, rfl, rfl, HM, hJq, hRq, hbq, hsq⟩ := hrel
        have hq0 : wr.cell? ⟨wo.heap.size, 0, none⟩ = some (.int .u8 L) := (blk_cell hbq 0).trans rfl
        have HQ := Aside0.mk hbq
        clear hbq
        have HBt := HB.out
        by_cases htl : t < T
        · have hle : m + 1 ≤ (expn c).length := by have := HM.out; omega
          obtain ⟨fn, tmps, assign, body, hy, hRd⟩ := hY m wr hJq (by omega)
          have hm : tk c m = L := by rw [HM.out]; exact HT.out t htl
          rw [hm] at hy
          clear HBt hm
          gi_wp2
          refine hRd.mono ?_
          rintro e W3 (⟨rfl, hJ3, hk3⟩ | ⟨rfl, hJx3⟩)
          · have hR3 := R_kp hRq hk3
            have hb3 := blk_kp HQ.out hk3
            have hs3 := hk3.1
            gi_wp2
            go_roundw
            case rel => exact ⟨t + 1, m + 1, by omega, by simp, by simp, ⟨by have := HM.out; omega⟩, hJ3, hR3, hb3, by omega⟩
            case measure => simp [intOf]; omega
          · gi_wp2
            refine bodyPost_ret (results_none rfl _ _ _) rfl ?_
            exact ⟨⟨_, rfl⟩, .inr ⟨m + 1, hle, hJx3⟩⟩
        · obtain rfl : t = T := by omega
          clear HBt
          gi_wp2
          go_roundw
          case rel => exact ⟨k + 1, by omega, by simp, by rw [HB.out, HM.out], by rw [HB.out, ← HM.out]; exact hJq, hRq, hsq⟩
          case measure => simp [intOf]; omega
    · obtain rfl : k = c.length := by omega
      have he := begins_all c
      rw [he] at hJr
      have HE := Aside0.mk he
      clear he
      gi_wp2
      go_end0
      exact ⟨⟨_, rfl⟩, .inl hJr⟩

set_option maxHeartbeats 1000000 in
theorem ticks_in (n : Nat) (A : Option Addr) (len cap : Nat) (w : World) :
    CallsIn Fence.wide n Tryd.prog 11 #[.slice A len cap] w fun e w' => e = .returned (.func (.func 23) #[] #[.pointer (some ⟨w.heap.size, 0, none⟩)]) ∧ w' = w.alloc (.cells #[.slice A len cap] 23) := by
  refine callsIn_of_wp Tryd.func11 rfl trivial ?_ rfl
  simp only [Tryd.ntmps11, List.size_toArray, List.length_cons, List.length_nil, Nat.reduceAdd, Nat.reduceSub, Array.replicate_succ, Array.replicate_zero, List.push_toArray, List.append_toArray, List.nil_append, List.cons_append]
  gi_wp2
  go_ret
  exact ⟨rfl, rfl⟩

abbrev encT (c : List S46) (x : Fin (expn c).length) : Array Value := #[.int .i64 ((x.1 : Nat) : Int), .int .u8 (tk c x.1)]
theorem fins_succ (n k : Nat) (h : k < n) : (List.finRange n).take (k + 1) = (List.finRange n).take k ++ [⟨k, h⟩] := by
  rw [List.take_succ_eq_append_getElem (by simpa using h)]; simp
theorem fins_all (n : Nat) : (List.finRange n).take n = List.finRange n := by rw [List.take_of_length_le (by simp)]
theorem fins_map (c : List S46) : (List.finRange (expn c).length).map (fun i => tk c i.1) = expn c := by
  apply List.ext_getElem
  · simp
  · intro i h1 h2; simp [tk, List.getD_eq_getElem?_getD, h2]

/-- Ticks hands back a value that goes through the ticks in order, and stops where it is told to. -/
theorem ticks_stops (n Bs : Nat) (hn : 1 ≤ n) (A : Option Addr) (cp : Nat) (lw c : List S46) (K : Nat) (w0 w : World)
    (hclean : wave_Wave_Clean.f K lw = some c) (hc : ∀ r ∈ c, 1 ≤ r.f1) (hlen : (expn c).length ≤ 1048576) (hcl : c.length ≤ 1048576)
    (hC : Kd.C k46 w0 A lw.length lw) (hcp : lw.length ≤ cp) (h0w : Below w0.heap.size w0 w) (hBs : Bs < w.heap.size) (hcell : w.cell? ⟨Bs, 0, none⟩ = some (.slice A lw.length cp)) :
    SeqStopsK Fence.wide n Tryd.prog 23 #[.pointer (some ⟨Bs, 0, none⟩)] (encT c) KpB (fun ys => ys = List.finRange (expn c).length) (fun pre => ∃ k, k ≤ (expn c).length ∧ pre = (List.finRange (expn c).length).take k) (expn c).length w :=
  fun l J Jx W hW hJ _ hY h0 => by
    refine (ticks1_in n l Bs hn A cp lw c K w0 hclean hc hlen hcl hC hcp (fun k => J ((List.finRange (expn c).length).take k)) (fun k => Jx ((List.finRange (expn c).length).take k)) W (h0w.trans (hW.mono h0w.size))
      (fun k A B row h hg hr => hJ _ A B row h hg hr) ?_ ((hW.cell (p := ⟨Bs, 0, none⟩) hBs).trans hcell) (by simpa using h0)).mono ?_
    · intro k W1 hJk hk
      have := hY ((List.finRange (expn c).length).take k) ⟨k, hk⟩ W1 hJk (by simp; omega)
      rw [← fins_succ _ k hk] at this
      exact this
    · rintro e W' ⟨he, h | ⟨k, hk, h⟩⟩
      · rw [fins_all] at h
        exact ⟨he, .inl ⟨_, rfl, h⟩⟩
      · exact ⟨he, .inr ⟨_, ⟨k, hk, rfl⟩, h⟩⟩

/-- How many ticks of a list are high. -/
def highs (line : Int) (l : List Int) : Nat := l.countP (fun x => wires_Lines_High.f x line == some true)
theorem highs_snoc (line : Int) (l : List Int) (x : Int) (b : Bool) (h : wires_Lines_High.f x line = some b) : highs line (l ++ [x]) = highs line l + (if b = true then 1 else 0) := by
  unfold highs
  rw [List.countP_append, List.countP_singleton, h]
  cases b <;> simp
theorem highs_le (line : Int) (l : List Int) : highs line l ≤ l.length := List.countP_le_length
def ticksOf (c : List S46) (l : List (Fin (expn c).length)) : List Int := l.map (fun i => tk c i.1)
theorem ticksOf_snoc (c : List S46) (l : List (Fin (expn c).length)) (x : Fin (expn c).length) : ticksOf c (l ++ [x]) = ticksOf c l ++ [tk c x.1] := by simp [ticksOf]
theorem ticksOf_length (c : List S46) (l : List (Fin (expn c).length)) : (ticksOf c l).length = l.length := by simp [ticksOf]

set_option maxRecDepth 100000 in
set_option maxHeartbeats 4000000 in
theorem high_in (A : Option Addr) (cp : Nat) (lw c : List S46) (K : Nat) (line : Int) (w : World)
    (hclean : wave_Wave_Clean.f K lw = some c) (hc : ∀ r ∈ c, 1 ≤ r.f1) (hlen : (expn c).length ≤ 1048576) (hcl : c.length ≤ 1048576)
    (hH : ∀ x : Int, ∃ b, wires_Lines_High.f x line = some b) (hC : Kd.C k46 w A lw.length lw) (hcp : lw.length ≤ cp) :
    CallsIn Fence.wide 3 Tryd.prog 15 #[.slice A lw.length cp, .int .i64 line] w fun e w' => e = .returned (.int .i64 ((highs line (expn c) : Nat) : Int)) ∧ Below w.heap.size w w' := by
  refine callsIn_of_wp_marks Tryd.func15 rfl trivial ?_ rfl
  simp only [Tryd.ntmps15, List.size_toArray, List.length_cons, List.length_nil, Nat.reduceAdd, Nat.reduceSub, Array.replicate_succ, Array.replicate_zero, List.push_toArray, List.append_toArray, List.nil_append, List.cons_append]
  gi_wp2_with (refine ⟨trivial, ?_⟩; gi_at_call 11; refine (ticks_in _ _ _ _ _).mono ?_; rintro e w' ⟨rfl, rfl⟩)
  have bL := Boxed.new w 3 (.int .i64 line)
  have bN := Boxed.new (w.alloc (.cells #[.int .i64 line] 3)) 3 (.int .i64 0)
  have bW := Boxed.new ((w.alloc (.cells #[.int .i64 line] 3)).alloc (.cells #[.int .i64 0] 3)) 23 (.slice A lw.length cp)
  rw [World.size_alloc] at bN bW
  rw [World.size_alloc] at bW
  have hB0 : Below w.heap.size w (((w.alloc (.cells #[.int .i64 line] 3)).alloc (.cells #[.int .i64 0] 3)).alloc (.cells #[.slice A lw.length cp] 23)) := (((Below.refl _ w).alloc (Nat.le_refl _) _).alloc (by simp) _).alloc (by simp; omega) _
  refine wpIn_rangeFunc_ownG rfl (by omega) (gf := 23) (lb := #[.pointer (some ⟨w.heap.size + 1 + 1, 0, none⟩)]) rfl trivial (enters_of Tryd.func23 (by kernel_rfl) rfl)
    (ticks_stops _ (w.heap.size + 1 + 1) (by omega) A cp lw c K w _ hclean hc hlen hcl hC hcp hB0 (by simp) bW.cell) KpB.trans (fun W l o o' _ ho hc _ => KpB.put W l o o' ho hc) (Below.refl _ _) (fun _ => rfl)
    (fun pre W => (Boxed W w.heap.size 3 (.int .i64 line) ∧ Boxed W (w.heap.size + 1) 3 (.int .i64 ((highs line (ticksOf c pre) : Nat) : Int))) ∧ Below w.heap.size w W)
    (fun _ _ _ => False)
    (OwnFrom.and (Own.from (fun s A B row hs hg hr => ⟨hs.1.kept hg (fun e => by obtain ⟨o, ho, hc⟩ := hr _ e.symm; rw [show A.heap[w.heap.size]? = _ from hs.1] at ho; cases ho; cases hc), hs.2.kept hg (fun e => by obtain ⟨o, ho, hc⟩ := hr _ e.symm; rw [show A.heap[w.heap.size + 1]? = _ from hs.2] at ho; cases ho; cases hc)⟩) _) (ownFrom_below (Nat.le_refl _) (by simp; omega)))
    (fun _ _ _ _ _ hs _ _ => hs)
    ⟨⟨(bL.alloc _).alloc _, bN.alloc _⟩, hB0⟩ ?a1 ?assign ?body ?done ?stop
  case assign =>
    intro l x W K' hK
    gi_wp2
    exact hK
  case body =>
    rintro l pre x W ⟨⟨hcl1, hcn⟩, hB⟩ hlt
    have hc1 := hcl1.cell
    have hc2 := hcn.cell
    obtain ⟨b, hb⟩ := hH (tk c x.1)
    have hle := highs_le line (ticksOf c pre)
    rw [ticksOf_length] at hle
    have hf2 := hcn.frozen
    have hs := highs_snoc line (ticksOf c pre) (tk c x.1) b hb
    rw [← ticksOf_snoc] at hs
    gi_wp2_with (refine ⟨trivial, ?_⟩; gi_at_call 28; refine (CallsIn.inRound l (callsIn_wide.2 (wires_Lines_High.calls (tk c x.1) line b _ hb))).mono ?_; rintro e w3 ⟨rfl, ⟨nd, rfl⟩⟩)
    · obtain rfl : b = true := by assumption
      have hcn' : Boxed (W.drewN nd) (w.heap.size + 1) 3 (.int .i64 ((highs line (ticksOf c pre) : Nat) : Int)) := hcn
      have hcl' : Boxed (W.drewN nd) w.heap.size 3 (.int .i64 line) := hcl1
      refine ⟨((keeps_drewN W nd).trans (KeepsOthers.setCell _ _ _)).from _, (KpB.drewN W nd).trans (KpB.set hcn' (by decide) _), ⟨hcl'.kept (grownBy_setCell' _ _ _) (by simp), ?_⟩, (pw_below_drewN hB nd).setCell (p := ⟨w.heap.size + 1, 0, none⟩) (Nat.le_succ _) _⟩
      have := hcn'.set (.int .i64 ((highs line (ticksOf c pre) : Nat) + 1 : Int))
      rw [hs]
      simpa using this
    · obtain rfl : b = false := by assumption
      refine ⟨(keeps_drewN W nd).from _, KpB.drewN W nd, ⟨hcl1, ?_⟩, pw_below_drewN hB nd⟩
      rw [hs]
      simpa using (show Boxed (W.drewN nd) (w.heap.size + 1) 3 (.int .i64 ((highs line (ticksOf c pre) : Nat) : Int)) from hcn)
  case done =>
    rintro D ys W hD rfl ⟨⟨hcl1, hcn⟩, hB⟩ hK
    have hc2 := hcn.cell
    rw [show ticksOf c (List.finRange (expn c).length) = expn c from fins_map c] at hc2
    gi_wp2
    refine ⟨by simp, .inl ⟨_, _, rfl, run_takeDeferred hK, ?_⟩⟩
    exact ⟨_, results_tmp rfl _ _ _, rfl, hB.trans (belowK_b (w := w) (Nat.le_refl _) W D _ _ (by simp at hD; omega) hK rfl rfl)⟩
  case stop =>
    rintro D c pre W _ _ h _
    exact h.elim
end Go.Proofs.YtelokdkifkkggaaDoor.QW

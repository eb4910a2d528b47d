/- Plain laws for WavePicture: what Cut comes to; the picture, sign by sign. -/
import Derived.Test.YtelokdkifkkggaaDoorQV
namespace Go.Proofs.YtelokdkifkkggaaDoor.QW
open Go.RowKit Go.Shelf Go.Proofs.YtelokdkifkkggaaDoorW.PrintWords Go.Proofs.YtelokdkifkkggaaDoorW.PrintLast Go.Proofs.YtelokdkifkkggaaDoorW.PrintMore
set_option linter.unusedVariables false
set_option linter.unusedSimpArgs false

theorem mn_eq (a b : Int) : mn a b = min a b := by unfold mn; split <;> omega
theorem Cln.rawn {l : List S46} {long : Int} (h : Cln l long) : QW.rawn l = expn l := by
  have : ∀ l : List S46, (∀ r ∈ l, 1 ≤ r.f1 ∧ 0 ≤ r.f0 ∧ r.f0 ≤ 15) → QW.rawn l = expn l := by
    intro l
    induction l with
    | nil => intro _; rfl
    | cons r l ih =>
      intro hr
      have h1 := hr r List.mem_cons_self
      have h2 := ih (fun x hx => hr x (List.mem_cons_of_mem _ hx))
      rw [rawn_cons, h2]
      simp only [expn, List.flatMap_cons]
      rw [show max r.f1 0 = r.f1 by omega, show r.f0 % 16 = r.f0 by omega]
  exact this l h.run
/-- What a cut holds when the first i runs are through. -/
structure CutHeld (c : List S46) (f t : Int) (i : Nat) (x7 : List S46) (x9 : Int) : Prop where
  cln : Cln x7 x9
  eq : expn x7 = ((expn (c.take i)).take t.toNat).drop f.toNat
theorem take_drop_snoc (A : List Int) (n : Nat) (L : Int) (t f : Nat) :
    ((A ++ List.replicate n L).take t).drop f = (A.take t).drop f ++ List.replicate (min (A.length + n) t - max A.length f) L := by
  rw [List.take_append, List.take_replicate, List.drop_append, List.drop_replicate, List.length_take]
  congr 2
  omega
theorem cut_l0 (c : List S46) (long : Int) (hc : Cln c long) (f t : Int) (hf : 0 ≤ f) (ht : 0 ≤ t) (hf2 : f < 4611686018427387904) (ht2 : t < 4611686018427387904) :
    ∀ (d i : Nat) (x7 : List S46) (x9 : Int), i + d = c.length → CutHeld c f t i x7 x9 →
    ∃ x7' x9', CutHeld c f t c.length x7' x9' ∧ ∀ k, wave_Wave_Cut.l0 (k + d + 1) f t x7 ((begins c i : Nat) : Int) x9 c (c.length : Int) (i : Int) = some x7'
  | 0, i, x7, x9, hi, h => by
    obtain rfl : i = c.length := by omega
    exact ⟨x7, x9, h, fun k => by rw [wave_Wave_Cut.l0, if_neg (by omega)]⟩
  | d + 1, i, x7, x9, hi, h => by
    have hlt : i < c.length := by omega
    have hr := hc.run c[i] (List.getElem_mem hlt)
    have hs := hc.short
    have hbl := begins_le c (i + 1)
    have hbs := begins_succ c i hlt
    have hlen := hc.len
    have hle := hc.le
    have hL0 : 0 ≤ x9 := by have := h.cln.len; omega
    have hL1 := h.cln.le
    obtain ⟨y7, y9, hp, hy, hye, hy9, _⟩ := put_spec x7 c[i].f0 (min ((begins c i : Nat) + c[i].f1) t - max ((begins c i : Nat) : Int) f) x9 h.cln (by omega) (by omega)
    have hnext : CutHeld c f t (i + 1) y7 y9 := by
      refine ⟨hy, ?_⟩
      have he : expn (c.take (i + 1)) = expn (c.take i) ++ List.replicate c[i].f1.toNat c[i].f0 := by
        rw [List.take_succ_eq_append_getElem hlt, expn_append]; simp [expn]
      have hx9 : x9 = (((expn (c.take i)).take t.toNat).drop f.toNat).length := by rw [← h.eq]; exact h.cln.len
      rw [List.length_drop, List.length_take] at hx9
      rw [he, take_drop_snoc, hye, h.eq, show c[i].f0 % 16 = c[i].f0 by omega]
      congr 2
      have hb : begins c i = (expn (c.take i)).length := rfl
      rw [clip_eq _ _ hL0 hL1]
      omega
    obtain ⟨z7, z9, hz, hk⟩ := cut_l0 c long hc f t hf ht hf2 ht2 d (i + 1) y7 y9 (by omega) hnext
    refine ⟨z7, z9, hz, fun k => ?_⟩
    have e1 : wrap64 (((begins c i : Nat) : Int) + c[i].f1) = ((begins c (i + 1) : Nat) : Int) := by rw [w64 (by omega) (by omega)]; omega
    rw [show k + (d + 1) + 1 = (k + d + 1) + 1 by omega, wave_Wave_Cut.l0, if_pos (by omega), if_pos (by omega), if_pos (by omega), rd_T46_at c i hlt, e1, mn_eq, mx_eq,
      w64 (x := min _ _ - max _ _) (by omega) (by omega), show ((begins c (i + 1) : Nat) : Int) = (begins c i : Nat) + c[i].f1 by omega, hp, Option.bind_some, w64 (by omega) (by omega),
      show ((begins c i : Nat) : Int) + c[i].f1 = ((begins c (i + 1) : Nat) : Int) by omega]
    exact hk k
/-- Cut from at to e, both within the wave. -/
theorem cut_spec (l c : List S46) (long : Int) (hl : ∀ r ∈ l, 0 ≤ r.f0 ∧ r.f0 < 256) (hn : l.length < 4611686018427387904) (hc : Cln c long) (he : expn c = (QW.rawn l).take 1048576) (hk : ∀ k, wave_Wave_Clean.f (k + l.length + 3) l = some c)
    (a e : Nat) (hae : a ≤ e) (heN : e ≤ (expn c).length) :
    ∃ x long', Cln x long' ∧ expn x = ((expn c).take e).drop a ∧ ∀ k, l.length + c.length + 10 ≤ k → wave_Wave_Cut.f k l a e = some x := by
  have hle := hc.le
  have hlen := hc.len
  obtain ⟨x, x9, hx, hk2⟩ := cut_l0 c long hc (max (a : Int) 0) (min (max (e : Int) 0) ((expn c).length : Int)) (by omega) (by omega) (by omega) (by omega) c.length 0 [] 0 (by omega) ⟨⟨by simp, by simp [expn], by decide⟩, by simp [expn]⟩
  refine ⟨x, x9, hx.cln, ?_, fun k hk' => ?_⟩
  · rw [hx.eq, List.take_length]
    rw [show (min (max (e : Int) 0) ((expn c).length : Int)).toNat = e by omega, show (max (a : Int) 0).toNat = a by omega]
  · have hL := long_spec l hn (k - l.length - 1)
    rw [show k - l.length - 1 + l.length + 1 = k by omega, long_take, ← he] at hL
    have h2 := hk (k - l.length - 3)
    rw [show k - l.length - 3 + l.length + 3 = k by omega] at h2
    unfold wave_Wave_Cut.f
    rw [hL, Option.bind_some, h2, Option.bind_some, mx_eq, mx_eq, mn_eq]
    have := hk2 (k - c.length - 1)
    rw [show k - c.length - 1 + c.length + 1 = k by omega] at this
    exact this

/-! ### The picture -/
def endOf (per N at_ : Nat) : Nat := min per (N - at_) + at_
def seg (T : List Int) (a e : Nat) : List Int := (T.take e).drop a
def sgn (T : List Int) (per : Nat) (line : Int) (at_ : Nat) : UInt8 :=
  if highs line (seg T at_ (endOf per T.length at_)) = 0 then 46 else if highs line (seg T at_ (endOf per T.length at_)) = endOf per T.length at_ - at_ then 35 else 43
def rowFrom (T : List Int) (per : Nat) (line : Int) : Nat → Nat → List UInt8
  | 0, _ => []
  | f + 1, at_ => if at_ < T.length then sgn T per line at_ :: rowFrom T per line f (endOf per T.length at_) else []
def rowOf (T : List Int) (per : Nat) (line : Int) : List UInt8 := rowFrom T per line T.length 0
def rowsUpto (T : List Int) (per : Nat) (j : Nat) : List UInt8 := (List.range j).flatMap fun (i : Nat) => rowOf T per (i : Int) ++ [10]
theorem rowsUpto_succ (T : List Int) (per : Nat) (j : Nat) : rowsUpto T per (j + 1) = rowsUpto T per j ++ (rowOf T per (j : Int) ++ [10]) := by simp [rowsUpto, List.range_succ]
theorem seg_length (T : List Int) (per at_ : Nat) (h : at_ ≤ T.length) : (seg T at_ (endOf per T.length at_)).length = endOf per T.length at_ - at_ := by
  unfold seg endOf
  rw [List.length_drop, List.length_take]
  omega
theorem high_some (line x : Int) : ∃ b, wires_Lines_High.f x line = some b := by
  unfold wires_Lines_High.f wires_is.f
  by_cases h : line ≥ 0
  · rw [if_pos h, Option.bind_some]
    by_cases h3 : line ≤ 3
    · rw [if_pos (by simpa using h3), if_pos (by omega)]; exact ⟨_, rfl⟩
    · rw [if_neg (by simpa using h3)]; exact ⟨_, rfl⟩
  · rw [if_neg h, Option.bind_some, if_neg (by simp)]; exact ⟨_, rfl⟩
theorem rowFrom_length (T : List Int) (per : Nat) (line : Int) : ∀ f a, (rowFrom T per line f a).length ≤ f
  | 0, _ => Nat.le_refl _
  | f + 1, a => by
    unfold rowFrom
    split
    · have := rowFrom_length T per line f (endOf per T.length a)
      simp; omega
    · simp
theorem rowOf_length (T : List Int) (per : Nat) (line : Int) : (rowOf T per line).length ≤ T.length := rowFrom_length T per line _ _
theorem rowsUpto_length (T : List Int) (per : Nat) : ∀ j, (rowsUpto T per j).length ≤ j * (T.length + 1)
  | 0 => by simp [rowsUpto]
  | j + 1 => by
    have := rowsUpto_length T per j
    have h2 := rowOf_length T per j
    rw [rowsUpto_succ, List.length_append, List.length_append, Nat.add_mul]
    simp; omega
theorem few_l0_le (l : List S46) (hn : l.length < 4611686018427387904) : ∀ (d i : Nat) (n : Int), i + d = l.length → 0 ≤ n → n ≤ 3000 →
    ∃ m, (∀ k, busbarlaw37_Few.l0 (k + d + 1) l n (i : Int) = some m) ∧ (m ≠ 0 → n + ((rawn (l.drop i)).length : Nat) ≤ 3000)
  | 0, i, n, hi, _, _ => ⟨1, fun k => by rw [busbarlaw37_Few.l0, if_neg (by omega)], fun _ => by rw [List.drop_eq_nil_of_le (by omega)]; simp [rawn]; omega⟩
  | d + 1, i, n, hi, h0, h1 => by
    have hlt : i < l.length := by omega
    by_cases hA : l[i].f1 > 3000
    · exact ⟨0, fun k => by rw [show k + (d + 1) + 1 = (k + d + 1) + 1 by omega, busbarlaw37_Few.l0, if_pos (by omega), if_pos (by omega), rd_T46_at l i hlt, if_pos hA], fun h => absurd rfl h⟩
    · have hw : wrap64 (n + mx l[i].f1 0) = n + max l[i].f1 0 := by rw [mx_eq]; exact w64 (by omega) (by omega)
      by_cases hB : n + max l[i].f1 0 > 3000
      · exact ⟨0, fun k => by rw [show k + (d + 1) + 1 = (k + d + 1) + 1 by omega, busbarlaw37_Few.l0, if_pos (by omega), if_pos (by omega), rd_T46_at l i hlt, if_neg hA, hw, if_pos hB], fun h => absurd rfl h⟩
      · obtain ⟨m, hm, hm2⟩ := few_l0_le l hn d (i + 1) (n + max l[i].f1 0) (by omega) (by omega) (by omega)
        refine ⟨m, fun k => by rw [show k + (d + 1) + 1 = (k + d + 1) + 1 by omega, busbarlaw37_Few.l0, if_pos (by omega), if_pos (by omega), rd_T46_at l i hlt, if_neg hA, hw, if_neg hB, w64 (by omega) (by omega)]; exact hm k, fun h => ?_⟩
        have := hm2 h
        rw [List.drop_eq_getElem_cons hlt, rawn_cons, List.length_append, List.length_replicate]
        omega
theorem few_le (l : List S46) (hn : l.length < 4611686018427387904) : ∃ m, (∀ k, l.length + 1 ≤ k → busbarlaw37_Few.f k l = some m) ∧ (m ≠ 0 → (rawn l).length ≤ 3000) := by
  unfold busbarlaw37_Few.f
  by_cases h : (l.length : Int) > 200
  · exact ⟨0, fun k _ => by rw [if_pos h], fun h => absurd rfl h⟩
  · obtain ⟨m, hm, hm2⟩ := few_l0_le l hn l.length 0 0 (by omega) (by omega) (by omega)
    rw [List.drop_zero] at hm2
    exact ⟨m, fun k hk => by rw [if_neg h, show k = (k - l.length - 1) + l.length + 1 by omega]; exact hm _, fun h => by have := hm2 h; omega⟩
end Go.Proofs.YtelokdkifkkggaaDoor.QW

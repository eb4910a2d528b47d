/- Plain laws on the printed functions of package wave: what Clean, Text, Long, run and Parse come to; no condition but those that each theorem names. -/
import Derived.Test.YtelokdkifkkggaaDoorQWx6
namespace Go.Proofs.YtelokdkifkkggaaDoor.QW
open Go.RowKit Go.Proofs.YtelokdkifkkggaaDoorW.PrintWords Go.Proofs.YtelokdkifkkggaaDoorW.PrintLast Go.Proofs.YtelokdkifkkggaaDoorW.PrintMore

theorem w64 {x : Int} (h0 : -9223372036854775808 ≤ x) (h1 : x < 9223372036854775808) : wrap64 x = x := by unfold wrap64; omega

/-! ### put -/
def clip (T long : Int) : Int := mn (mx T 0) (wrap64 (1048576 - long))
theorem clip_eq (T long : Int) (h0 : 0 ≤ long) (h1 : long ≤ 1048576) : clip T long = min (max T 0) (1048576 - long) := by
  unfold clip mn mx
  rw [w64 (by omega) (by omega)]
  split <;> split <;> omega
def expn (l : List S46) : List Int := l.flatMap fun r => List.replicate r.f1.toNat r.f0
structure Cln (l : List S46) (long : Int) : Prop where
  run : ∀ r ∈ l, 1 ≤ r.f1 ∧ 0 ≤ r.f0 ∧ r.f0 ≤ 15
  len : long = (expn l).length
  le : long ≤ 1048576
theorem expn_append (a b : List S46) : expn (a ++ b) = expn a ++ expn b := by simp [expn]
theorem length_expn : ∀ (l : List S46), (∀ r ∈ l, 1 ≤ r.f1) → l.length ≤ (expn l).length
  | [], _ => Nat.zero_le _
  | r :: l, h => by
    have h1 := length_expn l (fun x hx => h x (List.mem_cons_of_mem _ hx))
    have h2 := h r List.mem_cons_self
    simp only [expn, List.flatMap_cons, List.length_append, List.length_replicate, List.length_cons]
    have : (List.flatMap (fun r => List.replicate r.f1.toNat r.f0) l).length = (expn l).length := rfl
    omega
theorem Cln.short {l : List S46} {long : Int} (h : Cln l long) : l.length ≤ 1048576 := by
  have h1 := length_expn l (fun r hr => (h.run r hr).1)
  have := h.len; have := h.le
  omega
theorem and15 (L : Int) (h0 : 0 ≤ L) (h1 : L < 256) : Go.bits .and .u8 L 15 = L % 16 := u8_and15 (x := L) h0 h1
theorem put_spec (l : List S46) (L T long : Int) (hc : Cln l long) (h0 : 0 ≤ L) (h1 : L < 256) :
    ∃ l' long', wave_Wave_put.f l L T long = some (l', long') ∧ Cln l' long' ∧ expn l' = expn l ++ List.replicate (clip T long).toNat (L % 16) ∧ long' = long + clip T long ∧ (0 < clip T long → l' ≠ []) ∧ (l ≠ [] → l' ≠ []) := by
  have hl0 : 0 ≤ long := by have := hc.len; omega
  have hl1 := hc.le
  have hcl := clip_eq T long hl0 hl1
  have hs := hc.short
  unfold wave_Wave_put.f
  rw [show mn (mx T 0) (wrap64 (1048576 - long)) = clip T long from rfl, and15 L h0 h1]
  generalize hcc : clip T long = t at *
  have ht0 : 0 ≤ t := by omega
  have ht1 : long + t ≤ 1048576 := by omega
  by_cases hz : t = 0
  · rw [if_pos hz]
    subst hz
    exact ⟨l, long, rfl, hc, by simp, by omega, fun h => absurd h (by omega), fun h => h⟩
  · rw [if_neg hz, w64 (x := long + t) (by omega) (by omega)]
    have hnew : Cln (l ++ [(⟨L % 16, t⟩ : S46)]) (long + t) ∧ expn (l ++ [(⟨L % 16, t⟩ : S46)]) = expn l ++ List.replicate t.toNat (L % 16) := by
      have he : expn (l ++ [(⟨L % 16, t⟩ : S46)]) = expn l ++ List.replicate t.toNat (L % 16) := by rw [expn_append]; simp [expn]
      refine ⟨⟨fun r hr => ?_, ?_, ht1⟩, he⟩
      · rcases List.mem_append.1 hr with hr | hr
        · exact hc.run r hr
        · rw [List.mem_singleton.1 hr]
          exact ⟨by show 1 ≤ t; omega, by show 0 ≤ L % 16; omega, by show L % 16 ≤ 15; omega⟩
      · rw [he, List.length_append, List.length_replicate]
        have := hc.len
        omega
    have hadd : ∃ l' long', (if l.length < 8796093022208 then some (l ++ [(⟨L % 16, t⟩ : S46)], long + t) else none) = some (l', long') ∧ Cln l' long' ∧ expn l' = expn l ++ List.replicate t.toNat (L % 16) ∧ long' = long + t ∧ (0 < t → l' ≠ []) ∧ (l ≠ [] → l' ≠ []) := by
      rw [if_pos (by omega)]
      exact ⟨_, _, rfl, hnew.1, hnew.2, rfl, fun _ => by simp, fun _ => by simp⟩
    by_cases hp : (l.length : Int) > 0
    · rw [if_pos hp, w64 (x := (l.length : Int) - 1) (by omega) (by omega), if_pos (by omega), if_pos (by omega)]
      have hi : ((l.length : Int) - 1).toNat = l.length - 1 := by omega
      have hne : l ≠ [] := by rintro rfl; simp at hp
      obtain ⟨q, x, rfl⟩ : ∃ q x, l = q ++ [x] := ⟨l.dropLast, l.getLast hne, (List.dropLast_concat_getLast hne).symm⟩
      have hrd : rd_T46 (q ++ [x]) (((q ++ [x]).length : Int) - 1) = x := by
        unfold rd_T46
        rw [hi]; simp
      have hx := hc.run x (by simp)
      by_cases hf : (rd_T46 (q ++ [x]) (((q ++ [x]).length : Int) - 1)).f0 = L % 16
      · rw [if_pos hf]
        rw [hrd] at hf ⊢
        have hxl : x.f1 ≤ 1048576 := by
          have h2 := hc.len
          rw [expn_append, List.length_append] at h2
          simp only [expn, List.flatMap_cons, List.flatMap_nil, List.append_nil, List.length_replicate] at h2
          omega
        rw [w64 (x := x.f1 + t) (by omega) (by omega)]
        refine ⟨_, _, rfl, ?_⟩
        rw [hi]
        have hset : (q ++ [x]).set ((q ++ [x]).length - 1) (⟨x.f0, x.f1 + t⟩ : S46) = q ++ [(⟨x.f0, x.f1 + t⟩ : S46)] := by simp
        rw [hset]
        have he : expn (q ++ [(⟨x.f0, x.f1 + t⟩ : S46)]) = expn (q ++ [x]) ++ List.replicate t.toNat (L % 16) := by
          rw [expn_append, expn_append]
          simp only [expn, List.flatMap_cons, List.flatMap_nil, List.append_nil]
          rw [List.append_assoc, ← hf, List.replicate_append_replicate, show (x.f1 + t).toNat = x.f1.toNat + t.toNat by omega]
        refine ⟨⟨fun r hr => ?_, ?_, ht1⟩, he, rfl, fun _ => by simp, fun _ => by simp⟩
        · rcases List.mem_append.1 hr with hr | hr
          · exact hc.run r (List.mem_append_left _ hr)
          · rw [List.mem_singleton.1 hr]
            exact ⟨by show 1 ≤ x.f1 + t; omega, hx.2⟩
        · rw [he, List.length_append, List.length_replicate]
          have := hc.len
          omega
      · rw [if_neg hf]; exact hadd
    · rw [if_neg hp]; exact hadd

/-! ### Clean -/
def rawn (l : List S46) : List Int := l.flatMap fun r => List.replicate (max r.f1 0).toNat (r.f0 % 16)
theorem rawn_append (a b : List S46) : rawn (a ++ b) = rawn a ++ rawn b := by simp [rawn]
theorem take_snoc_replicate (A : List Int) (n : Nat) (c : Int) (N : Nat) :
    (A ++ List.replicate n c).take N = A.take N ++ List.replicate (min n (N - A.length)) c := by
  rw [List.take_append, List.take_replicate, Nat.min_comm]
theorem rd_T46_at (l : List S46) (i : Nat) (h : i < l.length) : rd_T46 l (i : Int) = l[i] := by
  unfold rd_T46
  rw [Int.toNat_natCast, List.getD_eq_getElem?_getD, List.getElem?_eq_getElem h]; rfl
/-- What is held when the first i runs of l have been put. -/
structure Held (l : List S46) (i : Nat) (c : List S46) (long : Int) : Prop where
  cln : Cln c long
  eq : expn c = (rawn (l.take i)).take 1048576
theorem held_step {l : List S46} {i : Nat} {c : List S46} {long : Int} (h : Held l i c long) (hi : i < l.length) (h0 : 0 ≤ l[i].f0) (h1 : l[i].f0 < 256) :
    ∃ c' long', wave_Wave_put.f c l[i].f0 l[i].f1 long = some (c', long') ∧ Held l (i + 1) c' long' := by
  obtain ⟨c', long', hp, hc, he, hl, _⟩ := put_spec c l[i].f0 l[i].f1 long h.cln h0 h1
  refine ⟨c', long', hp, hc, ?_⟩
  rw [List.take_succ_eq_append_getElem hi, rawn_append, he, h.eq]
  have hr : rawn [l[i]] = List.replicate (max l[i].f1 0).toNat (l[i].f0 % 16) := by simp [rawn]
  have hlen := h.cln.len
  have hle := h.cln.le
  rw [h.eq, List.length_take] at hlen
  rw [hr, take_snoc_replicate]
  congr 2
  rw [clip_eq _ _ (by omega) hle]
  omega
theorem join_l1 (l : List S46) (hl : ∀ r ∈ l, 0 ≤ r.f0 ∧ r.f0 < 256) (hn : l.length < 4611686018427387904) (x9 : List (List S46)) (x10 x11 : Int) :
    ∀ (d i : Nat) (c : List S46) (long : Int), i + d = l.length → Held l i c long →
    ∃ c' long', Held l l.length c' long' ∧ ∀ k, wave_Join.l1 (k + d + 1) c long x9 x10 x11 l (l.length : Int) (i : Int) = wave_Join.l0 k c' long' x9 x10 (wrap64 (x11 + 1))
  | 0, i, c, long, hi, hh => by
    obtain rfl : i = l.length := by omega
    exact ⟨c, long, hh, fun k => by simp only [wave_Join.l1]; rw [if_neg (by omega)]⟩
  | d + 1, i, c, long, hi, hh => by
    have hlt : i < l.length := by omega
    have hr := hl l[i] (List.getElem_mem hlt)
    obtain ⟨c1, long1, hp, hh1⟩ := held_step hh hlt hr.1 hr.2
    obtain ⟨c', long', hh', hk⟩ := join_l1 l hl hn x9 x10 x11 d (i + 1) c1 long1 (by omega) hh1
    refine ⟨c', long', hh', fun k => ?_⟩
    rw [show k + (d + 1) + 1 = (k + d + 1) + 1 by omega]
    simp only [wave_Join.l1]
    rw [if_pos (by omega), if_pos (by omega), if_pos (by omega), rd_T46_at l i hlt, hp, Option.bind_some, w64 (by omega) (by omega)]
    exact hk k
theorem clean_spec (l : List S46) (hl : ∀ r ∈ l, 0 ≤ r.f0 ∧ r.f0 < 256) (hn : l.length < 4611686018427387904) :
    ∃ c long, Cln c long ∧ expn c = (rawn l).take 1048576 ∧ ∀ k, wave_Wave_Clean.f (k + l.length + 3) l = some c := by
  have h0 : Held l 0 [] 0 := ⟨⟨by simp, by simp [expn], by decide⟩, by simp [expn, rawn]⟩
  obtain ⟨c, long, hh, hk⟩ := join_l1 l hl hn [l] 1 0 l.length 0 [] 0 (by omega) h0
  refine ⟨c, long, hh.cln, by rw [hh.eq, List.take_length], fun k => ?_⟩
  unfold wave_Wave_Clean.f wave_Join.f
  rw [show k + l.length + 3 = (k + l.length + 2) + 1 by omega]
  simp only [wave_Join.l0]
  have hrd : rd_L3 [l] 0 = l := rfl
  rw [if_pos (by simp), if_pos (by omega), if_pos (by simp), hrd]
  have := hk (k + 1)
  rw [show k + 1 + l.length + 1 = k + l.length + 2 by omega] at this
  simp only [List.length_cons, List.length_nil, Int.natCast_add, Int.natCast_zero, Int.zero_add, Int.natCast_one] at this ⊢
  rw [this]
  simp only [wave_Join.l0]
  rw [if_neg (by rw [w64 (by decide) (by decide)]; decide)]; rfl

/-! ### digits, Text -/
theorem strOfNums_one (x : Int) : (strOfNums [x]).size = 1 := rfl
theorem digits_some : ∀ (m : Nat) (n : Int), 0 ≤ n → n < 10 ^ (m + 1) → n < 9223372036854775808 → m ≤ 1000 → ∃ d, d.size ≤ m + 1 ∧ ∀ k, wave_digits.f (k + m + 2) n = some d
  | 0, n, h0, h1, _, _ => by
    refine ⟨strOfNums [(wrap64 (48 + n)) % 256], by rw [strOfNums_one]; omega, fun k => ?_⟩
    rw [show k + 0 + 2 = (k + 1) + 1 from rfl, wave_digits.f, if_pos (by simpa using h1)]
  | m + 1, n, h0, h1, hb, hm => by
    by_cases hn : n < 10
    · refine ⟨strOfNums [(wrap64 (48 + n)) % 256], by rw [strOfNums_one]; omega, fun k => ?_⟩
      rw [show k + (m + 1) + 2 = (k + m + 2) + 1 by omega, wave_digits.f, if_pos hn]
    · have hq : n / 10 < 10 ^ (m + 1) := by
        have : (10 : Int) ^ (m + 1 + 1) = 10 ^ (m + 1) * 10 := Int.pow_succ ..
        omega
      obtain ⟨d, hd, hk⟩ := digits_some m (n / 10) (by omega) hq (by omega) (by omega)
      obtain ⟨e, he, hk2⟩ := digits_some 0 (n % 10) (by omega) (by simp; omega) (by omega) (by omega)
      refine ⟨d ++ e, by rw [ByteArray.size_append]; omega, fun k => ?_⟩
      have hk2 := hk2 (k + m)
      rw [show k + m + 0 + 2 = k + m + 2 from rfl] at hk2
      rw [show k + (m + 1) + 2 = (k + m + 2) + 1 by omega, wave_digits.f, if_neg hn, Int.tdiv_eq_ediv_of_nonneg h0, w64 (by omega) (by omega), hk k, Option.bind_some, Int.tmod_eq_emod_of_nonneg h0, hk2, Option.bind_some, if_pos (by omega)]
theorem join_len (sep : List UInt8) (B : Nat) : ∀ xs : List (List UInt8), (∀ x ∈ xs, x.length ≤ B) → (Lib.join xs sep).length ≤ xs.length * (B + sep.length)
  | [], _ => by simp [Lib.join]
  | [x], h => by
    have := h x (by simp)
    simp [Lib.join]
    omega
  | x :: y :: l, h => by
    have h1 := join_len sep B (y :: l) (fun z hz => h z (List.mem_cons_of_mem _ hz))
    have h2 := h x (by simp)
    have e : Lib.join (x :: y :: l) sep = x ++ (sep ++ Lib.join (y :: l) sep) := by simp [Lib.join, List.intercalate]
    rw [e, List.length_append, List.length_append, List.length_cons, Nat.add_mul]
    omega
def hexs : ByteArray := ⟨#[48, 49, 50, 51, 52, 53, 54, 55, 56, 57, 97, 98, 99, 100, 101, 102]⟩
theorem text_l0 (c : List S46) (hc : ∀ r ∈ c, 1 ≤ r.f1 ∧ r.f1 ≤ 1048576 ∧ 0 ≤ r.f0 ∧ r.f0 ≤ 15) (hn : c.length ≤ 1048576) :
    ∀ (d i : Nat) (x3 : List ByteArray), i + d = c.length → x3.length = i → (∀ x ∈ x3, x.size ≤ 40) →
    ∃ t, ∀ k, wave_Wave_Text.l0 (k + d + 10) x3 c (c.length : Int) (i : Int) = some t
  | 0, i, x3, hi, hx, hs => by
    have hno : ¬ ((i : Int) < (c.length : Int)) := by omega
    by_cases h0 : (x3.length : Int) = 0
    · exact ⟨⟨#[45]⟩, fun k => by rw [show k + 0 + 10 = (k + 9) + 1 from rfl, wave_Wave_Text.l0, if_neg hno, if_pos h0]⟩
    · have hl := join_len (⟨#[32]⟩ : ByteArray).data.toList 40 (x3.map (·.data.toList)) (by
        intro x hx'
        obtain ⟨y, hy, rfl⟩ := List.mem_map.1 hx'
        have := hs y hy
        rw [data_length]; exact this)
      rw [List.length_map] at hl
      have h1 : ((⟨#[32]⟩ : ByteArray).data.toList).length = 1 := rfl
      rw [h1] at hl
      refine ⟨⟨(Lib.join (x3.map (·.data.toList)) (⟨#[32]⟩ : ByteArray).data.toList).toArray⟩, fun k => ?_⟩
      rw [show k + 0 + 10 = (k + 9) + 1 from rfl, wave_Wave_Text.l0, if_neg hno, if_neg h0]
      unfold strings_Join.f
      rw [if_pos ⟨by omega, by omega⟩]
      rfl
  | d + 1, i, x3, hi, hx, hs => by
    have hlt : i < c.length := by omega
    have hr := hc c[i] (List.getElem_mem hlt)
    obtain ⟨dg, hd, hk⟩ := digits_some 6 c[i].f1 (by omega) (by have : (10 : Int) ^ (6 + 1) = 10000000 := rfl; omega) (by omega) (by omega)
    have hex : (hexs.extract c[i].f0.toNat ((c[i].f0 + 1) % 256).toNat).size ≤ 16 := by
      rw [ByteArray.size_extract]
      have : hexs.size = 16 := rfl
      omega
    have hone : (⟨#[120]⟩ : ByteArray).size = 1 := rfl
    obtain ⟨t, ht⟩ := text_l0 c hc hn d (i + 1) (x3 ++ [(dg ++ (⟨#[120]⟩ : ByteArray)) ++ hexs.extract c[i].f0.toNat ((c[i].f0 + 1) % 256).toNat]) (by omega) (by simp [hx]) (by
      intro x hx'
      rcases List.mem_append.1 hx' with hx' | hx'
      · exact hs x hx'
      · rw [List.mem_singleton.1 hx', ByteArray.size_append, ByteArray.size_append]
        omega)
    refine ⟨t, fun k => ?_⟩
    have hk := hk (k + d + 2)
    rw [show k + (d + 1) + 10 = (k + d + 10) + 1 by omega, wave_Wave_Text.l0, if_pos (by omega), if_pos (by omega), if_pos (by omega), rd_T46_at c i hlt,
      show k + d + 10 = k + d + 2 + 6 + 2 by omega, hk, Option.bind_some, if_pos (by omega), if_pos (by omega), if_pos (by omega), if_pos (by omega), if_pos (by rw [ByteArray.size_append]; have := hex; unfold hexs at this; omega), if_pos (by omega), w64 (by omega) (by omega)]
    exact ht k
theorem Cln.f1_le {l : List S46} {long : Int} (h : Cln l long) : ∀ r ∈ l, r.f1 ≤ 1048576 := by
  intro r hr
  obtain ⟨a, b, rfl⟩ := List.append_of_mem hr
  have h1 := h.len
  have h2 := h.le
  have : expn (a ++ r :: b) = expn a ++ (List.replicate r.f1.toNat r.f0 ++ expn b) := by rw [expn_append]; simp [expn]
  rw [this, List.length_append, List.length_append, List.length_replicate] at h1
  omega
theorem text_some (l : List S46) (hl : ∀ r ∈ l, 0 ≤ r.f0 ∧ r.f0 < 256) (hn : l.length < 4611686018427387904) : ∃ t K, ∀ k, K ≤ k → wave_Wave_Text.f k l = some t := by
  obtain ⟨c, long, hc, _, hk⟩ := clean_spec l hl hn
  obtain ⟨t, ht⟩ := text_l0 c (fun r hr => ⟨(hc.run r hr).1, hc.f1_le r hr, (hc.run r hr).2⟩) hc.short c.length 0 [] (by omega) rfl (by simp)
  refine ⟨t, l.length + c.length + 20, fun k hk' => ?_⟩
  unfold wave_Wave_Text.f
  rw [show k = (k - l.length - 3) + l.length + 3 by omega, hk, Option.bind_some, show (k - l.length - 3) + l.length + 3 = (k - c.length - 10) + c.length + 10 by omega]
  exact ht _

/-! ### Long -/
def longn (l : List S46) : Int := (l.foldl (fun n r => n + min (max r.f1 0) (1048576 - n)) 0)
theorem long_l0 (l : List S46) (hn : l.length < 4611686018427387904) : ∀ (d i : Nat) (n : Int), i + d = l.length → 0 ≤ n → n ≤ 1048576 →
    ∀ k, wave_Wave_Long.l0 (k + d + 1) n l (l.length : Int) (i : Int) = some ((l.drop i).foldl (fun n r => n + min (max r.f1 0) (1048576 - n)) n)
  | 0, i, n, hi, h0, h1, k => by
    rw [wave_Wave_Long.l0, if_neg (by omega), List.drop_eq_nil_of_le (by omega)]; rfl
  | d + 1, i, n, hi, h0, h1, k => by
    have hlt : i < l.length := by omega
    rw [show k + (d + 1) + 1 = (k + d + 1) + 1 by omega, wave_Wave_Long.l0, if_pos (by omega), if_pos (by omega), if_pos (by omega), rd_T46_at l i hlt]
    have hc : mn (mx l[i].f1 0) (wrap64 (1048576 - n)) = min (max l[i].f1 0) (1048576 - n) := clip_eq l[i].f1 n h0 h1
    rw [hc, w64 (x := n + _) (by omega) (by omega), w64 (x := (i : Int) + 1) (by omega) (by omega), List.drop_eq_getElem_cons hlt, List.foldl_cons]
    exact long_l0 l hn d (i + 1) _ (by omega) (by omega) (by omega) k
theorem long_spec (l : List S46) (hn : l.length < 4611686018427387904) (k : Nat) : wave_Wave_Long.f (k + l.length + 1) l = some (longn l) := by
  unfold wave_Wave_Long.f
  have := long_l0 l hn l.length 0 0 (by omega) (by omega) (by omega) k
  simpa [longn] using this
theorem longn_pos : ∀ (l : List S46) (n : Int), 0 ≤ n → n ≤ 1048576 → n ≤ l.foldl (fun n r => n + min (max r.f1 0) (1048576 - n)) n
  | [], n, _, _ => Int.le_refl _
  | r :: l, n, h0, h1 => by
    rw [List.foldl_cons]
    have := longn_pos l (n + min (max r.f1 0) (1048576 - n)) (by omega) (by omega)
    omega
end Go.Proofs.YtelokdkifkkggaaDoor.QW

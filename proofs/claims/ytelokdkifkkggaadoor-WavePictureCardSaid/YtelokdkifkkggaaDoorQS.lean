/- A row's argument of the type []Run, opened: the slice reads as runs whose lines are bytes, and is no longer than its weight allows. -/
import Derived.Test.YtelokdkifkkggaaDoorQWx6
import Derived.Deep.SlicePairs
import Derived.SizedLaws
import Derived.OpenShut
namespace Go.Proofs.YtelokdkifkkggaaDoor.QW
open Go.RowKit Go.ChangeShapes Go.WideShapes Go.Proofs.YtelokdkifkkggaaDoorW.PrintWords Go.Proofs.YtelokdkifkkggaaDoorW.PrintLast Go.Proofs.YtelokdkifkkggaaDoorW.PrintMore
set_option linter.unusedVariables false

theorem cellsOf46 : Tryd.prog.cellsOf 46 = 2 := by kernel_rfl
theorem bytesOf46 : Tryd.prog.bytesOf 46 = 16 := by kernel_rfl
def intIn (v : Value) : Int := match v with | .int _ n => n | _ => 0
theorem open_runs {H : Type} {enc : TypeId × Value → H} {W : World} {base : Nat} {spare : Nat → Bool} {held : Bool} {a : Option Addr} {len cap : Nat} {d : DataW H} {ps : List MemPlace} {ts : List TypeId} {ds : List (DataW H)} {j : Nat}
    (hsz : (DataW.weightsEach Tryd.prog ts ds).all (· ≤ reachBytes) = true) (ht : ts[j]? = some 23) (hd : ds[j]? = some d) (h : DataW.Trod enc Tryd.prog W base spare held 23 (.slice a len cap) d ps) :
    ∃ lw : List S46, len = lw.length ∧ Kd.C k46 W a lw.length lw ∧ lw.length ≤ cap ∧ (∀ r ∈ lw, 0 ≤ r.f0 ∧ r.f0 < 256) ∧ (∀ r ∈ lw, -9223372036854775808 ≤ r.f1 ∧ r.f1 < 9223372036854775808) ∧ lw.length * 16 ≤ 140737488351232 := by
  obtain ⟨fuel, hf⟩ := h
  rcases Deep.open_slice_pairs Tryd.underlying23 Tryd.underlying46 cellsOf46 rfl rfl (by kernel_rfl) (by kernel_rfl) hf with ⟨hcs, _⟩ | ⟨x, l, c, m, n, V0, V1, D0, D1, P0, P1, hcs, hb, hl, hm, hmm, hx, hi⟩
  · simp [Value.cells] at hcs
    obtain ⟨rfl, rfl, rfl⟩ := hcs
    exact ⟨[], rfl, Kd.C_nil _ _, Nat.le_refl _, by simp, by simp, by simp⟩
  · simp [Value.cells] at hcs
    obtain ⟨rfl, rfl, rfl⟩ := hcs
    have hlm : len ≤ m := by rw [hmm]; split <;> omega
    have each : ∀ i, i < len → V0 i = .int .u8 (intIn (V0 i)) ∧ V1 i = .int .i64 (intIn (V1 i)) ∧ (0 ≤ intIn (V0 i) ∧ intIn (V0 i) < 256) ∧ (-9223372036854775808 ≤ intIn (V1 i) ∧ intIn (V1 i) < 9223372036854775808) := by
      intro i hil
      obtain ⟨_, _, h3, h4⟩ := hi i (by omega)
      obtain ⟨n0, e0, _, w0⟩ := DataW.trod_int (show Tryd.prog.underlying _ = some (.int .u8) from Tryd.underlying36) h3
      obtain ⟨n1, e1, _, w1⟩ := DataW.trod_int (show Tryd.prog.underlying _ = some (.int .i64) from Tryd.underlying3) h4
      have e0 : V0 i = .int .u8 n0 := by simpa using e0
      have e1 : V1 i = .int .i64 n1 := by simpa using e1
      rw [e0, e1]
      simp [Lit.wf, IntKind.min, IntKind.max, IntKind.bits, IntKind.signed] at w0 w1
      refine ⟨rfl, rfl, ?_, ?_⟩
      · show 0 ≤ n0 ∧ n0 < 256
        omega
      · show -9223372036854775808 ≤ n1 ∧ n1 < 9223372036854775808
        omega
    refine ⟨(List.range len).map fun i => (⟨intIn (V0 i), intIn (V1 i)⟩ : S46), by simp, ?_, by simpa using hl, ?_, ?_, ?_⟩
    · rw [List.length_map, List.length_range]
      refine ⟨by simp, Nat.le_trans (Nat.le_trans hl hm) (by decide), fun _ => ⟨x, rfl, fun j p hj => ?_⟩⟩
      rw [List.getElem?_map] at hj
      have hjl : j < len := by
        rcases Nat.lt_or_ge j len with h | h
        · exact h
        · rw [List.getElem?_eq_none (by simpa using h)] at hj; cases hj
      rw [List.getElem?_range hjl] at hj
      obtain rfl : (⟨intIn (V0 j), intIn (V1 j)⟩ : S46) = p := by simpa using hj
      obtain ⟨h0, h1, _, _⟩ := hi j (by omega)
      obtain ⟨e0, e1, _, _⟩ := each j hjl
      refine ⟨_, ?_, k46_mk _ _, ?_⟩
      · rfl
      · intro i u hu
        match i, hu with
        | 0, hu =>
          obtain rfl : Value.int .u8 (intIn (V0 j)) = u := by simpa using hu
          rw [← e0]; exact h0
        | 1, hu =>
          obtain rfl : Value.int .i64 (intIn (V1 j)) = u := by simpa using hu
          rw [← e1]; exact h1
    · intro r hr
      obtain ⟨i, hi', rfl⟩ := List.mem_map.1 hr
      exact (each i (List.mem_range.1 hi')).2.2.1
    · intro r hr
      obtain ⟨i, hi', rfl⟩ := List.mem_map.1 hr
      exact (each i (List.mem_range.1 hi')).2.2.2
    · obtain ⟨hx, _⟩ := Prod.mk.inj hx
      subst hx
      have z := sized_slice hsz ht hd Tryd.underlying23
      rw [bytesOf46] at z
      simp at z
      simp
      have : reachBytes = 140737488351232 := rfl
      omega
end Go.Proofs.YtelokdkifkkggaaDoor.QW

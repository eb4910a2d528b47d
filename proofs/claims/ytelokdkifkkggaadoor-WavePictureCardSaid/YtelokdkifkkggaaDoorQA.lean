/- Small facts on worlds and numbers that the other texts of this claim use; no conditions but those that each theorem names. -/
import Derived.Test.YtelokdkifkkggaaDoorWMore
import Derived.Laws.BitsLemmas
namespace Go.Proofs.YtelokdkifkkggaaDoorW.PrintMore
open Go.RowKit Go.Proofs.YtelokdkifkkggaaDoorW.PrintWords
/-- internal/bytealg.MaxLen holds some integer. -/
structure GW (w : World) : Prop where mk :: (out : ∃ m, w.cell? ⟨0, 0, none⟩ = some (.int .i64 m))
theorem GW_of {w W : World} (h : GW w) (hb : Below w.heap.size w W) : GW W := by
  obtain ⟨m, hm⟩ := h.out
  exact ⟨m, pw_cell_below hb hm⟩
theorem GW_drawn {w W : World} (h : Drawn0 w W) : Below w.heap.size w W := h.below
theorem Drawn0.drew1 {w w' : World} (h : Drawn0 w w') : Drawn0 w w'.drew := h.step 1
theorem wrap64_m256 (x : Int) : wrap64 (x % 256) = x % 256 := by unfold wrap64; omega
theorem u8_wm (x : Int) : IntKind.u8.wrap x = x % 256 := by simp [IntKind.wrap, IntKind.signed, IntKind.bits]
end Go.Proofs.YtelokdkifkkggaaDoorW.PrintMore

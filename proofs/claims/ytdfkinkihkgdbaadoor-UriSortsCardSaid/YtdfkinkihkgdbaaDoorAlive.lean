/- The walk of the chapter's example. -/
import Derived.Test.YtdfkinkihkgdbaaDoorUriC
set_option linter.unusedVariables false
namespace Go.Proofs.YtdfkinkihkgdbaaDoor
open Go.RowKit

theorem alive_enc : Uri.enc true [97, 32, 98, 47, 195, 169] = [97, 37, 50, 48, 98, 47, 37, 67, 51, 37, 65, 57] := by decide +kernel
theorem alive_path : pathR [47, 98, 47, 107, 47, 108] = ([98], [107, 47, 108], 0) := by decide +kernel

set_option maxHeartbeats 1000000 in
theorem law_alive (w : World) : Calls Tryd.prog 6 #[] w fun e w' => e = .returned (.bool true) ∧ Below w.heap.size w w' := by
  go_enter Tryd.func6, Tryd.ntmps6
  go_wp2_with (first
    | (go_at_call 13; refine (uri_Path [47, 98, 47, 107, 47, 108] _ (by decide)).mono ?_; rw [alive_path]; rintro e w2 ⟨rfl, hb2⟩)
    | (go_at_call 14; refine (uri_Encode [97, 32, 98, 47, 195, 169] true _ (by decide)).mono ?_; rw [alive_enc]; rintro e w3 ⟨rfl, hb3⟩))
  go_ret
  exact ⟨rfl, hb2.trans (hb3.mono hb2.size)⟩

end Go.Proofs.YtdfkinkihkgdbaaDoor

/- The card of StableKnown: its row, with what it lists tied to the program's text. -/
import Derived.Test.YtfpocoongggehaaGreatDoorStableKnown
import Derived.Test.YtfpocoongggehaaGreatDoorTie
import Derived.Test.YtfpocoongggehaaGreatDoorCards
import Derived.SevenTiedAt
set_option linter.all false
namespace Go.Proofs.YtfpocoongggehaaGreatDoor
open Go

theorem stableKnown_no : ∀ (j : Nat) (t : TypeId), Tryz.f14.params[j]? = some t → Tryz.prog.wantsStandIn t = false := by
  intro j t ht
  have hall : (Tryz.f14.params.toList.all fun u => !Tryz.prog.wantsStandIn u) = true := by kernel_rfl
  have hm : t ∈ Tryz.f14.params.toList := by simpa using Array.mem_of_getElem? ht
  simpa using List.all_eq_true.1 hall t hm

theorem stableKnown_looks : true = Tryz.prog.looks [] := by kernel_rfl
theorem stableKnown_goes : false = Rows.stableKnownRow.goesBy Tryz.pinned.checked.prog := by kernel_rfl
theorem stableKnown_named : Tryz.prog.funcNamed "wapentake/wapentakelaw09.StableKnown" = some 14 := by kernel_rfl

theorem stableKnown_card : Rows.StableKnownCardSaid :=
  Claim7.holds_tied_plain_at .later [] [.data, .data, .data, .sentinel, .sentinel] true (true, "6fa8df43e842dfdeeac6111733d1b9b41e5c4950c58394c964b7e835297e4c20") true
    stableKnown_said (fun _ h => by cases h) (by kernel_rfl) (fun _ h => by cases h) stableKnown_row_tie rfl ⟨rfl, rfl⟩ (by kernel_rfl) rfl
    (fun f fn hf hfn => by
      obtain rfl : f = 14 := Option.some.inj (stableKnown_named.symm.trans hf) |>.symm
      obtain rfl : fn = Tryz.f14 := (Option.some.inj (Tryz.func14.symm.trans hfn)).symm
      exact ⟨stableKnown_looks, stableKnown_no⟩)
    stableKnown_goes
#print axioms stableKnown_card
end Go.Proofs.YtfpocoongggehaaGreatDoor

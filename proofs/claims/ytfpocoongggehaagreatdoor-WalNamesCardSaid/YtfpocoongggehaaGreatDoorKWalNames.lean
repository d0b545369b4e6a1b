/- The card of WalNames: its row, with what it lists tied to the program's text. -/
import Derived.Test.YtfpocoongggehaaGreatDoorWalNames
import Derived.Test.YtfpocoongggehaaGreatDoorTie
import Derived.Test.YtfpocoongggehaaGreatDoorCards
import Derived.SevenTiedAt
set_option linter.all false
namespace Go.Proofs.YtfpocoongggehaaGreatDoor
open Go

theorem walNames_no : ∀ (j : Nat) (t : TypeId), Tryz.f5.params[j]? = some t → Tryz.prog.wantsStandIn t = false := by
  intro j t ht
  have hall : (Tryz.f5.params.toList.all fun u => !Tryz.prog.wantsStandIn u) = true := by kernel_rfl
  have hm : t ∈ Tryz.f5.params.toList := by simpa using Array.mem_of_getElem? ht
  simpa using List.all_eq_true.1 hall t hm

theorem walNames_looks : true = Tryz.prog.looks [] := by kernel_rfl
theorem walNames_goes : false = Rows.walNamesRow.goesBy Tryz.pinned.checked.prog := by kernel_rfl
theorem walNames_named : Tryz.prog.funcNamed "wapentake/wapentakelaw08.WalNames" = some 5 := by kernel_rfl

theorem walNames_card : Rows.WalNamesCardSaid :=
  Claim7.holds_tied_plain_at .later [] [.data, .data, .data, .sentinel, .sentinel] true (true, "6fa8df43e842dfdeeac6111733d1b9b41e5c4950c58394c964b7e835297e4c20") true
    walNames_said (fun _ h => by cases h) (by kernel_rfl) (fun _ h => by cases h) walNames_row_tie rfl ⟨rfl, rfl⟩ (by kernel_rfl) rfl
    (fun f fn hf hfn => by
      obtain rfl : f = 5 := Option.some.inj (walNames_named.symm.trans hf) |>.symm
      obtain rfl : fn = Tryz.f5 := (Option.some.inj (Tryz.func5.symm.trans hfn)).symm
      exact ⟨walNames_looks, walNames_no⟩)
    walNames_goes
#print axioms walNames_card
end Go.Proofs.YtfpocoongggehaaGreatDoor

/- The card of WalKnown: its row, with what it lists tied to the program's text. -/
import Derived.Test.YtfpocoongggehaaGreatDoorWalKnown
import Derived.Test.YtfpocoongggehaaGreatDoorTie
import Derived.Test.YtfpocoongggehaaGreatDoorCards
import Derived.SevenTiedAt
set_option linter.all false
namespace Go.Proofs.YtfpocoongggehaaGreatDoor
open Go

theorem walKnown_no : ∀ (j : Nat) (t : TypeId), Tryz.f6.params[j]? = some t → Tryz.prog.wantsStandIn t = false := by
  intro j t ht
  have hall : (Tryz.f6.params.toList.all fun u => !Tryz.prog.wantsStandIn u) = true := by kernel_rfl
  have hm : t ∈ Tryz.f6.params.toList := by simpa using Array.mem_of_getElem? ht
  simpa using List.all_eq_true.1 hall t hm

theorem walKnown_looks : true = Tryz.prog.looks [] := by kernel_rfl
theorem walKnown_goes : false = Rows.walKnownRow.goesBy Tryz.pinned.checked.prog := by kernel_rfl
theorem walKnown_named : Tryz.prog.funcNamed "wapentake/wapentakelaw08.WalKnown" = some 6 := by kernel_rfl

theorem walKnown_card : Rows.WalKnownCardSaid :=
  Claim7.holds_tied_plain_at .later [] [.data, .data, .data, .sentinel, .sentinel] true (true, "6fa8df43e842dfdeeac6111733d1b9b41e5c4950c58394c964b7e835297e4c20") true
    walKnown_said (fun _ h => by cases h) (by kernel_rfl) (fun _ h => by cases h) walKnown_row_tie rfl ⟨rfl, rfl⟩ (by kernel_rfl) rfl
    (fun f fn hf hfn => by
      obtain rfl : f = 6 := Option.some.inj (walKnown_named.symm.trans hf) |>.symm
      obtain rfl : fn = Tryz.f6 := (Option.some.inj (Tryz.func6.symm.trans hfn)).symm
      exact ⟨walKnown_looks, walKnown_no⟩)
    walKnown_goes
#print axioms walKnown_card
end Go.Proofs.YtfpocoongggehaaGreatDoor

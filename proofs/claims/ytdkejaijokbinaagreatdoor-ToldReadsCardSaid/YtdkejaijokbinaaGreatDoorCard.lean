/- The tied card ToldReadsCardSaid is proved; no conditions beyond the card itself. -/
import Derived.Test.YtdkejaijokbinaaGreatDoorRow
import Derived.Test.YtdkejaijokbinaaGreatDoorTie
import Derived.Test.YtdkejaijokbinaaGreatDoorCards
set_option linter.all false

namespace Go.Proofs.YtdkejaijokbinaaGreatDoor
open Go
set_option maxRecDepth 100000 in
theorem toldReads_card : Rows.ToldReadsCardSaid :=
  Claim7.holds_tied_plain_at .later [] [.data, .data, .data, .data, .handle, .sentinel, .sentinel, .pinned] true (true, "063b0e3d9b9c7ce490462e8eb1a45e4a730b1d584b34e19d13912844a9a5e164") true
    row_holds (fun _ h => by cases h) (by kernel_rfl) (fun _ h => by cases h) toldReads_row_tie rfl ⟨rfl, rfl⟩ (by kernel_rfl) rfl
    (fun f fn hf hfn => by
      obtain rfl : f = 3 := Option.some.inj ((show Tryz.prog.funcNamed "fusee/fuseelaw43.ToldReads" = some 3 by kernel_rfl).symm.trans hf) |>.symm
      obtain rfl : fn = Tryz.f3 := (Option.some.inj (Tryz.func3.symm.trans hfn)).symm
      exact ⟨by kernel_rfl, fun j t ht => by
        rw [Tryz.params3] at ht
        have h3 : t = 37 ∨ t = 2 := by
          rcases j with _ | _ | _ | j
          · left; simpa using ht.symm
          · right; simpa using ht.symm
          · right; simpa using ht.symm
          · simp at ht
        rcases h3 with rfl | rfl
        · exact (show Tryz.prog.wantsStandIn 37 = false by kernel_rfl)
        · exact (show Tryz.prog.wantsStandIn 2 = false by kernel_rfl)⟩)
    (by kernel_rfl)
#print axioms toldReads_card
end Go.Proofs.YtdkejaijokbinaaGreatDoor

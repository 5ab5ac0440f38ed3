/- FrontierBack: what its row says of the program's form, fact by fact. -/
import Derived.Test.YtbbknbmmpkpgdaaGreatDoorCards
import Derived.JoinedOf
import Derived.KernelRfl
namespace Go.Proofs.YtbbknbmmpkpgdaaGreatDoor.frontierBack
open Go
theorem and_mk {a b : Bool} (ha : a = true) (hb : b = true) : (a && b) = true := by rw [ha, hb]; rfl
theorem k0 : (Rows.frontierBackRow.wf (OpenSpec.ofChange Rows.frontierBackSpec) : Bool) = true := by kernel_rfl
theorem k1 : (laidOutB Tryz.prog : Bool) = true := by kernel_rfl
theorem k2 : (mapsRowed Tryz.prog : Bool) = true := by kernel_rfl
theorem k3 : (Tryz.f4.params.all (Tryz.prog.readableRec ·) : Bool) = true := by kernel_rfl
theorem k4 : (namedTie Tryz.prog Rows.frontierBackRow.named Rows.frontierBackSpec.vars : Bool) = true := by kernel_rfl
theorem k5 : ((Rows.frontierBackRow.stops == []) : Bool) = true := by kernel_rfl
theorem k6 : ((Tryz.prog.stops == []) : Bool) = true := by kernel_rfl
theorem k7 : ((Rows.frontierBackRow.knobs == []) : Bool) = true := by kernel_rfl
theorem k8 : ((Tryz.prog.stopKnobs == []) : Bool) = true := by kernel_rfl
theorem k9 : ((Rows.frontierBackRow.inPlace == Tryz.prog.inPlace 4) : Bool) = true := by kernel_rfl
theorem k10 : ((Rows.frontierBackRow.unfollowed == Tryz.prog.unfollowed 4) : Bool) = true := by kernel_rfl
theorem k11 : ((Rows.frontierBackRow.recurses == Tryz.prog.recurses 4) : Bool) = true := by kernel_rfl
theorem k12 : ((Rows.frontierBackRow.named == Tryz.prog.varsNamed 4) : Bool) = true := by kernel_rfl
theorem k13 : ((Rows.frontierBackRow.maps == (Tryz.f4.params.toList ++ Rows.frontierBackSpec.plain.varTypes Tryz.prog).any (Tryz.prog.mapsRec ·)) : Bool) = true := by kernel_rfl
theorem k14 : ((Rows.frontierBackRow.ifaces == (Tryz.f4.params.toList ++ Rows.frontierBackSpec.plain.varTypes Tryz.prog).any (Tryz.prog.ifacesRec ·)) : Bool) = true := by kernel_rfl
theorem k15 : ((Rows.frontierBackRow.mapsOut == Tryz.prog.mapsAmong Tryz.f4.resultTypes.toList) : Bool) = true := by kernel_rfl
theorem k16 : ((Rows.frontierBackRow.loops == (Tryz.f4.params.toList ++ Rows.frontierBackSpec.plain.varTypes Tryz.prog).any (Tryz.prog.loopsFrom ·)) : Bool) = true := by kernel_rfl
theorem k17 : ((Rows.frontierBackRow.wideKeys == (Tryz.f4.params.toList ++ Rows.frontierBackSpec.plain.varTypes Tryz.prog ++ Tryz.f4.resultTypes.toList).any (Tryz.prog.wideKeysFrom ·)) : Bool) = true := by kernel_rfl
theorem k18 : (Rows.frontierBackSpec.vars.all (Tryz.prog.varReadable ·) : Bool) = true := by kernel_rfl
theorem k19 : (Tryz.f4.resultTypes.all (fun t => Tryz.prog.readableRec t && decide (t < Tryz.prog.types.size)) : Bool) = true := by kernel_rfl
theorem k20 : ((Rows.frontierBackRow.ifacesOut == Tryz.f4.resultTypes.toList.any (Tryz.prog.ifacesRec ·)) : Bool) = true := by kernel_rfl
theorem k21 : ((Rows.frontierBackRow.loopsOut == Tryz.f4.resultTypes.toList.any (Tryz.prog.loopsFrom ·)) : Bool) = true := by kernel_rfl
theorem k22 : ((Rows.frontierBackRow.plainKeys == Tryz.prog.plainKeys) : Bool) = true := by kernel_rfl
theorem k23 : (Rows.frontierBackRow.shortTexts.isNone : Bool) = true := by kernel_rfl
theorem k24 : (Tryz.prog.stopsHeard : Bool) = true := by kernel_rfl
theorem k25 : (Tryz.prog.mayEnter : Bool) = true := by kernel_rfl
theorem k26 : ((Rows.frontierBackRow.lifted == Tryz.prog.liftsFinal) : Bool) = true := by kernel_rfl
theorem k27 : ((Tryz.prog.make == some Rows.frontierBackRow.make) : Bool) = true := by kernel_rfl
theorem k28 : ((Rows.frontierBackRow.kinds == (if Rows.frontierBackRow.domain.isEmpty then [] else Tryz.f4.params.toList.map fun t => match Tryz.prog.underlying t with | some (.int k) => some k | _ => none)) : Bool) = true := by kernel_rfl
theorem k29 : ((Rows.frontierBackRow.pinned == Rows.frontierBackRow.pinnedBy) : Bool) = true := by kernel_rfl
theorem k30 : ((Rows.frontierBackRow.veiled == (Tryz.f4.params.toList ++ Rows.frontierBackSpec.plain.varTypes Tryz.prog ++ Tryz.f4.resultTypes.toList).any (Tryz.prog.veiledRec ·)) : Bool) = true := by kernel_rfl
theorem k31 : (Rows.frontierBackRow.veiledFits Tryz.prog Tryz.f4.params.toList (Tryz.f4.params.toList ++ Rows.frontierBackSpec.plain.varTypes Tryz.prog ++ Tryz.f4.resultTypes.toList) : Bool) = true := by kernel_rfl
set_option maxRecDepth 100000 in
theorem closed : joinedFacts Tryz.prog 4 Tryz.f4 (OpenSpec.ofChange Rows.frontierBackSpec).bare Rows.frontierBackRow = true := and_mk (and_mk (and_mk (and_mk (and_mk (and_mk (and_mk (and_mk (and_mk (and_mk (and_mk (and_mk (and_mk (and_mk (and_mk (and_mk (and_mk (and_mk (and_mk (and_mk (and_mk (and_mk (and_mk (and_mk (and_mk (and_mk (and_mk (and_mk (and_mk (and_mk (and_mk k0 k1) k2) k3) k4) k5) k6) k7) k8) k9) k10) k11) k12) k13) k14) k15) k16) k17) k18) k19) k20) k21) k22) k23) k24) k25) k26) k27) k28) k29) k30) k31
theorem named : Tryz.prog.funcNamed "assize/assizelaw17.FrontierBack" = some 4 := by kernel_rfl
theorem instB : decide (Func.isInstance Tryz.prog Tryz.f4 Rows.frontierBackRow.origin Rows.frontierBackRow.targs) = true := by kernel_rfl
theorem wrap : Func.isWrapper Tryz.prog Tryz.f4 Rows.frontierBackRow.wrapper Rows.frontierBackRow.mainSum := by
  unfold Func.isWrapper; first | (rw [if_pos (by decide +kernel)]; kernel_rfl) | (rw [if_neg (by decide +kernel)]; exact ⟨rfl, rfl⟩)
theorem byText : Rows.frontierBackRow.wfByText (OpenSpec.ofChange Rows.frontierBackSpec) = true := by kernel_rfl
theorem mainIs : Tryz.pinned.checked.prog.mainIs = some (Rows.frontierBackCard.stood.harness.1, Rows.frontierBackCard.stood.harness.2.toList) := by kernel_rfl
theorem goes : false = Rows.frontierBackRow.goesBy Tryz.pinned.checked.prog := by kernel_rfl
theorem looks : true = Tryz.pinned.checked.prog.looks [] := by kernel_rfl
end Go.Proofs.YtbbknbmmpkpgdaaGreatDoor.frontierBack

/- JobKnown: what its row says of the program's form, fact by fact. -/
import Derived.Test.YtbbknbmmpkpgdaaGreatDoorCards
import Derived.JoinedOf
import Derived.KernelRfl
namespace Go.Proofs.YtbbknbmmpkpgdaaGreatDoor.jobKnown
open Go
theorem and_mk {a b : Bool} (ha : a = true) (hb : b = true) : (a && b) = true := by rw [ha, hb]; rfl
theorem k0 : (Rows.jobKnownRow.wf (OpenSpec.ofChange Rows.jobKnownSpec) : Bool) = true := by kernel_rfl
theorem k1 : (laidOutB Tryz.prog : Bool) = true := by kernel_rfl
theorem k2 : (mapsRowed Tryz.prog : Bool) = true := by kernel_rfl
theorem k3 : (Tryz.f6.params.all (Tryz.prog.readableRec ·) : Bool) = true := by kernel_rfl
theorem k4 : (namedTie Tryz.prog Rows.jobKnownRow.named Rows.jobKnownSpec.vars : Bool) = true := by kernel_rfl
theorem k5 : ((Rows.jobKnownRow.stops == []) : Bool) = true := by kernel_rfl
theorem k6 : ((Tryz.prog.stops == []) : Bool) = true := by kernel_rfl
theorem k7 : ((Rows.jobKnownRow.knobs == []) : Bool) = true := by kernel_rfl
theorem k8 : ((Tryz.prog.stopKnobs == []) : Bool) = true := by kernel_rfl
theorem k9 : ((Rows.jobKnownRow.inPlace == Tryz.prog.inPlace 6) : Bool) = true := by kernel_rfl
theorem k10 : ((Rows.jobKnownRow.unfollowed == Tryz.prog.unfollowed 6) : Bool) = true := by kernel_rfl
theorem k11 : ((Rows.jobKnownRow.recurses == Tryz.prog.recurses 6) : Bool) = true := by kernel_rfl
theorem k12 : ((Rows.jobKnownRow.named == Tryz.prog.varsNamed 6) : Bool) = true := by kernel_rfl
theorem k13 : ((Rows.jobKnownRow.maps == (Tryz.f6.params.toList ++ Rows.jobKnownSpec.plain.varTypes Tryz.prog).any (Tryz.prog.mapsRec ·)) : Bool) = true := by kernel_rfl
theorem k14 : ((Rows.jobKnownRow.ifaces == (Tryz.f6.params.toList ++ Rows.jobKnownSpec.plain.varTypes Tryz.prog).any (Tryz.prog.ifacesRec ·)) : Bool) = true := by kernel_rfl
theorem k15 : ((Rows.jobKnownRow.mapsOut == Tryz.prog.mapsAmong Tryz.f6.resultTypes.toList) : Bool) = true := by kernel_rfl
theorem k16 : ((Rows.jobKnownRow.loops == (Tryz.f6.params.toList ++ Rows.jobKnownSpec.plain.varTypes Tryz.prog).any (Tryz.prog.loopsFrom ·)) : Bool) = true := by kernel_rfl
theorem k17 : ((Rows.jobKnownRow.wideKeys == (Tryz.f6.params.toList ++ Rows.jobKnownSpec.plain.varTypes Tryz.prog ++ Tryz.f6.resultTypes.toList).any (Tryz.prog.wideKeysFrom ·)) : Bool) = true := by kernel_rfl
theorem k18 : (Rows.jobKnownSpec.vars.all (Tryz.prog.varReadable ·) : Bool) = true := by kernel_rfl
theorem k19 : (Tryz.f6.resultTypes.all (fun t => Tryz.prog.readableRec t && decide (t < Tryz.prog.types.size)) : Bool) = true := by kernel_rfl
theorem k20 : ((Rows.jobKnownRow.ifacesOut == Tryz.f6.resultTypes.toList.any (Tryz.prog.ifacesRec ·)) : Bool) = true := by kernel_rfl
theorem k21 : ((Rows.jobKnownRow.loopsOut == Tryz.f6.resultTypes.toList.any (Tryz.prog.loopsFrom ·)) : Bool) = true := by kernel_rfl
theorem k22 : ((Rows.jobKnownRow.plainKeys == Tryz.prog.plainKeys) : Bool) = true := by kernel_rfl
theorem k23 : (Rows.jobKnownRow.shortTexts.isNone : Bool) = true := by kernel_rfl
theorem k24 : (Tryz.prog.stopsHeard : Bool) = true := by kernel_rfl
theorem k25 : (Tryz.prog.mayEnter : Bool) = true := by kernel_rfl
theorem k26 : ((Rows.jobKnownRow.lifted == Tryz.prog.liftsFinal) : Bool) = true := by kernel_rfl
theorem k27 : ((Tryz.prog.make == some Rows.jobKnownRow.make) : Bool) = true := by kernel_rfl
theorem k28 : ((Rows.jobKnownRow.kinds == (if Rows.jobKnownRow.domain.isEmpty then [] else Tryz.f6.params.toList.map fun t => match Tryz.prog.underlying t with | some (.int k) => some k | _ => none)) : Bool) = true := by kernel_rfl
theorem k29 : ((Rows.jobKnownRow.pinned == Rows.jobKnownRow.pinnedBy) : Bool) = true := by kernel_rfl
theorem k30 : ((Rows.jobKnownRow.veiled == (Tryz.f6.params.toList ++ Rows.jobKnownSpec.plain.varTypes Tryz.prog ++ Tryz.f6.resultTypes.toList).any (Tryz.prog.veiledRec ·)) : Bool) = true := by kernel_rfl
theorem k31 : (Rows.jobKnownRow.veiledFits Tryz.prog Tryz.f6.params.toList (Tryz.f6.params.toList ++ Rows.jobKnownSpec.plain.varTypes Tryz.prog ++ Tryz.f6.resultTypes.toList) : Bool) = true := by kernel_rfl
set_option maxRecDepth 100000 in
theorem closed : joinedFacts Tryz.prog 6 Tryz.f6 (OpenSpec.ofChange Rows.jobKnownSpec).bare Rows.jobKnownRow = true := and_mk (and_mk (and_mk (and_mk (and_mk (and_mk (and_mk (and_mk (and_mk (and_mk (and_mk (and_mk (and_mk (and_mk (and_mk (and_mk (and_mk (and_mk (and_mk (and_mk (and_mk (and_mk (and_mk (and_mk (and_mk (and_mk (and_mk (and_mk (and_mk (and_mk (and_mk k0 k1) k2) k3) k4) k5) k6) k7) k8) k9) k10) k11) k12) k13) k14) k15) k16) k17) k18) k19) k20) k21) k22) k23) k24) k25) k26) k27) k28) k29) k30) k31
theorem named : Tryz.prog.funcNamed "assize/assizelaw23.JobKnown" = some 6 := by kernel_rfl
theorem instB : decide (Func.isInstance Tryz.prog Tryz.f6 Rows.jobKnownRow.origin Rows.jobKnownRow.targs) = true := by kernel_rfl
theorem wrap : Func.isWrapper Tryz.prog Tryz.f6 Rows.jobKnownRow.wrapper Rows.jobKnownRow.mainSum := by
  unfold Func.isWrapper; first | (rw [if_pos (by decide +kernel)]; kernel_rfl) | (rw [if_neg (by decide +kernel)]; exact ⟨rfl, rfl⟩)
theorem byText : Rows.jobKnownRow.wfByText (OpenSpec.ofChange Rows.jobKnownSpec) = true := by kernel_rfl
theorem mainIs : Tryz.pinned.checked.prog.mainIs = some (Rows.jobKnownCard.stood.harness.1, Rows.jobKnownCard.stood.harness.2.toList) := by kernel_rfl
theorem goes : false = Rows.jobKnownRow.goesBy Tryz.pinned.checked.prog := by kernel_rfl
theorem looks : true = Tryz.pinned.checked.prog.looks [] := by kernel_rfl
end Go.Proofs.YtbbknbmmpkpgdaaGreatDoor.jobKnown

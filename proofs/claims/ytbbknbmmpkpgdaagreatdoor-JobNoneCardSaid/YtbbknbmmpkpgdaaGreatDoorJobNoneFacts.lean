/- JobNone: what its row says of the program's form, fact by fact. -/
import Derived.Test.YtbbknbmmpkpgdaaGreatDoorCards
import Derived.JoinedOf
import Derived.KernelRfl
namespace Go.Proofs.YtbbknbmmpkpgdaaGreatDoor.jobNone
open Go
theorem and_mk {a b : Bool} (ha : a = true) (hb : b = true) : (a && b) = true := by rw [ha, hb]; rfl
theorem k0 : (Rows.jobNoneRow.wf (OpenSpec.ofChange Rows.jobNoneSpec) : Bool) = true := by kernel_rfl
theorem k1 : (laidOutB Tryz.prog : Bool) = true := by kernel_rfl
theorem k2 : (mapsRowed Tryz.prog : Bool) = true := by kernel_rfl
theorem k3 : (Tryz.f7.params.all (Tryz.prog.readableRec ·) : Bool) = true := by kernel_rfl
theorem k4 : (namedTie Tryz.prog Rows.jobNoneRow.named Rows.jobNoneSpec.vars : Bool) = true := by kernel_rfl
theorem k5 : ((Rows.jobNoneRow.stops == []) : Bool) = true := by kernel_rfl
theorem k6 : ((Tryz.prog.stops == []) : Bool) = true := by kernel_rfl
theorem k7 : ((Rows.jobNoneRow.knobs == []) : Bool) = true := by kernel_rfl
theorem k8 : ((Tryz.prog.stopKnobs == []) : Bool) = true := by kernel_rfl
theorem k9 : ((Rows.jobNoneRow.inPlace == Tryz.prog.inPlace 7) : Bool) = true := by kernel_rfl
theorem k10 : ((Rows.jobNoneRow.unfollowed == Tryz.prog.unfollowed 7) : Bool) = true := by kernel_rfl
theorem k11 : ((Rows.jobNoneRow.recurses == Tryz.prog.recurses 7) : Bool) = true := by kernel_rfl
theorem k12 : ((Rows.jobNoneRow.named == Tryz.prog.varsNamed 7) : Bool) = true := by kernel_rfl
theorem k13 : ((Rows.jobNoneRow.maps == (Tryz.f7.params.toList ++ Rows.jobNoneSpec.plain.varTypes Tryz.prog).any (Tryz.prog.mapsRec ·)) : Bool) = true := by kernel_rfl
theorem k14 : ((Rows.jobNoneRow.ifaces == (Tryz.f7.params.toList ++ Rows.jobNoneSpec.plain.varTypes Tryz.prog).any (Tryz.prog.ifacesRec ·)) : Bool) = true := by kernel_rfl
theorem k15 : ((Rows.jobNoneRow.mapsOut == Tryz.prog.mapsAmong Tryz.f7.resultTypes.toList) : Bool) = true := by kernel_rfl
theorem k16 : ((Rows.jobNoneRow.loops == (Tryz.f7.params.toList ++ Rows.jobNoneSpec.plain.varTypes Tryz.prog).any (Tryz.prog.loopsFrom ·)) : Bool) = true := by kernel_rfl
theorem k17 : ((Rows.jobNoneRow.wideKeys == (Tryz.f7.params.toList ++ Rows.jobNoneSpec.plain.varTypes Tryz.prog ++ Tryz.f7.resultTypes.toList).any (Tryz.prog.wideKeysFrom ·)) : Bool) = true := by kernel_rfl
theorem k18 : (Rows.jobNoneSpec.vars.all (Tryz.prog.varReadable ·) : Bool) = true := by kernel_rfl
theorem k19 : (Tryz.f7.resultTypes.all (fun t => Tryz.prog.readableRec t && decide (t < Tryz.prog.types.size)) : Bool) = true := by kernel_rfl
theorem k20 : ((Rows.jobNoneRow.ifacesOut == Tryz.f7.resultTypes.toList.any (Tryz.prog.ifacesRec ·)) : Bool) = true := by kernel_rfl
theorem k21 : ((Rows.jobNoneRow.loopsOut == Tryz.f7.resultTypes.toList.any (Tryz.prog.loopsFrom ·)) : Bool) = true := by kernel_rfl
theorem k22 : ((Rows.jobNoneRow.plainKeys == Tryz.prog.plainKeys) : Bool) = true := by kernel_rfl
theorem k23 : (Rows.jobNoneRow.shortTexts.isNone : Bool) = true := by kernel_rfl
theorem k24 : (Tryz.prog.stopsHeard : Bool) = true := by kernel_rfl
theorem k25 : (Tryz.prog.mayEnter : Bool) = true := by kernel_rfl
theorem k26 : ((Rows.jobNoneRow.lifted == Tryz.prog.liftsFinal) : Bool) = true := by kernel_rfl
theorem k27 : ((Tryz.prog.make == some Rows.jobNoneRow.make) : Bool) = true := by kernel_rfl
theorem k28 : ((Rows.jobNoneRow.kinds == (if Rows.jobNoneRow.domain.isEmpty then [] else Tryz.f7.params.toList.map fun t => match Tryz.prog.underlying t with | some (.int k) => some k | _ => none)) : Bool) = true := by kernel_rfl
theorem k29 : ((Rows.jobNoneRow.pinned == Rows.jobNoneRow.pinnedBy) : Bool) = true := by kernel_rfl
theorem k30 : ((Rows.jobNoneRow.veiled == (Tryz.f7.params.toList ++ Rows.jobNoneSpec.plain.varTypes Tryz.prog ++ Tryz.f7.resultTypes.toList).any (Tryz.prog.veiledRec ·)) : Bool) = true := by kernel_rfl
theorem k31 : (Rows.jobNoneRow.veiledFits Tryz.prog Tryz.f7.params.toList (Tryz.f7.params.toList ++ Rows.jobNoneSpec.plain.varTypes Tryz.prog ++ Tryz.f7.resultTypes.toList) : Bool) = true := by kernel_rfl
set_option maxRecDepth 100000 in
theorem closed : joinedFacts Tryz.prog 7 Tryz.f7 (OpenSpec.ofChange Rows.jobNoneSpec).bare Rows.jobNoneRow = true := and_mk (and_mk (and_mk (and_mk (and_mk (and_mk (and_mk (and_mk (and_mk (and_mk (and_mk (and_mk (and_mk (and_mk (and_mk (and_mk (and_mk (and_mk (and_mk (and_mk (and_mk (and_mk (and_mk (and_mk (and_mk (and_mk (and_mk (and_mk (and_mk (and_mk (and_mk k0 k1) k2) k3) k4) k5) k6) k7) k8) k9) k10) k11) k12) k13) k14) k15) k16) k17) k18) k19) k20) k21) k22) k23) k24) k25) k26) k27) k28) k29) k30) k31
theorem named : Tryz.prog.funcNamed "assize/assizelaw23.JobNone" = some 7 := by kernel_rfl
theorem instB : decide (Func.isInstance Tryz.prog Tryz.f7 Rows.jobNoneRow.origin Rows.jobNoneRow.targs) = true := by kernel_rfl
theorem wrap : Func.isWrapper Tryz.prog Tryz.f7 Rows.jobNoneRow.wrapper Rows.jobNoneRow.mainSum := by
  unfold Func.isWrapper; first | (rw [if_pos (by decide +kernel)]; kernel_rfl) | (rw [if_neg (by decide +kernel)]; exact ⟨rfl, rfl⟩)
theorem byText : Rows.jobNoneRow.wfByText (OpenSpec.ofChange Rows.jobNoneSpec) = true := by kernel_rfl
theorem mainIs : Tryz.pinned.checked.prog.mainIs = some (Rows.jobNoneCard.stood.harness.1, Rows.jobNoneCard.stood.harness.2.toList) := by kernel_rfl
theorem goes : false = Rows.jobNoneRow.goesBy Tryz.pinned.checked.prog := by kernel_rfl
theorem looks : true = Tryz.pinned.checked.prog.looks [] := by kernel_rfl
end Go.Proofs.YtbbknbmmpkpgdaaGreatDoor.jobNone

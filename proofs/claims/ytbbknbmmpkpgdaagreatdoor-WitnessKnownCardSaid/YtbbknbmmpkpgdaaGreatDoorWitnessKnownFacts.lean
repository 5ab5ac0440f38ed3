/- WitnessKnown: what its row says of the program's form, fact by fact. -/
import Derived.Test.YtbbknbmmpkpgdaaGreatDoorCards
import Derived.JoinedOf
import Derived.KernelRfl
namespace Go.Proofs.YtbbknbmmpkpgdaaGreatDoor.witnessKnown
open Go
theorem and_mk {a b : Bool} (ha : a = true) (hb : b = true) : (a && b) = true := by rw [ha, hb]; rfl
theorem k0 : (Rows.witnessKnownRow.wf (OpenSpec.ofChange Rows.witnessKnownSpec) : Bool) = true := by kernel_rfl
theorem k1 : (laidOutB Tryz.prog : Bool) = true := by kernel_rfl
theorem k2 : (mapsRowed Tryz.prog : Bool) = true := by kernel_rfl
theorem k3 : (Tryz.f5.params.all (Tryz.prog.readableRec ·) : Bool) = true := by kernel_rfl
theorem k4 : (namedTie Tryz.prog Rows.witnessKnownRow.named Rows.witnessKnownSpec.vars : Bool) = true := by kernel_rfl
theorem k5 : ((Rows.witnessKnownRow.stops == []) : Bool) = true := by kernel_rfl
theorem k6 : ((Tryz.prog.stops == []) : Bool) = true := by kernel_rfl
theorem k7 : ((Rows.witnessKnownRow.knobs == []) : Bool) = true := by kernel_rfl
theorem k8 : ((Tryz.prog.stopKnobs == []) : Bool) = true := by kernel_rfl
theorem k9 : ((Rows.witnessKnownRow.inPlace == Tryz.prog.inPlace 5) : Bool) = true := by kernel_rfl
theorem k10 : ((Rows.witnessKnownRow.unfollowed == Tryz.prog.unfollowed 5) : Bool) = true := by kernel_rfl
theorem k11 : ((Rows.witnessKnownRow.recurses == Tryz.prog.recurses 5) : Bool) = true := by kernel_rfl
theorem k12 : ((Rows.witnessKnownRow.named == Tryz.prog.varsNamed 5) : Bool) = true := by kernel_rfl
theorem k13 : ((Rows.witnessKnownRow.maps == (Tryz.f5.params.toList ++ Rows.witnessKnownSpec.plain.varTypes Tryz.prog).any (Tryz.prog.mapsRec ·)) : Bool) = true := by kernel_rfl
theorem k14 : ((Rows.witnessKnownRow.ifaces == (Tryz.f5.params.toList ++ Rows.witnessKnownSpec.plain.varTypes Tryz.prog).any (Tryz.prog.ifacesRec ·)) : Bool) = true := by kernel_rfl
theorem k15 : ((Rows.witnessKnownRow.mapsOut == Tryz.prog.mapsAmong Tryz.f5.resultTypes.toList) : Bool) = true := by kernel_rfl
theorem k16 : ((Rows.witnessKnownRow.loops == (Tryz.f5.params.toList ++ Rows.witnessKnownSpec.plain.varTypes Tryz.prog).any (Tryz.prog.loopsFrom ·)) : Bool) = true := by kernel_rfl
theorem k17 : ((Rows.witnessKnownRow.wideKeys == (Tryz.f5.params.toList ++ Rows.witnessKnownSpec.plain.varTypes Tryz.prog ++ Tryz.f5.resultTypes.toList).any (Tryz.prog.wideKeysFrom ·)) : Bool) = true := by kernel_rfl
theorem k18 : (Rows.witnessKnownSpec.vars.all (Tryz.prog.varReadable ·) : Bool) = true := by kernel_rfl
theorem k19 : (Tryz.f5.resultTypes.all (fun t => Tryz.prog.readableRec t && decide (t < Tryz.prog.types.size)) : Bool) = true := by kernel_rfl
theorem k20 : ((Rows.witnessKnownRow.ifacesOut == Tryz.f5.resultTypes.toList.any (Tryz.prog.ifacesRec ·)) : Bool) = true := by kernel_rfl
theorem k21 : ((Rows.witnessKnownRow.loopsOut == Tryz.f5.resultTypes.toList.any (Tryz.prog.loopsFrom ·)) : Bool) = true := by kernel_rfl
theorem k22 : ((Rows.witnessKnownRow.plainKeys == Tryz.prog.plainKeys) : Bool) = true := by kernel_rfl
theorem k23 : (Rows.witnessKnownRow.shortTexts.isNone : Bool) = true := by kernel_rfl
theorem k24 : (Tryz.prog.stopsHeard : Bool) = true := by kernel_rfl
theorem k25 : (Tryz.prog.mayEnter : Bool) = true := by kernel_rfl
theorem k26 : ((Rows.witnessKnownRow.lifted == Tryz.prog.liftsFinal) : Bool) = true := by kernel_rfl
theorem k27 : ((Tryz.prog.make == some Rows.witnessKnownRow.make) : Bool) = true := by kernel_rfl
theorem k28 : ((Rows.witnessKnownRow.kinds == (if Rows.witnessKnownRow.domain.isEmpty then [] else Tryz.f5.params.toList.map fun t => match Tryz.prog.underlying t with | some (.int k) => some k | _ => none)) : Bool) = true := by kernel_rfl
theorem k29 : ((Rows.witnessKnownRow.pinned == Rows.witnessKnownRow.pinnedBy) : Bool) = true := by kernel_rfl
theorem k30 : ((Rows.witnessKnownRow.veiled == (Tryz.f5.params.toList ++ Rows.witnessKnownSpec.plain.varTypes Tryz.prog ++ Tryz.f5.resultTypes.toList).any (Tryz.prog.veiledRec ·)) : Bool) = true := by kernel_rfl
theorem k31 : (Rows.witnessKnownRow.veiledFits Tryz.prog Tryz.f5.params.toList (Tryz.f5.params.toList ++ Rows.witnessKnownSpec.plain.varTypes Tryz.prog ++ Tryz.f5.resultTypes.toList) : Bool) = true := by kernel_rfl
set_option maxRecDepth 100000 in
theorem closed : joinedFacts Tryz.prog 5 Tryz.f5 (OpenSpec.ofChange Rows.witnessKnownSpec).bare Rows.witnessKnownRow = true := and_mk (and_mk (and_mk (and_mk (and_mk (and_mk (and_mk (and_mk (and_mk (and_mk (and_mk (and_mk (and_mk (and_mk (and_mk (and_mk (and_mk (and_mk (and_mk (and_mk (and_mk (and_mk (and_mk (and_mk (and_mk (and_mk (and_mk (and_mk (and_mk (and_mk (and_mk k0 k1) k2) k3) k4) k5) k6) k7) k8) k9) k10) k11) k12) k13) k14) k15) k16) k17) k18) k19) k20) k21) k22) k23) k24) k25) k26) k27) k28) k29) k30) k31
theorem named : Tryz.prog.funcNamed "assize/assizelaw18.WitnessKnown" = some 5 := by kernel_rfl
theorem instB : decide (Func.isInstance Tryz.prog Tryz.f5 Rows.witnessKnownRow.origin Rows.witnessKnownRow.targs) = true := by kernel_rfl
theorem wrap : Func.isWrapper Tryz.prog Tryz.f5 Rows.witnessKnownRow.wrapper Rows.witnessKnownRow.mainSum := by
  unfold Func.isWrapper; first | (rw [if_pos (by decide +kernel)]; kernel_rfl) | (rw [if_neg (by decide +kernel)]; exact ⟨rfl, rfl⟩)
theorem byText : Rows.witnessKnownRow.wfByText (OpenSpec.ofChange Rows.witnessKnownSpec) = true := by kernel_rfl
theorem mainIs : Tryz.pinned.checked.prog.mainIs = some (Rows.witnessKnownCard.stood.harness.1, Rows.witnessKnownCard.stood.harness.2.toList) := by kernel_rfl
theorem goes : false = Rows.witnessKnownRow.goesBy Tryz.pinned.checked.prog := by kernel_rfl
theorem looks : true = Tryz.pinned.checked.prog.looks [] := by kernel_rfl
end Go.Proofs.YtbbknbmmpkpgdaaGreatDoor.witnessKnown

/- SearchKnown: what its row says of the program's form, fact by fact. -/
import Derived.Test.YtijkbilfnecoaaaGreatDoorCards
import Derived.JoinedOf
import Derived.KernelRfl
namespace Go.Proofs.YtijkbilfnecoaaaGreatDoor.searchKnown
open Go
theorem and_mk {a b : Bool} (ha : a = true) (hb : b = true) : (a && b) = true := by rw [ha, hb]; rfl
theorem k0 : (Rows.searchKnownRow.wf (OpenSpec.ofChange Rows.searchKnownSpec) : Bool) = true := by kernel_rfl
theorem k1 : (laidOutB Tryz.prog : Bool) = true := by kernel_rfl
theorem k2 : (mapsRowed Tryz.prog : Bool) = true := by kernel_rfl
theorem k3 : (Tryz.f9.params.all (Tryz.prog.readableRec ·) : Bool) = true := by kernel_rfl
theorem k4 : (namedTie Tryz.prog Rows.searchKnownRow.named Rows.searchKnownSpec.vars : Bool) = true := by kernel_rfl
theorem k5 : ((Rows.searchKnownRow.stops == []) : Bool) = true := by kernel_rfl
theorem k6 : ((Tryz.prog.stops == []) : Bool) = true := by kernel_rfl
theorem k7 : ((Rows.searchKnownRow.knobs == []) : Bool) = true := by kernel_rfl
theorem k8 : ((Tryz.prog.stopKnobs == []) : Bool) = true := by kernel_rfl
theorem k9 : ((Rows.searchKnownRow.inPlace == Tryz.prog.inPlace 9) : Bool) = true := by kernel_rfl
theorem k10 : ((Rows.searchKnownRow.unfollowed == Tryz.prog.unfollowed 9) : Bool) = true := by kernel_rfl
theorem k11 : ((Rows.searchKnownRow.recurses == Tryz.prog.recurses 9) : Bool) = true := by kernel_rfl
theorem k12 : ((Rows.searchKnownRow.named == Tryz.prog.varsNamed 9) : Bool) = true := by kernel_rfl
theorem k13 : ((Rows.searchKnownRow.maps == (Tryz.f9.params.toList ++ Rows.searchKnownSpec.plain.varTypes Tryz.prog).any (Tryz.prog.mapsRec ·)) : Bool) = true := by kernel_rfl
theorem k14 : ((Rows.searchKnownRow.ifaces == (Tryz.f9.params.toList ++ Rows.searchKnownSpec.plain.varTypes Tryz.prog).any (Tryz.prog.ifacesRec ·)) : Bool) = true := by kernel_rfl
theorem k15 : ((Rows.searchKnownRow.mapsOut == Tryz.prog.mapsAmong Tryz.f9.resultTypes.toList) : Bool) = true := by kernel_rfl
theorem k16 : ((Rows.searchKnownRow.loops == (Tryz.f9.params.toList ++ Rows.searchKnownSpec.plain.varTypes Tryz.prog).any (Tryz.prog.loopsFrom ·)) : Bool) = true := by kernel_rfl
theorem k17 : ((Rows.searchKnownRow.wideKeys == (Tryz.f9.params.toList ++ Rows.searchKnownSpec.plain.varTypes Tryz.prog ++ Tryz.f9.resultTypes.toList).any (Tryz.prog.wideKeysFrom ·)) : Bool) = true := by kernel_rfl
theorem k18 : (Rows.searchKnownSpec.vars.all (Tryz.prog.varReadable ·) : Bool) = true := by kernel_rfl
theorem k19 : (Tryz.f9.resultTypes.all (fun t => Tryz.prog.readableRec t && decide (t < Tryz.prog.types.size)) : Bool) = true := by kernel_rfl
theorem k20 : ((Rows.searchKnownRow.ifacesOut == Tryz.f9.resultTypes.toList.any (Tryz.prog.ifacesRec ·)) : Bool) = true := by kernel_rfl
theorem k21 : ((Rows.searchKnownRow.loopsOut == Tryz.f9.resultTypes.toList.any (Tryz.prog.loopsFrom ·)) : Bool) = true := by kernel_rfl
theorem k22 : ((Rows.searchKnownRow.plainKeys == Tryz.prog.plainKeys) : Bool) = true := by kernel_rfl
theorem k23 : (Rows.searchKnownRow.shortTexts.isNone : Bool) = true := by kernel_rfl
theorem k24 : (Tryz.prog.stopsHeard : Bool) = true := by kernel_rfl
theorem k25 : (Tryz.prog.mayEnter : Bool) = true := by kernel_rfl
theorem k26 : ((Rows.searchKnownRow.lifted == Tryz.prog.liftsFinal) : Bool) = true := by kernel_rfl
theorem k27 : ((Tryz.prog.make == some Rows.searchKnownRow.make) : Bool) = true := by kernel_rfl
theorem k28 : ((Rows.searchKnownRow.kinds == (if Rows.searchKnownRow.domain.isEmpty then [] else Tryz.f9.params.toList.map fun t => match Tryz.prog.underlying t with | some (.int k) => some k | _ => none)) : Bool) = true := by kernel_rfl
theorem k29 : ((Rows.searchKnownRow.pinned == Rows.searchKnownRow.pinnedBy) : Bool) = true := by kernel_rfl
theorem k30 : ((Rows.searchKnownRow.veiled == (Tryz.f9.params.toList ++ Rows.searchKnownSpec.plain.varTypes Tryz.prog ++ Tryz.f9.resultTypes.toList).any (Tryz.prog.veiledRec ·)) : Bool) = true := by kernel_rfl
theorem k31 : (Rows.searchKnownRow.veiledFits Tryz.prog Tryz.f9.params.toList (Tryz.f9.params.toList ++ Rows.searchKnownSpec.plain.varTypes Tryz.prog ++ Tryz.f9.resultTypes.toList) : Bool) = true := by kernel_rfl
set_option maxRecDepth 100000 in
theorem closed : joinedFacts Tryz.prog 9 Tryz.f9 (OpenSpec.ofChange Rows.searchKnownSpec).bare Rows.searchKnownRow = true := and_mk (and_mk (and_mk (and_mk (and_mk (and_mk (and_mk (and_mk (and_mk (and_mk (and_mk (and_mk (and_mk (and_mk (and_mk (and_mk (and_mk (and_mk (and_mk (and_mk (and_mk (and_mk (and_mk (and_mk (and_mk (and_mk (and_mk (and_mk (and_mk (and_mk (and_mk k0 k1) k2) k3) k4) k5) k6) k7) k8) k9) k10) k11) k12) k13) k14) k15) k16) k17) k18) k19) k20) k21) k22) k23) k24) k25) k26) k27) k28) k29) k30) k31
theorem named : Tryz.prog.funcNamed "assize/assizelaw16.SearchKnown" = some 9 := by kernel_rfl
theorem instB : decide (Func.isInstance Tryz.prog Tryz.f9 Rows.searchKnownRow.origin Rows.searchKnownRow.targs) = true := by kernel_rfl
theorem wrap : Func.isWrapper Tryz.prog Tryz.f9 Rows.searchKnownRow.wrapper Rows.searchKnownRow.mainSum := by
  unfold Func.isWrapper; first | (rw [if_pos (by decide +kernel)]; kernel_rfl) | (rw [if_neg (by decide +kernel)]; exact ⟨rfl, rfl⟩)
theorem byText : Rows.searchKnownRow.wfByText (OpenSpec.ofChange Rows.searchKnownSpec) = true := by kernel_rfl
theorem mainIs : Tryz.pinned.checked.prog.mainIs = some (Rows.searchKnownCard.stood.harness.1, Rows.searchKnownCard.stood.harness.2.toList) := by kernel_rfl
theorem goes : false = Rows.searchKnownRow.goesBy Tryz.pinned.checked.prog := by kernel_rfl
theorem looks : true = Tryz.pinned.checked.prog.looks [] := by kernel_rfl
end Go.Proofs.YtijkbilfnecoaaaGreatDoor.searchKnown

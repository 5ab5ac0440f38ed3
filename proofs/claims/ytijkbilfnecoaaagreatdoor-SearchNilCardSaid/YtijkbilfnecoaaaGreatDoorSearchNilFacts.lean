/- SearchNil: what its row says of the program's form, fact by fact. -/
import Derived.Test.YtijkbilfnecoaaaGreatDoorCards
import Derived.JoinedOf
import Derived.KernelRfl
namespace Go.Proofs.YtijkbilfnecoaaaGreatDoor.searchNil
open Go
theorem and_mk {a b : Bool} (ha : a = true) (hb : b = true) : (a && b) = true := by rw [ha, hb]; rfl
theorem k0 : (Rows.searchNilRow.wf (OpenSpec.ofChange Rows.searchNilSpec) : Bool) = true := by kernel_rfl
theorem k1 : (laidOutB Tryz.prog : Bool) = true := by kernel_rfl
theorem k2 : (mapsRowed Tryz.prog : Bool) = true := by kernel_rfl
theorem k3 : (Tryz.f14.params.all (Tryz.prog.readableRec ·) : Bool) = true := by kernel_rfl
theorem k4 : (namedTie Tryz.prog Rows.searchNilRow.named Rows.searchNilSpec.vars : Bool) = true := by kernel_rfl
theorem k5 : ((Rows.searchNilRow.stops == []) : Bool) = true := by kernel_rfl
theorem k6 : ((Tryz.prog.stops == []) : Bool) = true := by kernel_rfl
theorem k7 : ((Rows.searchNilRow.knobs == []) : Bool) = true := by kernel_rfl
theorem k8 : ((Tryz.prog.stopKnobs == []) : Bool) = true := by kernel_rfl
theorem k9 : ((Rows.searchNilRow.inPlace == Tryz.prog.inPlace 14) : Bool) = true := by kernel_rfl
theorem k10 : ((Rows.searchNilRow.unfollowed == Tryz.prog.unfollowed 14) : Bool) = true := by kernel_rfl
theorem k11 : ((Rows.searchNilRow.recurses == Tryz.prog.recurses 14) : Bool) = true := by kernel_rfl
theorem k12 : ((Rows.searchNilRow.named == Tryz.prog.varsNamed 14) : Bool) = true := by kernel_rfl
theorem k13 : ((Rows.searchNilRow.maps == (Tryz.f14.params.toList ++ Rows.searchNilSpec.plain.varTypes Tryz.prog).any (Tryz.prog.mapsRec ·)) : Bool) = true := by kernel_rfl
theorem k14 : ((Rows.searchNilRow.ifaces == (Tryz.f14.params.toList ++ Rows.searchNilSpec.plain.varTypes Tryz.prog).any (Tryz.prog.ifacesRec ·)) : Bool) = true := by kernel_rfl
theorem k15 : ((Rows.searchNilRow.mapsOut == Tryz.prog.mapsAmong Tryz.f14.resultTypes.toList) : Bool) = true := by kernel_rfl
theorem k16 : ((Rows.searchNilRow.loops == (Tryz.f14.params.toList ++ Rows.searchNilSpec.plain.varTypes Tryz.prog).any (Tryz.prog.loopsFrom ·)) : Bool) = true := by kernel_rfl
theorem k17 : ((Rows.searchNilRow.wideKeys == (Tryz.f14.params.toList ++ Rows.searchNilSpec.plain.varTypes Tryz.prog ++ Tryz.f14.resultTypes.toList).any (Tryz.prog.wideKeysFrom ·)) : Bool) = true := by kernel_rfl
theorem k18 : (Rows.searchNilSpec.vars.all (Tryz.prog.varReadable ·) : Bool) = true := by kernel_rfl
theorem k19 : (Tryz.f14.resultTypes.all (fun t => Tryz.prog.readableRec t && decide (t < Tryz.prog.types.size)) : Bool) = true := by kernel_rfl
theorem k20 : ((Rows.searchNilRow.ifacesOut == Tryz.f14.resultTypes.toList.any (Tryz.prog.ifacesRec ·)) : Bool) = true := by kernel_rfl
theorem k21 : ((Rows.searchNilRow.loopsOut == Tryz.f14.resultTypes.toList.any (Tryz.prog.loopsFrom ·)) : Bool) = true := by kernel_rfl
theorem k22 : ((Rows.searchNilRow.plainKeys == Tryz.prog.plainKeys) : Bool) = true := by kernel_rfl
theorem k23 : (Rows.searchNilRow.shortTexts.isNone : Bool) = true := by kernel_rfl
theorem k24 : (Tryz.prog.stopsHeard : Bool) = true := by kernel_rfl
theorem k25 : (Tryz.prog.mayEnter : Bool) = true := by kernel_rfl
theorem k26 : ((Rows.searchNilRow.lifted == Tryz.prog.liftsFinal) : Bool) = true := by kernel_rfl
theorem k27 : ((Tryz.prog.make == some Rows.searchNilRow.make) : Bool) = true := by kernel_rfl
theorem k28 : ((Rows.searchNilRow.kinds == (if Rows.searchNilRow.domain.isEmpty then [] else Tryz.f14.params.toList.map fun t => match Tryz.prog.underlying t with | some (.int k) => some k | _ => none)) : Bool) = true := by kernel_rfl
theorem k29 : ((Rows.searchNilRow.pinned == Rows.searchNilRow.pinnedBy) : Bool) = true := by kernel_rfl
theorem k30 : ((Rows.searchNilRow.veiled == (Tryz.f14.params.toList ++ Rows.searchNilSpec.plain.varTypes Tryz.prog ++ Tryz.f14.resultTypes.toList).any (Tryz.prog.veiledRec ·)) : Bool) = true := by kernel_rfl
theorem k31 : (Rows.searchNilRow.veiledFits Tryz.prog Tryz.f14.params.toList (Tryz.f14.params.toList ++ Rows.searchNilSpec.plain.varTypes Tryz.prog ++ Tryz.f14.resultTypes.toList) : Bool) = true := by kernel_rfl
set_option maxRecDepth 100000 in
theorem closed : joinedFacts Tryz.prog 14 Tryz.f14 (OpenSpec.ofChange Rows.searchNilSpec).bare Rows.searchNilRow = true := and_mk (and_mk (and_mk (and_mk (and_mk (and_mk (and_mk (and_mk (and_mk (and_mk (and_mk (and_mk (and_mk (and_mk (and_mk (and_mk (and_mk (and_mk (and_mk (and_mk (and_mk (and_mk (and_mk (and_mk (and_mk (and_mk (and_mk (and_mk (and_mk (and_mk (and_mk k0 k1) k2) k3) k4) k5) k6) k7) k8) k9) k10) k11) k12) k13) k14) k15) k16) k17) k18) k19) k20) k21) k22) k23) k24) k25) k26) k27) k28) k29) k30) k31
theorem named : Tryz.prog.funcNamed "assize/assizelaw16.SearchNil" = some 14 := by kernel_rfl
theorem instB : decide (Func.isInstance Tryz.prog Tryz.f14 Rows.searchNilRow.origin Rows.searchNilRow.targs) = true := by kernel_rfl
theorem wrap : Func.isWrapper Tryz.prog Tryz.f14 Rows.searchNilRow.wrapper Rows.searchNilRow.mainSum := by
  unfold Func.isWrapper; first | (rw [if_pos (by decide +kernel)]; kernel_rfl) | (rw [if_neg (by decide +kernel)]; exact ⟨rfl, rfl⟩)
theorem byText : Rows.searchNilRow.wfByText (OpenSpec.ofChange Rows.searchNilSpec) = true := by kernel_rfl
theorem mainIs : Tryz.pinned.checked.prog.mainIs = some (Rows.searchNilCard.stood.harness.1, Rows.searchNilCard.stood.harness.2.toList) := by kernel_rfl
theorem goes : false = Rows.searchNilRow.goesBy Tryz.pinned.checked.prog := by kernel_rfl
theorem looks : true = Tryz.pinned.checked.prog.looks [] := by kernel_rfl
end Go.Proofs.YtijkbilfnecoaaaGreatDoor.searchNil

import Derived.Test.YtbbknbmmpkpgdaaGreatDoorKTop
import Derived.KernelRfl
namespace Go.Proofs.YtbbknbmmpkpgdaaGreatDoor.KAb
theorem find_esc (fn : Func) (h : fn.name = "internal/abi.NoEscape") : Extern.find fn = some Extern.AbiNoEscape.same := by
  have e1 : Extern.allGenericRows.lookup "internal/abi.NoEscape" = none := by kernel_rfl
  have e2 : Extern.allTypedRows.lookup "internal/abi.NoEscape" = none := by kernel_rfl
  have e3 : Extern.allRows.lookup "internal/abi.NoEscape" = some Extern.AbiNoEscape.same := by kernel_rfl
  simp [Extern.find, h, e1, e2, e3]
theorem find_mnz (fn : Func) (h : fn.name = "internal/bytealg.MakeNoZero") : Extern.find fn = some (Extern.BytealgMakeNoZero.makeNoZero fn.params fn.resultTypes) := by
  have e1 : Extern.allGenericRows.lookup "internal/bytealg.MakeNoZero" = none := by kernel_rfl
  have e2 : Extern.allTypedRows.lookup "internal/bytealg.MakeNoZero" = some Extern.BytealgMakeNoZero.makeNoZero := by kernel_rfl
  simp [Extern.find, h, e1, e2]
def goodFn (fn : Func) : Bool := !(fn.name == "runtime.NumGoroutine") && (fn.body.isSome || !(fn.name == "internal/abi.NoEscape" || fn.name == "internal/bytealg.MakeNoZero") || (Extern.findNext fn).isNone)
theorem good_of {P : Program} (h : P.funcs.toList.all goodFn = true) (hm : P.follows .mixedOrders = true) : Good P := by
  have at_ : ∀ (f : FuncId) (fn : Func), P.funcs[f]? = some fn → goodFn fn = true := fun f fn hf => List.all_eq_true.1 h fn (by
    rw [← Array.getElem?_toList] at hf
    exact List.mem_of_getElem? hf)
  refine ⟨fun f fn hf => ?_, fun f fn hf hb hn => ⟨?_, find_esc fn hn⟩, fun f fn hf hb hn => ⟨?_, find_mnz fn hn⟩, hm⟩
  · have := at_ f fn hf
    unfold goodFn at this
    rw [Bool.and_eq_true] at this
    simpa using this.1
  · have := at_ f fn hf
    unfold goodFn at this
    rw [Bool.and_eq_true] at this
    have h2 := this.2
    rw [hb, hn] at h2
    simpa using h2
  · have := at_ f fn hf
    unfold goodFn at this
    rw [Bool.and_eq_true] at this
    have h2 := this.2
    rw [hb, hn] at h2
    simpa using h2
end Go.Proofs.YtbbknbmmpkpgdaaGreatDoor.KAb

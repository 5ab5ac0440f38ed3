import Derived.Test.YtbbknbmmpkpgdaaGreatDoorKLook
import Derived.Laws.BytesString
namespace Go.Proofs.YtbbknbmmpkpgdaaGreatDoor.KAb
section
variable {P : Program} {B : Nat → Prop} {W0 : World} {pend : Nat → Prop} {s : AS} {m : Mp} {w : World}

/-! Places of a string. -/
def halves {α : Type} : List α → Bool → List α
  | [], _ => []
  | x :: l, true => x :: halves l false
  | _ :: l, false => halves l true
theorem evens_eq {α : Type} (l : List α) : evens l = halves l true ∧ odds l = halves l false := by
  have h : ∀ (l : List α) (b : Bool), (List.rec (motive := fun _ => Bool → List α) (fun _ => []) (fun x _ ih b => Bool.rec (motive := fun _ => List α) (ih true) (x :: ih false) b) l b : List α) = halves l b := by
    intro l
    induction l with
    | nil => intro b; rfl
    | cons x l ih =>
      intro b
      cases b
      · exact ih true
      · exact congrArg (x :: ·) (ih false)
  exact ⟨h l true, h l false⟩
theorem halves_get {α : Type} (l : List α) : ∀ j, (halves l true)[j]? = l[2 * j]? ∧ (halves l false)[j]? = l[2 * j + 1]? := by
  induction l with
  | nil => intro j; simp [halves]
  | cons x l ih =>
    intro j
    constructor
    · cases j with
      | zero => simp [halves]
      | succ j => simp only [halves, List.getElem?_cons_succ, (ih j).2]; rw [show 2 * (j + 1) = 2 * j + 1 + 1 by omega, List.getElem?_cons_succ]
    · simp only [halves, (ih j).1, List.getElem?_cons_succ]
theorem treeOf_get {α : Type} (f : Nat) : ∀ (l : List α) (i : Nat) (c : α), getT (treeOf f l) i = some c → i < l.length → l[i]? = some c := by
  induction f with
  | zero => intro l i c h; cases h
  | succ f ih =>
    intro l i c h hi
    match l with
    | [] => cases h
    | [x] =>
      have h' : getT (.leaf x) i = some c := h
      have : i = 0 := by simp at hi; omega
      subst this
      rw [getT_leaf] at h'
      simpa using h'
    | x :: y :: r =>
      have h' : getT (.node (treeOf f (evens (x :: y :: r))) (treeOf f (odds (x :: y :: r)))) i = some c := h
      rw [getT_node, (evens_eq _).1, (evens_eq _).2] at h'
      have hg := halves_get (x :: y :: r)
      split at h'
      · rename_i he
        have h2 := (hg (i / 2)).1
        rw [show 2 * (i / 2) = i by omega] at h2
        rw [← h2]
        refine ih _ _ _ h' ?_
        exact (List.getElem?_eq_some_iff.1 (h2.trans (List.getElem?_eq_getElem hi))).1
      · rename_i he
        have h2 := (hg (i / 2)).2
        rw [show 2 * (i / 2) + 1 = i by omega] at h2
        rw [← h2]
        refine ih _ _ _ h' ?_
        exact (List.getElem?_eq_some_iff.1 (h2.trans (List.getElem?_eq_getElem hi))).1
theorem byteSize (b : ByteArray) : b.data.toList.length = b.size := by rw [Array.length_toList]; rfl
theorem bytes_ext {a b : ByteArray} (h : a.data.toList = b.data.toList) : a = b := by
  cases a; cases b
  congr 1
  exact Array.toList_inj.1 h
theorem indexStr_ls {t : TypeId} (hk : skind P t = .string) {x i u v : Value} (hx : VRel m s.dead x u) (hi : VRel m s.dead i v) : LS P s m w (indexStr x i) (Instr.index t u v) := by
  intro y h
  have hsk := skind_ok P t
  rw [hk] at hsk
  cases hsk with
  | string hd =>
    unfold indexStr at h
    split at h
    · cases h
    · rename_i n hn
      obtain ⟨k, rfl⟩ := natOf_ok hn
      have := hi.int_inv
      subst this
      split at h
      · rename_i b
        have := hx.string_inv
        subst this
        simp only [bif', brec, Nat.ble_eq, lenK_eq] at h
        split at h
        · rename_i hlt
          split at h
          · rename_i c hc
            cases h
            have hlt' : n < b.data.toList.length := hlt
            have hg := treeOf_get _ _ _ _ hc hlt'
            have hsz : n < b.size := by rw [← byteSize]; exact hlt'
            have hb : b[n]? = some c := by
              rw [getElem?_pos b n hsz]
              have h1 : b.data[n]? = some c := by simpa using hg
              have h2 := (Array.getElem?_eq_some_iff.1 h1).2
              exact congrArg some h2
            refine ⟨.int .u8 c.toNat, ?_, .flat _ rfl⟩
            simp [Instr.index, run_asIntOf, run_underlying hd, hb]
          · cases h
        · cases h
      · cases h
theorem indexArr_ls {t e : TypeId} {n size : Nat} (hk : skind P t = .array n size) (he : arrElem P t = some e) {x i u v : Value} (hx : VRel m s.dead x u) (hi : VRel m s.dead i v) :
    LS P s m w (indexArr (tkind P e) n size x i) (Instr.index t u v) := by
  intro y h
  have hsk := skind_ok P t
  rw [hk] at hsk
  cases hsk with
  | array _ e' info hd hinfo =>
    have : e = e' := by
      unfold arrElem at he
      rw [hd] at he
      simpa using he.symm
    subst this
    unfold indexArr at h
    split at h
    · cases h
    · rename_i j hn
      obtain ⟨k, rfl⟩ := natOf_ok hn
      have := hi.int_inv
      subst this
      split at h
      · rename_i cs
        obtain ⟨ds, rfl, hl⟩ := hx.agg_inv
        simp only [bif', brec, Nat.ble_eq] at h
        split at h
        · rename_i hlt
          have hlt' : j < n := hlt
          obtain ⟨z, hz, hr⟩ := part_ls (P := P) (w := w) hl y h
          refine ⟨z, ?_, hr⟩
          simp only [Instr.index, Sem.run_bind, run_asIntOf, Result.andThen_ok, run_underlying hd]
          simp [hlt', run_size hinfo]
          exact hz
        · cases h
      · cases h

/-! Slices of slices. -/
theorem run_sliceBound {k : IntKind} {x y : Nat} (code : BoundsCode) (h : x ≤ y) (w : World) : (Instr.sliceBound (.int k x) y code).run P w = .ok x w := by
  simp [Instr.sliceBound, run_asIntOf, h]
/-- Bounds that are given, as they are read. -/
inductive Given : Option Value → Option Nat → Prop
  | no : Given none none
  | yes (k : IntKind) (x : Nat) : Given (some (.int k x)) (some x)
theorem Given.of {v : Option Value} {n : Option Nat} (h : onat v = some n) : Given v n := by
  rcases onat_ok h with ⟨rfl, rfl⟩ | ⟨k, x, rfl, rfl⟩
  · exact .no
  · exact .yes k x
theorem run_sliceBounds (isSlice : Bool) (len cap : Nat) {lo hi mx : Option Value} {l h mm : Option Nat} (hl : Given lo l) (hh : Given hi h) (hm : Given mx mm) (w : World)
    (h1 : l.getD 0 ≤ h.getD len) (h2 : h.getD len ≤ mm.getD cap) (h3 : mm.getD cap ≤ cap) (hnm : mm.isSome = true → h.isSome = true) (h4 : h.isSome = true → h.getD len ≤ cap) :
    (Instr.sliceBounds isSlice len cap lo hi mx).run P w = .ok (l.getD 0, h.getD len, mm.getD cap) w := by
  cases hl <;> cases hh <;> cases hm <;> simp at h1 h2 h3 h4 hnm <;> simp [Instr.sliceBounds, run_sliceBound, *]
theorem run_bytesSize : True := trivial
theorem getD'_eq {α : Type} (o : Option α) (d : α) : getD' o d = o.getD d := by cases o <;> rfl
theorem isN_eq {α : Type} (o : Option α) : isN o = o.isNone := by cases o <;> rfl
theorem extract8_eq (b : ByteArray) (l h : Nat) (_hh : h ≤ b.size) : extract8 b l h = b.extract l h := by
  apply bytes_ext
  have e : (b.extract l h).data = b.data.extract l h := by simp [ByteArray.data_extract]
  rw [e]
  simp only [extract8, takeK_eq, dropK_eq]
  simp [Array.toList_extract, List.extract_eq_drop_take']
  try rfl
end
end Go.Proofs.YtbbknbmmpkpgdaaGreatDoor.KAb

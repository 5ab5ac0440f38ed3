import Derived.Test.YtbbknbmmpkpgdaaGreatDoorKLook6
import Derived.Lib.UnsafeStr
namespace Go.Proofs.YtbbknbmmpkpgdaaGreatDoor.KAb
section
variable {P : Program} {B : Nat → Prop} {W0 : World} {pend : Nat → Prop} {s : AS} {m : Mp} {w : World}

theorem foldl_push (ns : List Nat) (a : ByteArray) : (ns.map (fun n : Nat => (n : Int))).foldl (fun r n => r.push (UInt8.ofNat n.toNat)) a = ⟨(a.data.toList ++ ns.map UInt8.ofNat).toArray⟩ := by
  induction ns generalizing a with
  | nil => cases a; simp
  | cons n ns ih =>
    simp only [List.map_cons, List.foldl_cons, ih]
    apply bytes_ext
    simp [ByteArray.push]
theorem convStr_ls (hR : Rel P B W0 pend s m w) {src dst : TypeId} (hs : srcKind P src ≠ .bad) (hk : ckind P dst = .string) {x u : Value} (hx : VRel m s.dead x u) : LS P s m w (convStr (srcKind P src) x s) (convert src dst u) := by
  intro y h
  have hck := ckind_ok P dst
  rw [hk] at hck
  cases hck with
  | string hd =>
    unfold convStr at h
    split at h
    · have := hx.string_inv; subst this
      cases h
      obtain ⟨d, hd'⟩ := srcKind_some hs
      exact ⟨_, by simp [convert, run_underlying hd, run_underlying hd'], .flat _ rfl⟩
    · rename_i a n c
      split at h
      · rename_i hsk
        have hsk' := srcKind_ok P src
        rw [hsk] at hsk'
        cases hsk' with
        | bytes e hd' he =>
          split at h
          · rename_i cs hcs
            split at h
            · rename_i bs hbs
              cases h
              obtain ⟨b, cap, us, rfl, hrel, hrun⟩ := hR.sliceCells hx hcs (Nat.le_refl _)
              obtain ⟨ns, rfl, rfl⟩ := toBytes_ok hbs
              have hus := all_flat1 hrel (ints_flat ns)
              subst hus
              have h1 := hrun w rfl
              refine ⟨.string ⟨(ns.map UInt8.ofNat).toArray⟩, ?_, .flat _ rfl⟩
              rw [run_convert_bytes_string w src dst e _ _ _ hd' he hd]
              cases b with
              | none =>
                simp [Builtin.firstCells] at h1
                subst h1
                simp [Conv.bytesToString]
                rfl
              | some b =>
                simp only [Builtin.firstCells, Nat.mul_one] at h1
                have h2 : (loadCells b n).run P w = .ok ((ns.map (fun k : Nat => (k : Int))).map (Value.int .u8)).toArray w := by rw [h1]; simp [Function.comp_def]
                rw [run_bytesToString w b n cap _ h2, foldl_push]
                simp
            · cases h
          · cases h
      · cases h
    · cases h

/-! Pointers seen otherwise. -/
theorem rowAt_mono {P : Program} {fits : TypeId → Bool} : ∀ (d : Nat) (e : TypeId) (c c' off n : Nat), c ≤ c' → rowAt P fits d e c off n = true → rowAt P fits d e c' off n = true := by
  intro d e c c' off n hc h
  cases d with
  | zero => simp [rowAt] at h
  | succ d =>
    simp only [rowAt] at h ⊢
    split
    · rename_i h0; rw [if_pos h0] at h; exact h
    · rename_i h0
      rw [if_neg h0] at h
      simp only [Bool.or_eq_true, Bool.and_eq_true, beq_iff_eq, decide_eq_true_eq] at h ⊢
      rcases h with ⟨⟨h1, h2⟩, h3⟩ | ⟨h1, h2⟩
      · exact .inl ⟨⟨h1, by omega⟩, h3⟩
      · exact .inr ⟨by omega, h2⟩
theorem liesAt_mono' {P : Program} : ∀ (d : Nat) (e : TypeId) (c c' off : Nat) (u : TypeId) (n : Nat), c ≤ c' → liesAt P d e c off u n = true → liesAt P d e c' off u n = true := by
  intro d
  induction d with
  | zero => intro e c c' off u n _ h; simp [liesAt] at h
  | succ d ih =>
    intro e c c' off u n hc h
    simp only [liesAt, Bool.or_eq_true] at h ⊢
    rcases h with h | h
    · exact .inl (rowAt_mono _ _ _ _ _ _ hc h)
    · right
      split
      · rename_i k u' hd; rw [hd] at h; exact ih _ _ _ _ _ _ hc h
      · rename_i hne
        split at h
        · rename_i k u' hd; exact absurd hd (hne k u')
        · cases h
theorem RowAt.lies {dead : Nat → Prop} {b c : Nat} {cells : List Value} {el : TypeId} {ro : Bool} {C : Array Value} {fz : Nat × Nat} (r : RowAt P B m dead w b c cells el ro C fz) {off : Nat} {u : TypeId} {n : Nat}
    (h : liesOk P el (lenK cells) off u n = true) : (variablesAt ⟨c, off, none⟩ u n).run P w = .ok true w := by
  have hsh : w.shape? c = some (el, C.size) := by simp [World.shape?, r.hc]
  have h' : liesAt P P.depth el (C.size / P.cellsOf el) off u n = true :=
    liesAt_mono' _ _ _ _ _ _ _ (Nat.div_le_div_right (by rw [lenK_eq]; exact r.len)) h
  simp [variablesAt, hsh, h']
inductive PKs (P : Program) (src dst : TypeId) : PK → Prop
  | out (t : TypeId) (i : TypeInfo) (h : P.underlying src = some (.pointer t)) (hd : P.underlying dst = some .unsafePointer) (hi : P.info? t = some i) : PKs P src dst (.out i.size)
  | back (u : TypeId) (i : TypeInfo) (h : P.underlying src = some .unsafePointer) (hd : P.underlying dst = some (.pointer u)) (hi : P.info? u = some i) : PKs P src dst (.back u i.size)
  | other : PKs P src dst .other
theorem pkind_ok (P : Program) (src dst : TypeId) : PKs P src dst (pkind P src dst) := by
  unfold pkind
  split
  · rename_i t hs
    split
    · rename_i hd
      split
      · rename_i n hn; obtain ⟨i, hi, rfl⟩ := tsize_some hn; exact .out t i hs hd hi
      · exact .other
    · exact .other
  · rename_i hs
    split
    · rename_i u hd
      split
      · rename_i n hn; obtain ⟨i, hi, rfl⟩ := tsize_some hn; exact .back u i hs hd hi
      · exact .other
    · exact .other
  · exact .other
theorem RowAt.seen {dead : Nat → Prop} {b c : Nat} {cells : List Value} {el : TypeId} {ro : Bool} {C : Array Value} {fz : Nat × Nat} (r : RowAt P B m dead w b c cells el ro C fz) (off : Nat) :
    (Conv.seenAt ⟨c, off, none⟩).run P w = .ok ⟨c, off, none⟩ w := by
  have hsh : w.shape? c = some (el, C.size) := by simp [World.shape?, r.hc]
  simp [Conv.seenAt, viewAt, hsh]
theorem convOther_ls (hR : Rel P B W0 pend s m w) {src dst : TypeId} {x u : Value} (hx : VRel m s.dead x u) : LS P s m w (convOther P src dst x s) (convert src dst u) := by
  intro y h
  unfold convOther at h
  have hpk := pkind_ok P src dst
  split at h
  · rename_i n hk
    rw [hk] at hpk
    cases hpk with
    | out t i hs hd hi =>
      unfold ptrOut at h
      split at h
      · rename_i b off
        split at h
        · rename_i cs el ro hg
          simp only [bif', brec, Nat.beq_eq, Nat.ble_eq] at h
          split at h
          · cases h
          · rename_i hsz
            split at h
            · rename_i hlt
              cases h
              obtain ⟨c, C, fz, _, rfl, r⟩ := hR.ptr_row hx hg
              refine ⟨_, ?_, hx⟩
              have hsh : w.shape? c = some (el, C.size) := by simp [World.shape?, r.hc]
              have hlen := r.len
              rw [lenK_eq] at hlt
              have hno : ¬ C.size ≤ off := by have : off + 1 ≤ cs.length := hlt; omega
              have hno' : decide (C.size ≤ off) = false := by simpa using hno
              simp [convert, run_underlying hs, run_underlying hd, Conv.unsafePointer, r.seen off, cellsIn, hsh, run_size hi, hsz, hno']
            · cases h
        · cases h
      · cases h
  · rename_i u' n hk
    rw [hk] at hpk
    cases hpk with
    | back _ i hs hd hi =>
      unfold ptrBack at h
      split at h
      · rename_i b off
        split at h
        · rename_i cs el ro hg
          simp only [bif', brec, Nat.beq_eq] at h
          split at h
          · cases h
          · rename_i hsz
            split at h
            · rename_i hlies
              cases h
              obtain ⟨c, C, fz, _, rfl, r⟩ := hR.ptr_row hx hg
              refine ⟨_, ?_, hx⟩
              simp [convert, run_underlying hs, run_underlying hd, Conv.unsafePointer, r.seen off, run_size hi, hsz, r.lies hlies]
            · cases h
        · cases h
      · cases h
  · exact convFlat_ls hx y h

theorem doNilCheck_ls {x u : Value} (hx : VRel m s.dead x u) {y : Value} (h : doNilCheck x = .ok y) : y = x ∧ ((∃ a, u = .pointer (some a)) ∨ ∃ f g c, u = .func (.func f) g c) := by
  unfold doNilCheck at h
  split at h
  · cases h; exact ⟨rfl, .inl (ptr_some_inv hx)⟩
  · cases h; obtain ⟨g, d, rfl, _⟩ := hx.func_inv; exact ⟨rfl, .inr ⟨_, _, _, rfl⟩⟩
  · cases h
theorem isIface_no {t : TypeId} (h : isIface P t = .no) : ∃ d, P.underlying t = some d ∧ ∀ ms, d ≠ .interface ms := by
  unfold isIface at h
  split at h
  · cases h
  · cases h
  · rename_i h1 h2
    cases hd : P.underlying t with
    | none => exact absurd hd h2
    | some d => exact ⟨d, rfl, fun ms e => h1 ms (e ▸ hd)⟩
theorem makeIface_ok {t : TypeId} (h : isIface P t = .no) (u : Value) (w : World) : (Instr.makeInterface t u).run P w = .ok (.iface t u) w := by
  obtain ⟨d, hd, hne⟩ := isIface_no h
  simp only [Instr.makeInterface, Sem.run_bind, run_underlying hd, Result.andThen_ok]
  cases d <;> first | rfl | exact absurd rfl (hne _)
theorem lookRes_rel {ok b : Bool} {v u : Value} (h : VRel m s.dead v u) : VRel m s.dead (lookRes ok v b) (if ok then .tuple #[u, .bool b] else u) := by
  cases ok
  · exact h
  · exact vrel_tuple (.cons h (.cons (.flat _ rfl) .nil))
theorem doTypeAssert_ls {t asserted : TypeId} {ok : Bool} (hi : isIface P asserted = .no) {x u : Value} (hx : VRel m s.dead x u) : LS P s m w (doTypeAssert (tzero P asserted) asserted ok x) (Instr.typeAssert u t asserted ok) := by
  intro y h
  obtain ⟨d, hd, hne⟩ := isIface_no hi
  unfold doTypeAssert at h
  split at h
  · rename_i tt v
    obtain ⟨u, rfl, hv⟩ := hx.iface_inv
    simp only [bif', brec, Nat.beq_eq] at h
    split at h
    · rename_i e
      subst e
      cases h
      refine ⟨_, ?_, lookRes_rel hv⟩
      simp only [Instr.typeAssert, Sem.run_bind, run_underlying hd, Result.andThen_ok]
      cases d <;> first | exact absurd rfl (hne _) | (simp only [if_true, Sem.run_pure]; done) | (simp; done) | (simp; cases ok <;> rfl)
    · rename_i e
      split at h
      · rename_i hok
        split at h
        · rename_i z hz
          cases h
          obtain ⟨i, hi', hz', hf⟩ := tzero_some hz
          subst hok
          refine ⟨.tuple #[z, .bool false], ?_, vrel_tuple (.cons (vrel_flat hf) (.cons (.flat _ rfl) .nil))⟩
          simp only [Instr.typeAssert, Sem.run_bind, run_underlying hd, Result.andThen_ok]
          cases d <;> first | exact absurd rfl (hne _) | simp [e, run_zero hi' hz']
        · cases h
      · cases h
  · cases h
theorem doExtract_ls {x u : Value} {i : Nat} (hx : VRel m s.dead x u) : LS P s m w (doExtract x i) (Instr.extract u i) := by
  intro y h
  unfold doExtract at h
  split at h
  · obtain ⟨ys, rfl, hl⟩ := hx.tuple_inv
    unfold part1 at h
    split at h
    · rename_i v hv
      cases h
      rw [nthK_eq] at hv
      obtain ⟨u, hu, hr⟩ := hl.get hv
      have hu' : ys[i]? = some u := by simpa using hu
      exact ⟨u, by simp [Instr.extract, hu'], hr⟩
    · cases h
  · cases h
theorem doCap_ls {argTypes : Array TypeId} {t : TypeId} {e : TypeId} (ht : argTypes[0]? = some t) (hd : P.underlying t = some (.slice e)) {type : TypeId} {x u : Value} (hx : VRel m s.dead x u) : LS P s m w (doCap x) (Builtin.cap_ argTypes type #[u]) := by
  intro y h
  unfold doCap at h
  split at h
  · rename_i a len code
    simp only [bif', brec] at h
    split at h
    · rename_i hex
      cases h
      have : ∃ b l, u = .slice b l (half code) := by
        cases a with
        | none => obtain ⟨rfl, rfl, rfl⟩ := hx.snil_inv; exact ⟨_, _, rfl⟩
        | some a =>
          rcases hx.slice_inv with ⟨b', o', c, N, z, cap, rfl, rfl, _, he, _⟩ | ⟨y', rfl, rfl, hh⟩ | ⟨_, y', cap, rfl, he, _⟩
          · rw [he hex]; exact ⟨_, _, rfl⟩
          · rw [hh]; exact ⟨_, _, rfl⟩
          · rw [he hex]; exact ⟨_, _, rfl⟩
      obtain ⟨b, l, rfl⟩ := this
      exact ⟨.int .i64 ((half code : Nat) : Int), by simp [Builtin.cap_, ht, run_underlying hd, goInt], .flat _ rfl⟩
    · cases h
  · cases h
theorem sliceData_ls {argTypes : Array TypeId} {type : TypeId} {x u : Value} (hx : VRel m s.dead x u) : LS P s m w (sliceData x) (Builtin.unsafeSliceData_ argTypes type #[u]) := by
  intro y h
  unfold sliceData at h
  split at h
  · obtain ⟨rfl, rfl, rfl⟩ := hx.snil_inv
    cases h
    exact ⟨.pointer none, Lib.run_unsafeSliceData_nil _ _ _ _ _, .flat _ rfl⟩
  · rename_i a len code
    simp only [bif', brec, Nat.beq_eq] at h
    split at h
    · cases h
    · rename_i hne
      cases h
      rcases hx.slice_inv with ⟨b', o', c, N, z, cap, rfl, rfl, hm, he, hl, _⟩ | ⟨y', rfl, rfl, hh⟩ | ⟨hd, y', cap, rfl, he, hl⟩
      · have : cap ≠ 0 := by omega
        exact ⟨.pointer (some ⟨c, o', none⟩), Lib.run_unsafeSliceData_row _ _ _ _ _ _ this, .ptr _ _ _ _ _ hm⟩
      · exact absurd hh hne
      · have : cap ≠ 0 := by omega
        obtain ⟨x1, x2, x3⟩ := a
        exact ⟨.pointer (some y'), Lib.run_unsafeSliceData_row _ _ _ _ _ _ this, .ptrDead _ _ _ _ hd⟩
  · cases h
end
end Go.Proofs.YtbbknbmmpkpgdaaGreatDoor.KAb

import Derived.Test.YtbbknbmmpkpgdaaGreatDoorKLook4
namespace Go.Proofs.YtbbknbmmpkpgdaaGreatDoor.KAb
section
variable {P : Program} {B : Nat → Prop} {W0 : World} {pend : Nat → Prop} {s : AS} {m : Mp} {w : World}

theorem adr_ok {op : BinOp} {b : Bool} {v : Value} (h : (binK op).adr b = .v v) : (op = .eql ∧ v = .bool b) ∨ (op = .neq ∧ v = .bool (!b)) := by
  cases op <;> simp only [binK, BR.v.injEq, reduceCtorEq] at h
  · exact .inl ⟨rfl, h.symm⟩
  · exact .inr ⟨rfl, by rw [← h, notB_eq]⟩
/-- The values that an equation of the evaluator's own speaks of. -/
def eqish : Value → Bool
  | .pointer _ | .slice _ _ _ | .map _ | .nilFunc | .func _ _ _ | .nilIface | .iface _ _ => true
  | _ => false
theorem run_eql {op : BinOp} {t : TypeId} {x y : Operand} {u v : Value} {r : Bool} {z : Value} (hz : (op = .eql ∧ z = .bool r) ∨ (op = .neq ∧ z = .bool (!r))) (hu : eqish u = true) (hv : eqish v = true)
    (hn : u ≠ .nilIface ∨ v ≠ .nilIface) (h : (Op.equal t u v).run P w = .ok r w) : (do eqGuard op t x y u v; binOp op t u v : Sem Value).run P w = .ok z w := by
  have hg : (eqGuard op t x y u v).run P w = .ok () w := by
    cases u <;> simp only [eqish, Bool.false_eq_true] at hu <;> cases v <;> simp only [eqish, Bool.false_eq_true] at hv <;> first | (simp at hn; done) | (simp [eqGuard]; done)
  have hb : (binOp op t u v).run P w = .ok z w := by
    rcases hz with ⟨rfl, rfl⟩ | ⟨rfl, rfl⟩ <;> cases u <;> simp only [eqish, Bool.false_eq_true] at hu <;> cases v <;> simp only [eqish, Bool.false_eq_true] at hv <;> simp [binOp, h]
  simp only [Sem.run_bind, hg, Result.andThen_ok, hb]
theorem eqIn_pnil {t e : TypeId} (hd : P.underlying t = some (.pointer e)) (d : Nat) (b : Option Addr) : (Op.equalIn (d + 1) t (.pointer none) (.pointer b)).run P w = .ok b.isNone w := by
  simp only [Op.equalIn, Sem.run_bind, run_underlying hd, Result.andThen_ok, Sem.run_pure]
theorem eqIn_pnil' {t e : TypeId} (hd : P.underlying t = some (.pointer e)) (d : Nat) (a : Addr) : (Op.equalIn (d + 1) t (.pointer (some a)) (.pointer none)).run P w = .ok false w := by
  simp only [Op.equalIn, Sem.run_bind, run_underlying hd, Result.andThen_ok, Sem.run_pure]
theorem eqIn_ptr {t e : TypeId} {i : TypeInfo} (hd : P.underlying t = some (.pointer e)) (hi : P.info? e = some i) (_hs : i.size ≠ 0) (d : Nat) (a : Addr) :
    (Op.equalIn (d + 1) t (.pointer (some a)) (.pointer (some a))).run P w = .ok true w := by
  simp [Op.equalIn, run_underlying hd, run_size hi, sameAddr]
theorem eqIn_snil {t e : TypeId} (hd : P.underlying t = some (.slice e)) (d : Nat) (n c l k : Nat) (b : Option Addr) : (Op.equalIn (d + 1) t (.slice none n c) (.slice b l k)).run P w = .ok b.isNone w := by
  simp only [Op.equalIn, Sem.run_bind, run_underlying hd, Result.andThen_ok, Sem.run_pure]
theorem eqIn_snil' {t e : TypeId} (hd : P.underlying t = some (.slice e)) (d : Nat) (n c l k : Nat) (b : Addr) : (Op.equalIn (d + 1) t (.slice (some b) l k) (.slice none n c)).run P w = .ok false w := by
  simp only [Op.equalIn, Sem.run_bind, run_underlying hd, Result.andThen_ok, Sem.run_pure]
theorem eqIn_mnil {t k e : TypeId} (hd : P.underlying t = some (.map k e)) (d : Nat) (b : Option Nat) : (Op.equalIn (d + 1) t (.map none) (.map b)).run P w = .ok b.isNone w := by
  simp only [Op.equalIn, Sem.run_bind, run_underlying hd, Result.andThen_ok, Sem.run_pure]
theorem eqIn_mnil' {t k e : TypeId} (hd : P.underlying t = some (.map k e)) (d : Nat) (b : Nat) : (Op.equalIn (d + 1) t (.map (some b)) (.map none)).run P w = .ok false w := by
  simp only [Op.equalIn, Sem.run_bind, run_underlying hd, Result.andThen_ok, Sem.run_pure]
theorem eqIn_fnil {t : TypeId} {x y : Array TypeId} {z : Bool} (hd : P.underlying t = some (.func x y z)) (d : Nat) (fn : Fn) (f c : Array Value) : (Op.equalIn (d + 1) t .nilFunc (.func fn f c)).run P w = .ok false w := by
  simp only [Op.equalIn, Sem.run_bind, run_underlying hd, Result.andThen_ok, Sem.run_pure]
theorem eqIn_fnil' {t : TypeId} {x y : Array TypeId} {z : Bool} (hd : P.underlying t = some (.func x y z)) (d : Nat) (fn : Fn) (f c : Array Value) : (Op.equalIn (d + 1) t (.func fn f c) .nilFunc).run P w = .ok false w := by
  simp only [Op.equalIn, Sem.run_bind, run_underlying hd, Result.andThen_ok, Sem.run_pure]
theorem eqIn_inil {t : TypeId} {ms : Array (String × TypeId)} (hd : P.underlying t = some (.interface ms)) (d : Nat) (x : TypeId) (v : Value) : (Op.equalIn (d + 1) t .nilIface (.iface x v)).run P w = .ok false w := by
  simp only [Op.equalIn, Sem.run_bind, run_underlying hd, Result.andThen_ok, Sem.run_pure]
theorem eqIn_inil' {t : TypeId} {ms : Array (String × TypeId)} (hd : P.underlying t = some (.interface ms)) (d : Nat) (x : TypeId) (v : Value) : (Op.equalIn (d + 1) t (.iface x v) .nilIface).run P w = .ok false w := by
  simp only [Op.equalIn, Sem.run_bind, run_underlying hd, Result.andThen_ok, Sem.run_pure]
theorem equal_of {t : TypeId} {u v : Value} {r : Bool} (h : (Op.equalIn (9999 + 1) t u v).run P w = .ok r w) : (Op.equal t u v).run P w = .ok r w := h
inductive QKs (P : Program) (t : TypeId) : QK → Prop
  | ptr (e : TypeId) (i : TypeInfo) (h : P.underlying t = some (.pointer e)) (hi : P.info? e = some i) (hs : i.size ≠ 0) : QKs P t .ptr
  | slice (e : TypeId) (h : P.underlying t = some (.slice e)) : QKs P t .slice
  | map (k e : TypeId) (h : P.underlying t = some (.map k e)) : QKs P t .map
  | func (a b : Array TypeId) (c : Bool) (h : P.underlying t = some (.func a b c)) : QKs P t .func
  | iface (ms : Array (String × TypeId)) (h : P.underlying t = some (.interface ms)) : QKs P t .iface
  | bad : QKs P t .bad
theorem qkind_ok (P : Program) (t : TypeId) : QKs P t (qkind P t) := by
  unfold qkind
  split
  · rename_i e hd
    split
    · rename_i n hn; obtain ⟨i, hi, hs⟩ := tsize_some hn; exact .ptr e i hd hi (by omega)
    · exact .bad
  · rename_i hd; exact .slice _ hd
  · rename_i hd; exact .map _ _ hd
  · rename_i hd; exact .func _ _ _ hd
  · rename_i hd; exact .iface _ hd
  · exact .bad
theorem slice_some_inv {dead : Nat → Prop} {a : Addr} {len code : Nat} {u : Value} (h : VRel m dead (.slice (some a) len code) u) : ∃ x l c, u = .slice (some x) l c := by
  rcases h.slice_inv with ⟨b, o, c, N, z, cap, rfl, rfl, _⟩ | ⟨x, rfl, _⟩ | ⟨_, x, cap, rfl, _⟩
  · exact ⟨_, _, _, rfl⟩
  · exact ⟨_, _, _, rfl⟩
  · exact ⟨_, _, _, rfl⟩
theorem ptr_some_inv {dead : Nat → Prop} {a : Addr} {u : Value} (h : VRel m dead (.pointer (some a)) u) : ∃ x, u = .pointer (some x) := by
  rcases h.ptr_inv with ⟨b, o, c, N, z, rfl, rfl, _⟩ | ⟨_, x, rfl⟩
  · exact ⟨_, rfl⟩
  · exact ⟨_, rfl⟩
theorem eqV_ok (hR : Rel P B W0 pend s m w) {op : BinOp} {t : TypeId} {x y : Operand} {a b u v z : Value} (ha : VRel m s.dead a u) (hb : VRel m s.dead b v) (h : eqV (qkind P t) (binK op).adr a b s = .v z) :
    (do eqGuard op t x y u v; binOp op t u v : Sem Value).run P w = .ok z w ∧ flat1 z = true := by
  have fz : ∀ r, (binK op).adr r = .v z → flat1 z = true := by
    intro r h; rcases adr_ok h with ⟨_, rfl⟩ | ⟨_, rfl⟩ <;> rfl
  have hk := qkind_ok P t
  unfold eqV at h
  split at h
  · rename_i hq
    rw [hq] at hk
    cases hk with
    | ptr e i hd hi hs =>
      unfold eqP at h
      split at h
      · split at h
        · rename_i q
          have := ha.pnil_inv; subst this
          obtain ⟨y', rfl⟩ := ptr_some_inv hb
          exact ⟨run_eql (adr_ok h) rfl rfl (.inl (by simp)) (equal_of (eqIn_pnil hd _ _)), fz _ h⟩
        · cases h
      · rename_i q
        split at h
        · have := hb.pnil_inv; subst this
          obtain ⟨y', rfl⟩ := ptr_some_inv ha
          exact ⟨run_eql (adr_ok h) rfl rfl (.inl (by simp)) (equal_of (eqIn_pnil' hd _ _)), fz _ h⟩
        · rename_i q'
          unfold sameP at h
          split at h
          · rename_i x1 o1
            split at h
            · rename_i x2 o2
              simp only [bif', brec, Nat.beq_eq] at h
              split at h
              · rename_i hx
                subst hx
                split at h
                · rename_i ho
                  subst ho
                  split at h
                  · rename_i cs el ro hg
                    obtain ⟨c, C, fz', _, rfl, r⟩ := hR.ptr_row ha hg
                    obtain ⟨c', C', fz'', _, rfl, r'⟩ := hR.ptr_row hb hg
                    have : c = c' := by
                      have h1 := r.mb; have h2 := r'.mb
                      simp only at h1 h2
                      rw [h1] at h2
                      exact (Prod.mk.inj (Option.some.inj h2)).1
                    subst this
                    exact ⟨run_eql (adr_ok h) rfl rfl (.inl (by simp)) (equal_of (eqIn_ptr hd hi hs _ _)), fz _ h⟩
                  · cases h
                · cases h
              · cases h
            · cases h
          · cases h
        · cases h
      · cases h
  · rename_i hq
    rw [hq] at hk
    cases hk with
    | slice e hd =>
      unfold eqS at h
      split at h
      · split at h
        · obtain ⟨rfl, rfl, rfl⟩ := ha.snil_inv
          obtain ⟨y', l', c', rfl⟩ := slice_some_inv hb
          exact ⟨run_eql (adr_ok h) rfl rfl (.inl (by simp)) (equal_of (eqIn_snil hd _ _ _ _ _ _)), fz _ h⟩
        · cases h
      · split at h
        · obtain ⟨rfl, rfl, rfl⟩ := hb.snil_inv
          obtain ⟨y', l', c', rfl⟩ := slice_some_inv ha
          exact ⟨run_eql (adr_ok h) rfl rfl (.inl (by simp)) (equal_of (eqIn_snil' hd _ _ _ _ _ _)), fz _ h⟩
        · cases h
      · cases h
  · rename_i hq
    rw [hq] at hk
    cases hk with
    | map k e hd =>
      unfold eqM at h
      split at h
      · split at h
        · have := ha.mnil_inv; subst this
          obtain ⟨c, N, z', rfl, _⟩ := hb.map_inv
          exact ⟨run_eql (adr_ok h) rfl rfl (.inl (by simp)) (equal_of (eqIn_mnil hd _ _)), fz _ h⟩
        · cases h
      · split at h
        · have := hb.mnil_inv; subst this
          obtain ⟨c, N, z', rfl, _⟩ := ha.map_inv
          exact ⟨run_eql (adr_ok h) rfl rfl (.inl (by simp)) (equal_of (eqIn_mnil' hd _ _)), fz _ h⟩
        · cases h
      · cases h
  · rename_i hq
    rw [hq] at hk
    cases hk with
    | func f g c hd =>
      unfold eqF at h
      split at h
      · split at h
        · have := ha.nilFunc_inv; subst this
          obtain ⟨f', g', d', rfl⟩ := hb.func_some
          exact ⟨run_eql (adr_ok h) rfl rfl (.inl (by simp)) (equal_of (eqIn_fnil hd _ _ _ _)), fz _ h⟩
        · cases h
      · split at h
        · have := hb.nilFunc_inv; subst this
          obtain ⟨f', g', d', rfl⟩ := ha.func_some
          exact ⟨run_eql (adr_ok h) rfl rfl (.inl (by simp)) (equal_of (eqIn_fnil' hd _ _ _ _)), fz _ h⟩
        · cases h
      · cases h
  · rename_i hq
    rw [hq] at hk
    cases hk with
    | iface ms hd =>
      unfold eqI' at h
      split at h
      · split at h
        · have := ha.nilIface_inv; subst this
          obtain ⟨y', rfl, _⟩ := hb.iface_inv
          exact ⟨run_eql (adr_ok h) rfl rfl (.inr (by simp)) (equal_of (eqIn_inil hd _ _ _)), fz _ h⟩
        · cases h
      · split at h
        · have := hb.nilIface_inv; subst this
          obtain ⟨y', rfl, _⟩ := ha.iface_inv
          exact ⟨run_eql (adr_ok h) rfl rfl (.inl (by simp)) (equal_of (eqIn_inil' hd _ _ _)), fz _ h⟩
        · cases h
      · cases h
  · cases h
theorem doBin_ls (hR : Rel P B W0 pend s m w) {op : BinOp} {t : TypeId} {x y : Operand} {a b u v : Value} (ha : VRel m s.dead a u) (hb : VRel m s.dead b v) :
    LS P s m w (doBin P op (binK op) (qkind P t) t x y a b s) (do eqGuard op t x y u v; binOp op t u v) := by
  intro z h
  unfold doBin at h
  split at h
  · rename_i r hr
    cases h
    obtain ⟨h1, h2, h3, h4⟩ := fastF_ok (P := P) hr t x y w
    rw [ha.flat1_eq h3, hb.flat1_eq h4]
    exact ⟨_, h1, .flat _ h2⟩
  · cases hfa : flat a <;> cases hfb : flat b
    all_goals simp only [hfa, hfb, bif'] at h
    case true.true =>
      rw [ha.flat_eq hfa, hb.flat_eq hfb]
      exact pureRun_ls z h
    all_goals
      split at h
      · rename_i r hr
        cases h
        obtain ⟨h1, h2⟩ := eqV_ok (x := x) (y := y) hR ha hb hr
        exact ⟨_, h1, .flat _ h2⟩
      · cases h
end
end Go.Proofs.YtbbknbmmpkpgdaaGreatDoor.KAb

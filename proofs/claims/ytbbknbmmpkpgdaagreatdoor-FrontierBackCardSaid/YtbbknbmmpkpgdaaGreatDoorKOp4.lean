import Derived.Test.YtbbknbmmpkpgdaaGreatDoorKOp3
namespace Go.Proofs.YtbbknbmmpkpgdaaGreatDoor.KAb
section
variable {P : Program} {B : Nat → Prop} {W0 : World} {pend : Nat → Prop} {s : AS} {m : Mp} {w : World} {mask nt : Nat} {vars loc : L} {ds : DS} {a : Act}
theorem cOp_ok (hG : Good P) (hR : Rel P B W0 pend s m w) (dst : Option Tmp) (op : Op) (hO : OpR m s.dead mask vars loc a op.operands.toList) (type : TypeId) (pos : String) (after : Array Edge) (guard : Option (Nat × Bool)) :
    COS P B W0 pend s m w vars loc (cOp P mask op type) ((execOp a.eval ⟨dst, op, type, pos, after, guard⟩).run P w) := by
  cases op with
  | move x => exact ⟨_, rfl, hO x (by simp [Op.operands])⟩
  | assign x => exact ⟨_, rfl, hO x (by simp [Op.operands])⟩
  | pick c x y =>
    intro v hv
    obtain ⟨b, h1, h2⟩ := pick_ok (hO c (by simp [Op.operands])) (hO x (by simp [Op.operands])) (hO y (by simp [Op.operands])) hv
    exact ⟨_, by simp [execOp, h1, asBool], h2⟩
  | alloc t =>
    simp only [cOp]
    split
    · rename_i z hz; exact act_val (alloc_av hR hz) trivial
    · exact True.intro
  | box t x => exact act_val (box_av hR (hO x (by simp [Op.operands]))) (plain_box _ _ _)
  | build t parts =>
    simp only [cOp]
    split
    · rename_i z hz
      split
      · rename_i p hp
        intro v hv
        refine look_val (build_ls hz hp (parts := (opdp mask parts.toList).get vars loc) ?_) hv
        rw [Array.toList_map]
        exact opdp_ok (fun x hx => hO x (by simpa [Op.operands] using hx))
      · exact True.intro
    · exact True.intro
  | buildSlice t n parts =>
    simp only [cOp]
    split
    · rename_i e he
      split
      · rename_i size z hel
        cases hle : Nat.ble (Nat.mul n size) 10000 with
        | false => exact True.intro
        | true =>
          refine act_val (buildSlice_av hR he hel (by rw [Nat.ble_eq] at hle; exact hle) ?_) (plain_buildSlice _ _ _ _ _ _)
          rw [Array.toList_map]
          exact opdp_ok (fun x hx => hO x (by simpa [Op.operands] using hx))
      · exact True.intro
    · exact True.intro
  | load t x =>
    simp only [cOp]
    split
    · rename_i hk; intro v hv; exact look_val (load_ls1 hR hk (hO x (by simp [Op.operands]))) hv
    · rename_i n hk; intro v hv; exact look_val (load_lsN hR hk (hO x (by simp [Op.operands]))) hv
    · exact True.intro
  | store t x y =>
    simp only [cOp]
    split
    · rename_i n hn; exact act_unit (store_au hR hn (hO x (by simp [Op.operands])) (hO y (by simp [Op.operands]))) (plain_store _ _ _ _)
    · exact True.intro
  | nilCheck x =>
    intro v hv
    obtain ⟨rfl, h⟩ := doNilCheck_ls (hO x (by simp [Op.operands])) hv
    refine ⟨a.eval x, ?_, hO x (by simp [Op.operands])⟩
    rcases h with ⟨y, h⟩ | ⟨f, g, c, h⟩
    · simp [execOp, h]
    · simp [execOp, h]
  | binOp op t x y i =>
    intro v hv
    exact look_val (doBin_ls hR (hO x (by simp [Op.operands])) (hO y (by simp [Op.operands]))) hv
  | unOp op t x => intro v hv; exact look_val (doUn_ls (hO x (by simp [Op.operands]))) hv
  | convert src dst' x =>
    have hx := hO x (by simp [Op.operands])
    simp only [cOp]
    cases hs : srcKind P src with
    | bad => exact True.intro
    | _ =>
      have hne : srcKind P src ≠ .bad := by rw [hs]; intro h; cases h
      cases hk : ckind P dst' with
      | int k => intro v hv; exact look_val (convInt_ls hne hk hx) hv
      | string => intro v hv; exact look_val (convStr_ls hR hne hk hx) (by rw [hs]; exact hv)
      | bytes e =>
        cases hc : Nat.beq (P.cellsOf e) 1 with
        | false => simp only [hc]; exact True.intro
        | true => simp only [hc]; exact act_val (convBytes_av hR hne hk (by rw [Nat.beq_eq] at hc; exact hc) hx) (plain_bytes _ _ _)
      | other => intro v hv; exact look_val (convOther_ls hR hx) hv
  | makeInterface t x =>
    simp only [cOp]
    split
    · rename_i hi
      exact ⟨.iface t (a.eval x), by simp [execOp, makeIface_ok hi], .iface _ _ _ (hO x (by simp [Op.operands]))⟩
    · exact True.intro
  | makeFunc fn first captured =>
    simp only [cOp]
    cases hy : isYield fn with
    | true => exact True.intro
    | false => exact ⟨.func fn (first.map a.eval) (captured.map a.eval), by simp [execOp, Instr.makeFunc], VRel.func' hy (opds_array fun x hx => hO x (by simp only [Op.operands, Array.toList_append, List.mem_append]; exact .inl hx)) (opds_array fun x hx => hO x (by simp only [Op.operands, Array.toList_append, List.mem_append]; exact .inr hx))⟩
  | makeMap t r =>
    cases r with
    | none => exact act_val (makeMap_av hR) trivial
    | some x => exact True.intro
  | makeSlice t n c =>
    simp only [cOp]
    split
    · rename_i e he
      split
      · rename_i size z hel; exact act_val (makeSlice_av hR he hel (hO n (by simp [Op.operands])) (hO c (by simp [Op.operands]))) (plain_make _ _ _ _ _)
      · exact True.intro
    · exact True.intro
  | slice t x lo hi mx =>
    simp only [cOp]
    cases hm : mxOk hi mx with
    | false => exact True.intro
    | true =>
      intro v hv
      refine look_val (doSlice_ls hR (hO x (by simp [Op.operands])) (opdo_ok fun z hz => hO z (by simp [Op.operands, hz])) (opdo_ok fun z hz => hO z (by simp [Op.operands, hz])) (opdo_ok fun z hz => hO z (by simp [Op.operands, hz])) ?_) hv
      intro h
      cases mx with
      | none => cases h
      | some y =>
        cases hi with
        | none => cases hm
        | some z => rfl
  | fieldAddr st x f =>
    simp only [cOp]
    split
    · rename_i q hq; intro v hv; exact look_val (fieldAddr_ls hq (hO x (by simp [Op.operands])) hR) hv
    · exact True.intro
  | field st x f =>
    simp only [cOp]
    split
    · rename_i q hq; intro v hv; exact look_val (field_ls hq (hO x (by simp [Op.operands]))) hv
    · exact True.intro
  | indexAddr t x i =>
    simp only [cOp]
    split
    · rename_i size hk; intro v hv; exact look_val (indexAddrS_ls hk (hO x (by simp [Op.operands])) (hO i (by simp [Op.operands]))) hv
    · rename_i n size hk; intro v hv; exact look_val (indexAddrA_ls hk (hO x (by simp [Op.operands])) (hO i (by simp [Op.operands]))) hv
    · exact True.intro
  | index t x i =>
    simp only [cOp]
    split
    · rename_i hk; intro v hv; exact look_val (indexStr_ls hk (hO x (by simp [Op.operands])) (hO i (by simp [Op.operands]))) hv
    · rename_i n size hk
      split
      · rename_i e he; intro v hv; exact look_val (indexArr_ls hk he (hO x (by simp [Op.operands])) (hO i (by simp [Op.operands]))) hv
      · exact True.intro
    · exact True.intro
  | lookup t x k ok =>
    simp only [cOp]
    split
    · rename_i e he
      split
      · rename_i z hz; intro v hv; exact look_val (lookup_ls hR he hz (hO x (by simp [Op.operands])) (hO k (by simp [Op.operands]))) hv
      · exact True.intro
    · split
      · rename_i q hq
        split
        · rename_i z hz; intro v hv; exact look_val (lookupG_ls hR hq hz (hO x (by simp [Op.operands])) (hO k (by simp [Op.operands]))) hv
        · exact True.intro
      · exact True.intro
  | mapUpdate t x k y =>
    simp only [cOp]
    split
    · rename_i e he; exact act_unit (mapUpdate_au hR he (hO x (by simp [Op.operands])) (hO k (by simp [Op.operands])) (hO y (by simp [Op.operands]))) (plain_update _ _ _ _)
    · split
      · rename_i q hq; exact act_unit (updateG_au hR hq (hO x (by simp [Op.operands])) (hO k (by simp [Op.operands])) (hO y (by simp [Op.operands]))) (plain_updateG _ _ _ _ _)
      · exact True.intro
  | insert t x k y =>
    simp only [cOp]
    split
    · rename_i q hq; exact act_unit (updateG_au hR hq (hO x (by simp [Op.operands])) (hO k (by simp [Op.operands])) (hO y (by simp [Op.operands]))) (plain_updateG _ _ _ _ _)
    · exact True.intro
  | mapEntry t x k =>
    simp only [cOp]
    split
    · rename_i q hq
      split
      · rename_i z hz; exact act_val (entryG_av hR hq hz (hO x (by simp [Op.operands])) (hO k (by simp [Op.operands]))) (plain_entryG _ _ _ _ _)
      · exact True.intro
    · exact True.intro
  | entryStore t x st y => exact act_unit (entryStore_au hR (hO x (by simp [Op.operands])) (hO st (by simp [Op.operands])) (hO y (by simp [Op.operands]))) (plain_entryStore _ _ _ _)
  | typeAssert x t asserted ok =>
    simp only [cOp]
    split
    · rename_i hi; intro v hv; exact look_val (doTypeAssert_ls hi (hO x (by simp [Op.operands]))) hv
    · exact True.intro
  | extract t i => intro v hv; exact look_val (doExtract_ls (hO t (by simp [Op.operands]))) hv
  | call c => exact cCall_ok hG hR dst c hO type pos after guard
  | defer c =>
    obtain ⟨callee, args, argTypes⟩ := c
    cases callee with
    | value f => exact defer_ok (hO f (by simp [Op.operands, Call.operands])) (opds_array fun x hx => hO x (by simp only [Op.operands, Call.operands, Array.toList_append, List.mem_append]; exact .inr hx))
    | _ => exact True.intro
  | panic x => exact panic_ok (hO x (by simp [Op.operands]))
  | _ => exact True.intro
end
end Go.Proofs.YtbbknbmmpkpgdaaGreatDoor.KAb

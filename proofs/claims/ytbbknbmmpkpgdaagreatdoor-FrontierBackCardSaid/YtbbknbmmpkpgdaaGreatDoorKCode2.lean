import Derived.Test.YtbbknbmmpkpgdaaGreatDoorKRange
import Derived.Scope
namespace Go.Proofs.YtbbknbmmpkpgdaaGreatDoor.KAb
section
variable {P : Program} {B : Nat → Prop} {W0 : World} {pend : Nat → Prop} {s : AS} {m : Mp} {w : World} {mask nt : Nat} {vars loc : L} {ds : DS} {a : Act} {Q : Exit → Act → World → Prop}
/-- Whether an operation is wanted. -/
theorem want_ok (hF : FRel mask nt m s.dead vars loc ds a) {ops : Array Oper} {j : Nat} {want : Bool} {d : Tmp} (hd : dstAt ops j = some d) :
    match wantB want ((opd mask (.tmp d)).get vars loc) with
    | .yes => (yielded ops a.tmps j == some want) = true
    | .no => (yielded ops a.tmps j == some want) = false
    | .bad => True := by
  have ht := hF.tm d
  generalize (opd mask (.tmp d)).get vars loc = v at ht
  have hy : yielded ops a.tmps j = match a.tmps[d]? with | some (.bool b) => some b | _ => none := by
    have : (ops[j]?).bind (·.dst) = some d := hd
    simp only [yielded, this, Option.bind_some]
    rfl
  cases v with
  | bool b =>
    have hb := ht.bool_inv
    have hg : a.tmps[d]? = some (.bool b) := by
      rw [Array.getD_eq_getD_getElem?] at hb
      cases hq : a.tmps[d]? with
      | none => rw [hq] at hb; cases hb
      | some x => rw [hq] at hb; rw [← hb]; rfl
    rw [hg] at hy
    rw [hy]
    cases b <;> cases want <;> rfl
  | tuple cs =>
    obtain ⟨ys, hu, _⟩ := ht.tuple_inv
    have hg : a.tmps[d]? = none ∨ a.tmps[d]? = some (.tuple ys) := by
      rw [Array.getD_eq_getD_getElem?] at hu
      cases hq : a.tmps[d]? with
      | none => exact .inl rfl
      | some x => rw [hq] at hu; exact .inr (by rw [← hu]; rfl)
    rcases hg with hg | hg <;> (rw [hg] at hy; rw [hy]; rfl)
  | _ => exact True.intro
theorem oper_ok {r : Option Nat} {n : Nat} (hG : Good P) {cf : CF} (hcf : CFS P B W0 cf) (hR : Rel P B W0 pend s m w) (hF : FRel mask nt m s.dead vars loc ds a) {ops : Array Oper} {i : Nat} {o : Oper} (ho : ops[i]? = some o) (hrd : r = none ∨ isDefer o.op = false) {rest : List Nat} {next : K}
    (hnext : ∀ vars loc ds s m w a, Rel P B W0 pend s m w → FRel mask nt m s.dead vars loc ds a → OS P B W0 pend mask nt s m (next.run cf vars loc ds s) Q → wpOpsIn (fen r) n P ops Q rest a w)
    (h : OS P B W0 pend mask nt s m ((operK P mask nt ops o next).run cf vars loc ds s) Q) : wpOpsIn (fen r) n P ops Q (i :: rest) a w := by
  have hc : COS P B W0 pend s m w vars loc (cOp P mask o.op o.type) ((execOp a.eval o).run P w) := cOp_ok hG hR o.dst o.op (fun x _ => opd_ok hR hF x) o.type o.pos o.after o.guard
  have run (h : OS P B W0 pend mask nt s m ((opK (putK mask nt o.dst) (cOp P mask o.op o.type) next).run cf vars loc ds s) Q) : o.wpIn (fen r) n P a w (wpOpsIn (fen r) n P ops Q rest) Q := by
    refine ⟨fun _ _ => trivial, ?_⟩
    have hsem : o.semAt (fen r).round a.eval = execOp a.eval o := by
      rcases hrd with rfl | hd
      · rfl
      · exact Oper.semAt_eq _ _ _ (fun c e => by rw [e] at hd; cases hd)
    rw [hsem]
    exact opK_ok hR hF hcf hc hnext h
  simp only [wpOpsIn, ho]
  cases hg : o.guard with
  | none =>
    have hw : Region.wanted o (yielded ops a.tmps) = true := by simp [Region.wanted, hg]
    rw [if_pos hw]
    have h' : OS P B W0 pend mask nt s m ((guardK mask (putK mask nt o.dst) ops o.guard (opK (putK mask nt o.dst) (cOp P mask o.op o.type) next) next).run cf vars loc ds s) Q := h
    rw [hg] at h'
    exact run h'
  | some q =>
    obtain ⟨j, want⟩ := q
    have hwd : Region.wanted o (yielded ops a.tmps) = (yielded ops a.tmps j == some want) := by simp [Region.wanted, hg]
    rw [hwd]
    have h' : OS P B W0 pend mask nt s m ((guardK mask (putK mask nt o.dst) ops o.guard (opK (putK mask nt o.dst) (cOp P mask o.op o.type) next) next).run cf vars loc ds s) Q := h
    rw [hg] at h'
    cases hd : dstAt ops j with
    | none =>
      simp only [guardK, hd] at h'
      exact h'.elim
    | some d =>
      simp only [guardK, hd] at h'
      have hwant := want_ok hF (want := want) hd
      cases hk : wantB want ((opd mask (.tmp d)).get vars loc) with
      | yes =>
        rw [hk] at hwant h'
        rw [if_pos hwant]
        exact run h'
      | no =>
        rw [hk] at hwant h'
        rw [if_neg (by rw [hwant]; simp)]
        obtain ⟨v', l', h1, h2⟩ := put_ok hF (vrel_flat (v := undef) rfl) h'
        exact ⟨fun _ _ => trivial, hnext _ _ _ _ _ _ _ hR h2 h1⟩
      | bad => rw [hk] at h'; exact h'.elim
theorem ops_ok {r : Option Nat} {n : Nat} (hG : Good P) {cf : CF} (hcf : CFS P B W0 cf) {ops : Array Oper} : ∀ (l : List Oper) (k : Nat), (∀ i o, l[i]? = some o → ops[k + i]? = some o) → (r = none ∨ ∀ o ∈ l, isDefer o.op = false) → ∀ (vars loc : L) (ds : DS) (s : AS) (m : Mp) (w : World) (a : Act),
    Rel P B W0 pend s m w → FRel mask nt m s.dead vars loc ds a → OS P B W0 pend mask nt s m ((opsK P mask nt ops l).run cf vars loc ds s) Q → wpOpsIn (fen r) n P ops Q (List.range' k l.length) a w := by
  intro l
  induction l with
  | nil => intro k _ _ vars loc ds s m w a hR hF h; exact h m a w hR (Ext.refl _ _) hF
  | cons o l ih =>
    intro k hk hrd vars loc ds s m w a hR hF h
    have h' : OS P B W0 pend mask nt s m ((operK P mask nt ops o (opsK P mask nt ops l)).run cf vars loc ds s) Q := h
    rw [List.length_cons, List.range'_succ]
    refine oper_ok hG hcf hR hF (hk 0 o rfl) (hrd.imp id fun h => h o (by simp)) (fun vars loc ds s m w a => ih (k + 1) (fun i o' hi => ?_) (hrd.imp id fun h o' ho' => h o' (by simp [ho'])) vars loc ds s m w a) h'
    have := hk (i + 1) o' (by simpa using hi)
    rw [show k + 1 + i = k + (i + 1) by omega]; exact this
theorem FRel.noLoc (hF : FRel mask nt m s.dead vars loc ds a) : FRel mask nt m s.dead vars .nil ds a := by
  refine ⟨fun t => ?_, hF.sz, hF.df⟩
  have ht := hF.tm t
  rw [opd_tmp] at ht ⊢
  split
  · rename_i hb; rw [if_pos hb] at ht; exact ht
  · exact .poison _
theorem region_ok {r : Option Nat} {n : Nat} (hG : Good P) {cf : CF} (hcf : CFS P B W0 cf) {ops : Array Oper} {id : Nat} (hrd : r = none ∨ ∀ o ∈ ops.toList, isDefer o.op = false) (hR : Rel P B W0 pend s m w) (hF : FRel mask nt m s.dead vars loc ds a)
    (h : OS P B W0 pend mask nt s m ((opsK P mask nt ops ops.toList).run cf vars .nil ds s) Q) : (Code.region id ops false).wpIn (fen r) n P Q a w := by
  apply wpIn_region
  have := ops_ok (r := r) (n := n) hG hcf (ops := ops) ops.toList 0 (fun i o hi => by rw [Nat.zero_add]; simpa using hi) hrd vars .nil ds s m w a hR hF.noLoc h
  rw [Array.length_toList] at this
  rwa [List.range_eq_range']
/-- What is to be shown of the regions that draw their order. -/
def DrawS (P : Program) (B : Nat → Prop) (W0 : World) : Prop := ∀ (r : Option Nat) (n : Nat) (mask nt : Nat) (ops : Array Oper) (id : Nat) (cf : CF), CFS P B W0 cf → (r = none ∨ ∀ o ∈ ops.toList, isDefer o.op = false) → ∀ (pend : Nat → Prop) (s : AS) (m : Mp) (w : World) (vars loc : L) (ds : DS) (a : Act) (Q : Exit → Act → World → Prop),
  Rel P B W0 pend s m w → FRel mask nt m s.dead vars loc ds a → OS P B W0 pend mask nt s m ((drawK P mask nt ops).run cf vars loc ds s) Q → (Code.region id ops true).wpIn (fen r) n P Q a w
theorem OS.seq {next : L → L → DS → AS → Out} {out : Out} (h : OS P B W0 pend mask nt s m (seqK out next) Q) {Kn : Act → World → Prop}
    (hn : ∀ vars loc ds s' m' a w, Rel P B W0 pend s' m' w → Ext s m s' m' → FRel mask nt m' s'.dead vars loc ds a → OS P B W0 pend mask nt s' m' (next vars loc ds s') Q → Kn a w) : OS P B W0 pend mask nt s m out (Exit.then Kn Q) := by
  cases out with
  | normal v l d s' => exact fun m' a w h1 h2 h3 => hn v l d s' m' a w h1 h2 h3 (h.ext h2)
  | exit id v l d s' => exact h
  | ret v l d s' => exact h
  | panic x v l d s' => exact h
  | fail _ => exact h
theorem OS.block {id : Nat} {out : Out} (h : OS P B W0 pend mask nt s m (blockK id out) Q) : OS P B W0 pend mask nt s m out (Exit.inBlock id Q) := by
  cases out with
  | normal v l d s' => exact h
  | exit i v l d s' =>
    intro m' a w h1 h2 h3
    have h' : OS P B W0 pend mask nt s m (@Bool.rec (fun _ => Out) (.exit i v l d s') (.normal v l d s') (Nat.beq i id)) Q := h
    by_cases e : i = id
    · rw [show Nat.beq i id = true by rw [Nat.beq_eq]; exact e] at h'
      simp only [Exit.inBlock, if_pos e]
      exact h' m' a w h1 h2 h3
    · rw [show Nat.beq i id = false by rw [← Bool.not_eq_true, Nat.beq_eq]; exact e] at h'
      simp only [Exit.inBlock, if_neg e]
      exact h' m' a w h1 h2 h3
  | ret v l d s' => exact h
  | panic x v l d s' => exact h
  | fail _ => exact h
theorem iterK_succ (body : L → L → DS → AS → Out) (n : Nat) (vars loc : L) (ds : DS) (s : AS) : iterK body (n + 1) vars loc ds s = seqK (body vars loc ds s) (iterK body n) := by
  show (match body vars loc ds s with
    | .normal vars loc ds s => iterK body n vars loc ds s
    | .exit id vars loc ds s => .exit id vars loc ds s
    | .ret vars loc ds s => .ret vars loc ds s
    | .panic v vars loc ds s => .panic v vars loc ds s
    | .fail w => .fail w) = _
  cases body vars loc ds s <;> rfl
theorem plain_region {id : Nat} {ops : Array Oper} {d : Bool} (h : plainC (.region id ops d) = true) : ∀ o ∈ ops.toList, isDefer o.op = false := by
  have h' : allK (fun o : Oper => notB (isDefer o.op)) ops.toList = true := h
  rw [allK_eq, List.all_eq_true] at h'
  intro o ho
  have := h' o ho
  rw [notB_eq] at this
  simpa using this
theorem plain_two {a b : Code} (h : bif' (plainC a) (plainC b) false = true) : plainC a = true ∧ plainC b = true := by
  cases ha : plainC a with
  | false => rw [ha] at h; cases h
  | true => rw [ha] at h; exact ⟨rfl, h⟩
/-- CODE. -/
theorem code_ok (hG : Good P) (hD : DrawS P B W0) {cf : CF} (hcf : CFS P B W0 cf) {lf : Nat} (c : Code) : ∀ (r : Option Nat) (n : Nat), (r = none ∨ plainC c = true) → ∀ (pend : Nat → Prop) (vars loc : L) (ds : DS) (s : AS) (m : Mp) (w : World) (a : Act) (Q : Exit → Act → World → Prop),
    Rel P B W0 pend s m w → FRel mask nt m s.dead vars loc ds a → OS P B W0 pend mask nt s m ((codeK P mask nt lf c).run cf vars loc ds s) Q → c.wpIn (fen r) n P Q a w := by
  induction c with
  | skip => intro r n _ pend vars loc ds s m w a Q hR hF h; exact wpIn_skip (h m a w hR (Ext.refl _ _) hF) 
  | region id ops draw =>
    intro r n hr pend vars loc ds s m w a Q hR hF h
    cases draw with
    | false => exact region_ok hG hcf (hr.imp (fun h => h) plain_region) hR hF h
    | true => exact hD r n mask nt ops id cf hcf (hr.imp (fun h => h) plain_region) pend s m w vars loc ds a Q hR hF h
  | seq x y ihx ihy =>
    intro r n hr pend vars loc ds s m w a Q hR hF h
    exact wpIn_seq (ihx r n (hr.imp (fun h => h) fun h => (plain_two h).1) pend vars loc ds s m w a _ hR hF (OS.seq h fun vars loc ds s' m' a w h1 h2 h3 h4 => ihy r n (hr.imp (fun h => h) fun h => (plain_two h).2) pend vars loc ds s' m' w a Q h1 h3 h4))
  | cond c x y ihx ihy =>
    intro r n hr pend vars loc ds s m w a Q hR hF h
    have h' : OS P B W0 pend mask nt s m (condK ((opd mask c).get vars loc) ((codeK P mask nt lf x).run cf vars loc ds s) ((codeK P mask nt lf y).run cf vars loc ds s)) Q := h
    have hc := opd_ok hR hF c
    generalize (opd mask c).get vars loc = v at h' hc
    cases v with
    | bool t =>
      have := hc.bool_inv
      cases t with
      | true => exact wpIn_cond_true this (ihx r n (hr.imp (fun h => h) fun h => (plain_two h).1) pend vars loc ds s m w a Q hR hF h')
      | false => exact wpIn_cond_false this (ihy r n (hr.imp (fun h => h) fun h => (plain_two h).2) pend vars loc ds s m w a Q hR hF h')
    | _ => exact h'.elim
  | block id x ih =>
    intro r n hr pend vars loc ds s m w a Q hR hF h
    exact wpIn_block (ih r n hr pend vars loc ds s m w a _ hR hF (OS.block h))
  | loop x ih =>
    intro r n hr pend vars loc ds s m w a Q hR hF h
    have key : ∀ (k : Nat) (vars loc : L) (ds : DS) (s : AS) (m : Mp) (w : World) (a : Act), Rel P B W0 pend s m w → FRel mask nt m s.dead vars loc ds a →
        OS P B W0 pend mask nt s m (iterK ((codeK P mask nt lf x).run cf) k vars loc ds s) Q → Code.roundsIn (fen r) n P x Q k a w := by
      intro k
      induction k with
      | zero => intro vars loc ds s m w a _ _ h; exact h.elim
      | succ k ihn =>
        intro vars loc ds s m w a hR hF h
        rw [iterK_succ] at h
        exact ih r n hr pend vars loc ds s m w a _ hR hF (OS.seq h fun vars loc ds s' m' a w h1 h2 h3 h4 => ihn vars loc ds s' m' w a h1 h3 h4)
    exact wpIn_loop_rounds lf (key lf vars loc ds s m w a hR hF h)
  | rangeFunc f ps x y ihx ihy =>
    intro r n hr pend vars loc ds s m w a Q hR hF h
    rcases hr with rfl | hr
    · exact range_ok hG hcf hR hF h
    · cases hr
  | exit id => intro r n _ pend vars loc ds s m w a Q hR hF h; exact wpIn_exit (h m a w hR (Ext.refl _ _) hF)
  | scope x ih =>
    intro r n hr pend vars loc ds s m w a Q hR hF h
    rcases hr with rfl | hr
    · refine wpIn_fen.2 (wp_scope_straight ((wpIn_fen (n := n)).1 (ih none n (.inl rfl) pend vars loc ds s m w a _ hR hF ?_)))
      have h' : OS P B W0 pend mask nt s m ((codeK P mask nt lf x).run cf vars loc ds s) Q := h
      generalize (codeK P mask nt lf x).run cf vars loc ds s = out at h'
      cases out <;> exact h'
    · cases hr
  | label l => intro r n _ pend vars loc ds s m w a Q hR hF h; exact wpIn_label (h m a w hR (Ext.refl _ _) hF)
  | goto l => intro r n _ pend vars loc ds s m w a Q hR hF h; exact h.elim
  | ret => intro r n _ pend vars loc ds s m w a Q hR hF h; exact wpIn_ret (h m a w hR (Ext.refl _ _) hF)
  | refuse => intro r n _ pend vars loc ds s m w a Q hR hF h; exact h.elim
end
end Go.Proofs.YtbbknbmmpkpgdaaGreatDoor.KAb

import Derived.Test.YtbbknbmmpkpgdaaGreatDoorKTop2
namespace Go.Proofs.YtbbknbmmpkpgdaaGreatDoor.KAb
/-! A call whose result is flat and that writes nothing of the caller's may be worked out alone, from the tables and those rows of the caller's that its arguments show. -/
/-- Does a value show no other block than these? -/
def only1 (bs : List Nat) (v : Value) : Bool := match v with
  | .pointer (some ⟨b, _, none⟩) => bs.contains b
  | .slice (some ⟨b, _, none⟩) _ _ => bs.contains b
  | v => flat1 v
def only (bs : List Nat) (v : Value) : Bool := match v with
  | .agg cs => cs.toList.all (only1 bs)
  | v => only1 bs v
/-- Does a value show this block for sure? -/
def shows1 (b : Nat) (v : Value) : Bool := match v with
  | .pointer (some ⟨b', _, none⟩) => b' == b
  | .slice (some ⟨b', _, none⟩) _ code => b' == b && !(Nat.beq (half code) 0)
  | _ => false
def shows (b : Nat) (v : Value) : Bool := match v with
  | .agg cs => cs.toList.any (shows1 b)
  | v => shows1 b v
abbrev Row := Nat × List Value × TypeId
noncomputable def rowsT (rows : List Row) (t : U AObj) : U AObj := List.rec (motive := fun _ => U AObj) t (fun r _ ih => setU (Nat.add r.1 1) ih r.1 (AObj.row r.2.1 r.2.2 true)) rows
/-- The memory that the call is worked out in. -/
noncomputable def startR (c0 c1 c2 : List Value) (e0 e1 e2 : TypeId) (rows : List Row) (nx : Nat) : AS := { heap := rowsT rows (start c0 c1 c2 e0 e1 e2).heap, next := nx }
noncomputable def rowIs (s : AS) (r : Row) : Bool := match s.get r.1 with
  | some (.row cs el _) => bif' (valEqL cs r.2.1) (Nat.beq el r.2.2) false
  | _ => false
noncomputable def alive (s : AS) (b : Nat) : Bool := match s.get b with | some (.row _ _ _) => true | _ => false
noncomputable def rowsOk (s : AS) (rows : List Row) : Bool := bif' (allK (rowIs s) rows) (bif' (alive s 0) (bif' (alive s 1) (alive s 2) false) false) false
def rowsGood (rows : List Row) (args : List Value) (nx : Nat) : Bool :=
  rows.all (fun r => (3 ≤ r.1 && r.1 < nx && true && r.2.1.all (only1 (rows.map (·.1))) && args.any (shows r.1))) && args.all (only (rows.map (·.1))) && Nat.ble 16 nx
noncomputable def isFlat (x : Value) (r : CRes) : Bool := match r with | .ret v _ => bif' (valEq v x) (flat v) false | _ => false
noncomputable def valsEq (xs ys : List Value) : Bool := List.rec (motive := fun _ => List Value → Bool)
  (fun ys => List.casesOn (motive := fun _ => Bool) ys true (fun _ _ => false))
  (fun x _ ih ys => List.casesOn (motive := fun _ => Bool) ys false (fun y r => bif' (valEq x y) (ih r) false)) xs ys
structure Sum where
  f : FuncId
  args : List Value
  rows : List Row
  res : Value
/-- An evaluator that knows some calls. -/
noncomputable def withSum1 (x : Sum) (call : FuncId → List Value → AS → CRes) : FuncId → List Value → AS → CRes := fun f args s => bif' (Nat.beq f x.f) (bif' (valsEq args x.args) (bif' (rowsOk s x.rows) (.ret x.res s) (call f args s)) (call f args s)) (call f args s)
noncomputable def withSum (x : Sum) (cf : CF) : CF := ⟨withSum1 x cf.call, cf.yld⟩

theorem bifE {α : Type} (b : Bool) (x y : α) : bif' b x y = if b = true then x else y := by cases b <;> rfl
theorem valsEq_ok {xs ys : List Value} (h : valsEq xs ys = true) : xs = ys := by
  induction xs generalizing ys with
  | nil => cases ys with
    | nil => rfl
    | cons _ _ => cases h
  | cons x xs ih => cases ys with
    | nil => cases h
    | cons y ys =>
      have h' : bif' (valEq x y) (valsEq xs ys) false = true := h
      rw [bifE] at h'
      split at h'
      · rename_i h1; rw [valEq_ok h1, ih h']
      · cases h'
section
variable {P : Program} {B : Nat → Prop} {W0 : World} {pend : Nat → Prop} {s : AS} {m : Mp} {w : World}
theorem rowsT_get {t : U AObj} : ∀ (rows : List Row) (b : Nat), getU (rowsT rows t) b = match rows.find? (·.1 == b) with
    | some r => some (AObj.row r.2.1 r.2.2 true)
    | none => getU t b := by
  intro rows
  induction rows with
  | nil => exact fun b => rfl
  | cons r rows ih =>
    intro b
    show getU (setU (r.1 + 1) (rowsT rows t) r.1 (AObj.row r.2.1 r.2.2 true)) b = _
    rw [getU_setU _ _ _ _ (Nat.lt_succ_self _)]
    by_cases e : b = r.1
    · subst e; rw [if_pos rfl]; simp
    · rw [if_neg e, ih b, List.find?_cons_of_neg (by simpa using fun h => e h.symm)]
theorem only1_rel {mF : Mp} {bs : List Nat} (hm : ∀ b ∈ bs, mF b = m b) (hd' : ∀ b ∈ bs, ¬ s.dead b) {deadF : Nat → Prop} {v u : Value} (ho : only1 bs v = true) (h : VRel m s.dead v u) : VRel mF deadF v u := by
  unfold only1 at ho
  split at ho
  · rename_i b o
    have hb : b ∈ bs := by simpa using ho
    rcases h.ptr_inv with ⟨b', o', c, N, z, e, rfl, h2⟩ | ⟨h1, _⟩
    · cases e; exact .ptr b o c N z ((hm b hb).trans h2)
    · exact absurd h1 (hd' b hb)
  · rename_i b o len code
    have hb : b ∈ bs := by simpa using ho
    rcases h.slice_inv with ⟨b', o', c, N, z, cap, e, rfl, h2, h3, h4, h5⟩ | ⟨x, rfl, rfl, h2⟩ | ⟨h1, _⟩
    · cases e; exact .slice b o c N z len code cap ((hm b hb).trans h2) h3 h4 h5
    · exact .sliceE b o code x h2
    · exact absurd h1 (hd' b hb)
  · rw [h.flat1_eq ho]; exact .flat _ ho
theorem only_rel {mF : Mp} {bs : List Nat} (hm : ∀ b ∈ bs, mF b = m b) (hd' : ∀ b ∈ bs, ¬ s.dead b) {deadF : Nat → Prop} {v u : Value} (ho : only bs v = true) (h : VRel m s.dead v u) : VRel mF deadF v u := by
  cases v with
  | agg cs =>
    obtain ⟨ys, rfl, h1⟩ := h.agg_inv
    have ho' : cs.toList.all (only1 bs) = true := ho
    refine vrel_agg ⟨h1.1, fun i a b ha hb => only1_rel hm hd' (List.all_eq_true.1 ho' a (List.mem_of_getElem? ha)) (h1.2 i a b ha hb)⟩
  | _ => exact only1_rel hm hd' ho h
theorem shows1_ok {b : Nat} {v u : Value} (hd' : ¬ s.dead b) (ho : shows1 b v = true) (h : VRel m s.dead v u) : ∃ x, m b = some x := by
  unfold shows1 at ho
  split at ho
  · rename_i b1 o
    have hb : b1 = b := by simpa using ho
    subst hb
    rcases h.ptr_inv with ⟨b', o', c, N, z, e, rfl, h2⟩ | ⟨h1, _⟩
    · cases e; exact ⟨_, h2⟩
    · exact absurd h1 hd'
  · rename_i b1 o len code
    simp only [Bool.and_eq_true, beq_iff_eq, Bool.not_eq_true', ← Bool.not_eq_true, Nat.beq_eq] at ho
    obtain ⟨rfl, ho⟩ := ho
    rcases h.slice_inv with ⟨b', o', c, N, z, cap, e, rfl, h2, h3, h4, h5⟩ | ⟨x, rfl, rfl, h2⟩ | ⟨h1, _⟩
    · cases e; exact ⟨_, h2⟩
    · exact absurd h2 ho
    · exact absurd h1 hd'
  · cases ho
theorem shows_ok {b : Nat} {v u : Value} (hd' : ¬ s.dead b) (ho : shows b v = true) (h : VRel m s.dead v u) : ∃ x, m b = some x := by
  cases v with
  | agg cs =>
    obtain ⟨ys, rfl, h1⟩ := h.agg_inv
    have ho' : cs.toList.any (shows1 b) = true := ho
    obtain ⟨a, ha, hs⟩ := List.any_eq_true.1 ho'
    obtain ⟨i, hi⟩ := List.mem_iff_getElem?.1 ha
    obtain ⟨u, hu, hr⟩ := h1.get hi
    exact shows1_ok hd' hs hr
  | _ => exact shows1_ok hd' (by exact ho) h
theorem rowIs_ok {r : Row} (h : rowIs s r = true) : ∃ ro, s.get r.1 = some (.row r.2.1 r.2.2 ro) := by
  unfold rowIs at h
  split at h
  · rename_i cs el ro hg
    rw [bifE] at h
    split at h
    · rename_i h1
      rw [Nat.beq_eq] at h
      exact ⟨ro, by rw [hg, valEqL_ok h1, h]⟩
    · cases h
  · cases h
theorem alive_ok {b : Nat} (h : alive s b = true) : ∃ cs el ro, s.get b = some (.row cs el ro) := by
  unfold alive at h
  split at h
  · rename_i cs el ro hg; exact ⟨cs, el, ro, hg⟩
  · cases h
theorem rowsOk_ok {rows : List Row} (h : rowsOk s rows = true) : (∀ r ∈ rows, rowIs s r = true) ∧ alive s 0 = true ∧ alive s 1 = true ∧ alive s 2 = true := by
  unfold rowsOk at h
  simp only [bifE, allK_eq] at h
  split at h
  · rename_i h1
    split at h
    · rename_i h2
      split at h
      · rename_i h3
        exact ⟨fun r hr => List.all_eq_true.1 h1 r hr, h2, h3, h⟩
      · cases h
    · cases h
  · cases h
/-- The caller's memory later, its own blocks as they were. -/
theorem Rel.later {w' : World} (h : Rel P B W0 pend s m w) (ho : Old w w') : Rel P B W0 pend s m w' := by
  obtain ⟨h1, h2, h3, h4⟩ := ho
  have hh : ∀ b c N z, m b = some (c, N, z) → w'.heap[c]? = w.heap[c]? := fun b c N z hb => h4 c (h.mlt b c N z hb).2
  refine ⟨h.fresh, ?_, h.pnone, h.plt, fun b c N z hb => ⟨(h.mlt b c N z hb).1, Nat.lt_of_lt_of_le (h.mlt b c N z hb).2 h3⟩, h.inj, fun i hi => (h4 i (h.size i hi)).trans (h.old i hi), fun i hi => Nat.lt_of_lt_of_le (h.size i hi) h3, h1.trans h.os, h2.trans h.out, h.glob⟩
  exact fun b o hb hp => (h.live b o hb hp).move (fun _ _ h => h) (fun _ h => h) (fun _ c N z hm' => hh b c N z hm') fun _ _ _ _ _ h => h
end
/-- The three tables, as the world holds them. -/
structure Tabs (c0 c1 c2 : List Value) (e0 e1 e2 : TypeId) (W : World) : Prop where
  h0 : ∃ C f, W.heap[0]? = some (.cells C e0 f) ∧ C.toList = c0
  h1 : ∃ C f, W.heap[1]? = some (.cells C e1 f) ∧ C.toList = c1
  h2 : ∃ C f, W.heap[2]? = some (.cells C e2 f) ∧ C.toList = c2
  q0 : c0.all flat1 = true
  q1 : c1.all flat1 = true
  q2 : c2.all flat1 = true
section
variable {P : Program} {B : Nat → Prop} {W0 : World} {pend : Nat → Prop} {s : AS} {m : Mp} {w : World} {c0 c1 c2 : List Value} {e0 e1 e2 : TypeId}
theorem Tabs.at (h : Tabs c0 c1 c2 e0 e1 e2 W0) (hB : ∀ i, i < 3 → B i) (hR : Rel P B W0 pend s m w) : Tabs c0 c1 c2 e0 e1 e2 w := by
  obtain ⟨⟨C0, f0, x0, y0⟩, ⟨C1, f1, x1, y1⟩, ⟨C2, f2, x2, y2⟩, q0, q1, q2⟩ := h
  exact ⟨⟨C0, f0, (hR.old 0 (hB 0 (by omega))).trans x0, y0⟩, ⟨C1, f1, (hR.old 1 (hB 1 (by omega))).trans x1, y1⟩, ⟨C2, f2, (hR.old 2 (hB 2 (by omega))).trans x2, y2⟩, q0, q1, q2⟩
/-- The memory that the call is worked out in stands for the caller's. -/
theorem startR_rel (hT : Tabs c0 c1 c2 e0 e1 e2 w) (hR : Rel P B W0 pend s m w) {rows : List Row} {nx : Nat} {args : List Value} (hg : rowsGood rows args nx = true) (hok : rowsOk s rows = true) {us : List Value} (ha : LRel m s.dead args us) :
    ∃ mF, Rel P (fun i => i < w.heap.size) w (fun _ => False) (startR c0 c1 c2 e0 e1 e2 rows nx) mF w ∧ LRel mF (startR c0 c1 c2 e0 e1 e2 rows nx).dead args us := by
  obtain ⟨⟨C0, f0, x0, y0⟩, ⟨C1, f1, x1, y1⟩, ⟨C2, f2, x2, y2⟩, q0, q1, q2⟩ := hT
  obtain ⟨hrows, a0, a1, a2⟩ := rowsOk_ok hok
  simp only [rowsGood, Bool.and_eq_true, List.all_eq_true, decide_eq_true_eq, Nat.ble_eq] at hg
  obtain ⟨⟨hg1, hg2⟩, hg3⟩ := hg
  let bs := rows.map (·.1)
  let mF : Mp := fun b => if b ∈ bs then m b else if b = 2 then some (2, C2.size, P.cellsOf e2) else if b = 1 then some (1, C1.size, P.cellsOf e1) else if b = 0 then some (0, C0.size, P.cellsOf e0) else none
  have hbs : ∀ b ∈ bs, ∃ r ∈ rows, r.1 = b := fun b hb => by simpa [bs] using hb
  have hm : ∀ b ∈ bs, mF b = m b := fun b hb => by simp only [mF, if_pos hb]
  have hge : ∀ b ∈ bs, 3 ≤ b ∧ b < nx := fun b hb => by
    obtain ⟨r, hr, rfl⟩ := hbs b hb
    exact ⟨(hg1 r hr).1.1.1.1, (hg1 r hr).1.1.1.2⟩
  have hsd : ∀ b cs el ro, s.get b = some (AObj.row cs el ro) → ¬ s.dead b := fun b cs el ro h hd => by
    rw [AS.dead, h] at hd; cases hd
  have hnd : ∀ b ∈ bs, ¬ s.dead b := fun b hb => by
    obtain ⟨r, hr, rfl⟩ := hbs b hb
    obtain ⟨ro, h⟩ := rowIs_ok (hrows r hr)
    exact hsd _ _ _ _ h
  have hget : ∀ b, (startR c0 c1 c2 e0 e1 e2 rows nx).get b = match rows.find? (·.1 == b) with
      | some r => some (AObj.row r.2.1 r.2.2 true)
      | none => (start c0 c1 c2 e0 e1 e2).get b := by
    intro b
    exact rowsT_get rows b
  have hnod : ∀ b, ¬ (startR c0 c1 c2 e0 e1 e2 rows nx).dead b := by
    intro b h
    rw [AS.dead, hget] at h
    split at h
    · cases h
    · rw [start_get] at h
      split at h
      · cases h
      · split at h
        · cases h
        · split at h <;> cases h
  have hnot : ∀ b, b < 3 → b ∉ bs := fun b hb h => by have := (hge b h).1; omega
  have hm2 : mF 2 = some (2, C2.size, P.cellsOf e2) := by simp only [mF, if_neg (hnot 2 (by omega))]; rfl
  have hm1 : mF 1 = some (1, C1.size, P.cellsOf e1) := by simp only [mF, if_neg (hnot 1 (by omega))]; rfl
  have hm0 : mF 0 = some (0, C0.size, P.cellsOf e0) := by simp only [mF, if_neg (hnot 0 (by omega))]; rfl
  have lf : ∀ (c : List Value) dead, c.all flat1 = true → LRel mF dead c c := fun c dead h => lrel_flat (fun v hv => List.all_eq_true.1 h v hv)
  -- where a block lies
  have hcase : ∀ b c N z, mF b = some (c, N, z) → (b ∈ bs ∧ m b = some (c, N, z)) ∨ (b < 3 ∧ b = c) := by
    intro b c N z h
    by_cases hb : b ∈ bs
    · exact .inl ⟨hb, (hm b hb) ▸ h⟩
    · right
      simp only [mF, if_neg hb] at h
      split at h
      · cases h; omega
      · split at h
        · cases h; omega
        · split at h
          · cases h; omega
          · cases h
  have hga : ∀ g, g < 3 → ¬ s.dead g ∧ ∃ N z, m g = some (g, N, z) := by
    intro g hg
    have : alive s g = true := by
      have : g = 0 ∨ g = 1 ∨ g = 2 := by omega
      rcases this with rfl | rfl | rfl <;> assumption
    obtain ⟨cs, el, ro, h⟩ := alive_ok this
    exact ⟨hsd _ _ _ _ h, hR.glob g hg⟩
  have hmw : ∀ b c N z, mF b = some (c, N, z) → ∃ N' z', m b = some (c, N', z') ∧ ¬ s.dead b := by
    intro b c N z h
    rcases hcase b c N z h with ⟨h1, h2⟩ | ⟨h1, rfl⟩
    · exact ⟨N, z, h2, hnd b h1⟩
    · obtain ⟨h3, N', z', h4⟩ := hga b h1
      exact ⟨N', z', h4, h3⟩
  refine ⟨mF, ?_, ⟨ha.1, fun i v u hv hu => only_rel hm hnd (hg2 v (List.mem_of_getElem? hv)) (ha.2 i v u hv hu)⟩⟩
  constructor
  · intro b o h
    show b < nx
    rw [hget] at h
    split at h
    · rename_i r hf
      have h1 := List.mem_of_find?_eq_some hf
      have h2 : r.1 = b := by simpa using List.find?_some hf
      exact h2 ▸ (hg1 r h1).1.1.1.2
    · rw [start_get] at h
      split at h
      · omega
      · split at h
        · omega
        · split at h
          · omega
          · cases h
  · intro b o h _
    rw [hget] at h
    split at h
    · rename_i r hf
      have h1 := List.mem_of_find?_eq_some hf
      have h2 : r.1 = b := by simpa using List.find?_some hf
      cases h
      obtain ⟨ro, h3⟩ := rowIs_ok (hrows r h1)
      obtain ⟨c, C, fz, r4⟩ := hR.live r.1 _ h3 (fun hp => by
        have h5 := hR.pnone _ hp
        have h6 : r.1 ∈ bs := by simp only [bs, List.mem_map]; exact ⟨r, h1, rfl⟩
        obtain ⟨a, ha1, ha2⟩ := List.any_eq_true.1 (hg1 r h1).2
        obtain ⟨i, hi⟩ := List.mem_iff_getElem?.1 ha1
        obtain ⟨u, hu, hr⟩ := ha.get hi
        obtain ⟨x, hx⟩ := shows_ok (hnd _ h6) ha2 hr
        rw [h5] at hx; cases hx)
      have hb : r.1 ∈ bs := by simp only [bs, List.mem_map]; exact ⟨r, h1, rfl⟩
      refine ⟨c, C, fz, h2 ▸ (hm _ hb).trans r4.mb, r4.hc, (fun h => by cases h), ⟨r4.rel.1, fun i v u hv hu => only1_rel hm hnd ((hg1 r h1).1.2 v (List.mem_of_getElem? hv)) (r4.rel.2 i v u hv hu)⟩⟩
    · rw [start_get] at h
      split at h
      · rename_i e; cases h; subst e
        exact ⟨2, C2, f2, hm2, x2, (fun h => by cases h), by rw [← y2, List.take_length, y2]; exact lf _ _ q2⟩
      · split at h
        · rename_i e; cases h; subst e
          exact ⟨1, C1, f1, hm1, x1, (fun h => by cases h), by rw [← y1, List.take_length, y1]; exact lf _ _ q1⟩
        · split at h
          · rename_i e; cases h; subst e
            exact ⟨0, C0, f0, hm0, x0, (fun h => by cases h), by rw [← y0, List.take_length, y0]; exact lf _ _ q0⟩
          · cases h
  · exact fun _ h => h.elim
  · exact fun _ h => h.elim
  · intro b c N z h
    obtain ⟨N', z', h1, _⟩ := hmw b c N z h
    refine ⟨?_, (hR.mlt _ _ _ _ h1).2⟩
    show b < nx
    rcases hcase b c N z h with ⟨h1, h2⟩ | ⟨h1, rfl⟩
    · exact (hge b h1).2
    · omega
  · intro b b' c N z N' z' h h' _ _
    obtain ⟨N1, z1, g1, g2⟩ := hmw b c N z h
    obtain ⟨N2, z2, g3, g4⟩ := hmw b' c N' z' h'
    exact hR.inj _ _ _ _ _ _ _ g1 g3 g2 g4
  · exact fun _ _ => rfl
  · exact fun _ h => h
  · rfl
  · rfl
  · intro g hg
    have : g = 0 ∨ g = 1 ∨ g = 2 := by have : nGlob = 3 := rfl; omega
    rcases this with rfl | rfl | rfl
    · exact ⟨_, _, hm0⟩
    · exact ⟨_, _, hm1⟩
    · exact ⟨_, _, hm2⟩
/-- WHAT A CALL WORKED OUT ALONE SAYS of the same call elsewhere. -/
theorem sum_calls (hG : Good P) {masks : Nat → Nat} {lf n : Nat} {x : Sum} {nx : Nat} (hg : rowsGood x.rows x.args nx = true) (hrun : isFlat x.res ((aCall P masks lf n).call x.f x.args (startR c0 c1 c2 e0 e1 e2 x.rows nx)) = true)
    (hT : Tabs c0 c1 c2 e0 e1 e2 w) (hR : Rel P B W0 pend s m w) {us : Array Value} (ha : LRel m s.dead x.args us.toList) (hok : rowsOk s x.rows = true) :
    Calls P x.f us w fun e w' => e = .returned x.res ∧ Old w w' := by
  obtain ⟨mF, hRF, haF⟩ := startR_rel hT hR hg hok ha
  have hc := (aCall_calls (B := fun i => i < w.heap.size) (W0 := w) hG (masks := masks) (lf := lf) n).call (fun _ => False) _ mF w x.f _ us hRF haF
  cases hr : (aCall P masks lf n).call x.f x.args (startR c0 c1 c2 e0 e1 e2 x.rows nx) with
  | fail _ => rw [hr] at hrun; cases hrun
  | panic _ _ => rw [hr] at hrun; cases hrun
  | ret v s' =>
    rw [hr] at hrun hc
    have hv : v = x.res ∧ flat v = true := by
      have h' : bif' (valEq v x.res) (flat v) false = true := hrun
      rw [bifE] at h'
      split at h'
      · rename_i h1; exact ⟨valEq_ok h1, h'⟩
      · cases h'
    obtain ⟨rfl, hfl⟩ := hv
    refine hc _ fun m' w' u hR' _ hu => ?_
    have := hu.flat_eq hfl
    subst this
    exact ⟨rfl, hR'.os, hR'.out, le_of_all hR'.size, hR'.old⟩
/-- An evaluator that knows a call. -/
theorem withSum_ok {x : Sum} {cf : CF} (hcf : CFS P B W0 cf) (hfl : flat x.res = true) (hx : ∀ (pend : Nat → Prop) (s : AS) (m : Mp) (w : World) (us : Array Value), Rel P B W0 pend s m w → LRel m s.dead x.args us.toList → rowsOk s x.rows = true → Calls P x.f us w fun e w' => e = .returned x.res ∧ Old w w') :
    CFS P B W0 (withSum x cf) := by
  refine ⟨fun pend s m w f args us hR ha => ?_, hcf.yld⟩
  show match withSum1 x cf.call f args s with
    | .ret v s' => ∀ R : Ending → World → Prop, (∀ m' w' u, Rel P B W0 pend s' m' w' → Ext s m s' m' → VRel m' s'.dead v u → R (.returned u) w') → Calls P f us w R
    | .panic v s' => ∀ R : Ending → World → Prop, (∀ m' w' u, Rel P B W0 pend s' m' w' → Ext s m s' m' → VRel m' s'.dead v u → R (.panicked [{ v := u, recovered := false }]) w') → Calls P f us w R
    | .fail _ => True
  have old := hcf.call pend s m w f args us hR ha
  by_cases h1 : Nat.beq f x.f = true
  · by_cases h2 : valsEq args x.args = true
    · by_cases h3 : rowsOk s x.rows = true
      · have e : withSum1 x cf.call f args s = .ret x.res s := by unfold withSum1; rw [bifE, bifE, bifE, if_pos h1, if_pos h2, if_pos h3]
        rw [e]
        rw [Nat.beq_eq] at h1
        subst h1
        rw [valsEq_ok h2] at ha
        intro R hRR
        refine (hx pend s m w us hR ha h3).mono fun e w' he => ?_
        obtain ⟨rfl, ho⟩ := he
        exact hRR m w' _ (hR.later ho) (Ext.refl _ _) (vrel_flat hfl)
      · have e : withSum1 x cf.call f args s = cf.call f args s := by unfold withSum1; rw [bifE, bifE, bifE, if_pos h1, if_pos h2, if_neg h3]
        rw [e]; exact old
    · have e : withSum1 x cf.call f args s = cf.call f args s := by unfold withSum1; rw [bifE, bifE, if_pos h1, if_neg h2]
      rw [e]; exact old
  · have e : withSum1 x cf.call f args s = cf.call f args s := by unfold withSum1; rw [bifE, if_neg h1]
    rw [e]; exact old
/-- The same, of many. -/
noncomputable def withSums (xs : List Sum) (cf : CF) : CF := List.rec (motive := fun _ => CF) cf (fun x _ ih => withSum x ih) xs
noncomputable def aCallS (P : Program) (masks : Nat → Nat) (lf : Nat) (xs : List Sum) (n : Nat) : CF :=
  Nat.rec (motive := fun _ => CF) noCF (fun _ ih => withSums xs (stepCF P masks lf ih)) n
/-- What is to be shown of a known call: it was worked out alone. -/
def SumOf (P : Program) (masks : Nat → Nat) (lf n nx : Nat) (c0 c1 c2 : List Value) (x : Sum) : Prop :=
  flat x.res = true ∧ rowsGood x.rows x.args nx = true ∧ ∀ e0 e1 e2, isFlat x.res ((aCall P masks lf n).call x.f x.args (startR c0 c1 c2 e0 e1 e2 x.rows nx)) = true
theorem withSums_ok (hG : Good P) (hB : ∀ i, i < 3 → B i) (hT : Tabs c0 c1 c2 e0 e1 e2 W0) {masks : Nat → Nat} {lf n nx : Nat} {cf : CF} (hcf : CFS P B W0 cf) : ∀ (xs : List Sum), (∀ x ∈ xs, SumOf P masks lf n nx c0 c1 c2 x) → CFS P B W0 (withSums xs cf) := by
  intro xs
  induction xs with
  | nil => intro _; exact hcf
  | cons x xs ih =>
    intro h
    obtain ⟨h1, h2, h3⟩ := h x List.mem_cons_self
    exact withSum_ok (ih fun y hy => h y (List.mem_cons_of_mem _ hy)) h1 fun pend s m w us hR ha hok => sum_calls hG h2 (h3 e0 e1 e2) (hT.at hB hR) hR ha hok
theorem aCallS_ok (hG : Good P) (hB : ∀ i, i < 3 → B i) (hT : Tabs c0 c1 c2 e0 e1 e2 W0) {masks : Nat → Nat} {lf n nx : Nat} {xs : List Sum} (hx : ∀ x ∈ xs, SumOf P masks lf n nx c0 c1 c2 x) {lf' : Nat} : ∀ k, CFS P B W0 (aCallS P masks lf' xs k) := by
  intro k
  induction k with
  | zero => exact noCF_ok
  | succ k ih => exact withSums_ok hG hB hT (stepCF_ok hG (draw_ok hG) ih) xs hx
/-- As 'closedA', by an evaluator that knows calls. -/
theorem closedS (hG : Good P) {masks : Nat → Nat} {lf n nx lf' k : Nat} {xs : List Sum} (hx : ∀ x ∈ xs, SumOf P masks lf n nx c0 c1 c2 x) {f : FuncId} {us : Array Value} {W : World} {C0 C1 C2 : Array Value} {f0 f1 f2 : Nat × Nat} (h0 : W.heap[0]? = some (.cells C0 e0 f0)) (h1 : W.heap[1]? = some (.cells C1 e1 f1)) (h2 : W.heap[2]? = some (.cells C2 e2 f2))
    (k0 : C0.toList = c0) (k1 : C1.toList = c1) (k2 : C2.toList = c2) (q0 : c0.all flat1 = true) (q1 : c1.all flat1 = true) (q2 : c2.all flat1 = true) (h : isTrue ((aCallS P masks lf' xs k).call f (mapK (fun _ => poison) us.toList) (start c0 c1 c2 e0 e1 e2)) = true) :
    Calls P f us W fun e W' => e = .returned (.bool true) ∧ Old W W' := by
  obtain ⟨m, hR⟩ := start_rel (P := P) h0 h1 h2 k0 k1 k2 q0 q1 q2
  have hlt : 2 < W.heap.size := (Array.getElem?_eq_some_iff.1 h2).1
  have hT : Tabs c0 c1 c2 e0 e1 e2 W := ⟨⟨C0, f0, h0, k0⟩, ⟨C1, f1, h1, k1⟩, ⟨C2, f2, h2, k2⟩, q0, q1, q2⟩
  have hc := (aCallS_ok (B := fun i => i < W.heap.size) (W0 := W) hG (fun i hi => by show i < _; omega) hT hx (lf' := lf') k).call (fun _ => False) _ m W f _ us hR (lrel_poison us.toList)
  cases hr : (aCallS P masks lf' xs k).call f (mapK (fun _ => poison) us.toList) (start c0 c1 c2 e0 e1 e2) with
  | fail _ => rw [hr] at h; cases h
  | panic _ _ => rw [hr] at h; cases h
  | ret v s' =>
    rw [hr] at h hc
    have hv : v = .bool true := isTrue_ok h
    subst hv
    refine hc _ fun m' w' u hR' _ hu => ?_
    have := hu.bool_inv
    subst this
    exact ⟨rfl, hR'.os, hR'.out, le_of_all hR'.size, hR'.old⟩
end
end Go.Proofs.YtbbknbmmpkpgdaaGreatDoor.KAb

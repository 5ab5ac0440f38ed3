import Derived.Test.YtbbknbmmpkpgdaaGreatDoorKLook8
import Derived.Deep.AppendSrc
namespace Go.Proofs.YtbbknbmmpkpgdaaGreatDoor.KAb
/-- What an acting operation says the machine says, too. -/
def AV (P : Program) (B : Nat → Prop) (W0 : World) (pend : Nat → Prop) (s : AS) (m : Mp) (w : World) (r : R) (e : Sem Value) : Prop :=
  ∀ v s', r = .val v s' → ∃ m' w' u, e.run P w = .ok u w' ∧ Rel P B W0 pend s' m' w' ∧ Ext s m s' m' ∧ VRel m' s'.dead v u
/-- The same of one that hands no value. -/
def AU (P : Program) (B : Nat → Prop) (W0 : World) (pend : Nat → Prop) (s : AS) (m : Mp) (w : World) (r : R) (e : Sem Unit) : Prop :=
  ∀ v s', r = .val v s' → v = undef ∧ ∃ m' w', e.run P w = .ok () w' ∧ Rel P B W0 pend s' m' w' ∧ Ext s m s' m'
/-- It ends with a value, or fails. -/
def R.plain : R → Prop
  | .val _ _ | .fail _ => True
  | _ => False
section
variable {P : Program} {B : Nat → Prop} {W0 : World} {pend : Nat → Prop} {s : AS} {m : Mp} {w : World}

theorem doNew_av (hR : Rel P B W0 pend s m w) {t : TypeId} {cs : List Value} {C : Array Value} (hl : LRel m s.dead cs C.toList) :
    AV P B W0 pend s m w (doNew cs t s) (do pure (.pointer (some (← newRow t C)))) := by
  intro v s' h
  cases h
  have hlen : cs.length = C.toList.length := hl.1
  obtain ⟨m', h1, h2, h3⟩ := hR.newRow cs C t (by rw [hlen, List.take_length]; exact hl)
  exact ⟨m', _, .pointer (some ⟨w.heap.size, 0, none⟩), by simp [newRow], h2, h3, .ptr _ _ _ _ _ h1⟩
theorem alloc_av (hR : Rel P B W0 pend s m w) {t : TypeId} {z : Value} (hz : tzero P t = some z) :
    AV P B W0 pend s m w (doNew z.cells.toList t s) (Instr.alloc t true (.tuple #[])) := by
  obtain ⟨i, hi, hz', hfl⟩ := tzero_some hz
  intro v s' h
  obtain ⟨m', w', u, h1, h2⟩ := doNew_av hR (t := t) (C := z.cells) (lrel_cells (vrel_flat hfl) (by rintro rfl; cases hfl)) v s' h
  refine ⟨m', w', u, ?_, h2⟩
  simp only [Instr.alloc, Sem.run_bind, run_zero hi hz', Result.andThen_ok, newVar]
  exact h1
theorem box_av (hR : Rel P B W0 pend s m w) {t : TypeId} {x u : Value} (hx : VRel m s.dead x u) : AV P B W0 pend s m w (doBox t x s) (Instr.box t u) := by
  intro v s' h
  simp only [doBox, bif', brec] at h
  split at h
  · rename_i hk
    exact doNew_av hR (C := u.cells) (lrel_cells hx (by rintro rfl; cases hk)) v s' h
  · cases h
theorem store_au (hR : Rel P B W0 pend s m w) {t : TypeId} {n : Nat} (hn : tsize P t = some n) {a x b u : Value} (ha : VRel m s.dead a b) (hx : VRel m s.dead x u) :
    AU P B W0 pend s m w (doStore n a x s) (Instr.storeAt t b u) := by
  intro v s' h
  unfold doStore at h
  split at h
  · rename_i bl off
    simp only [bif', brec, Nat.beq_eq, lenK_eq] at h
    split at h
    · rename_i hlen
      split at h
      · rename_i s1 hwr
        cases h
        obtain ⟨i, hi, rfl⟩ := tsize_some hn
        have hk : x ≠ poison := by
          rintro rfl
          rw [wr_eq] at hwr
          split at hwr
          · split at hwr
            · rename_i hs; cases hs
            · cases hwr
          · cases hwr
        have hcl := lrel_cells hx hk
        obtain ⟨c, w', rfl, h1, h2, h3⟩ := hR.write hwr ha hcl
        refine ⟨rfl, m, w', ?_, h2, h3⟩
        have hl : u.cells.size = i.size := by have := hcl.1; simp only [Array.length_toList] at this; rw [← this]; simpa using hlen
        simp only [Instr.storeAt, Instr.sureAddr, storeVar, Sem.run_bind, Sem.run_pure, Result.andThen_ok, run_size hi]
        rw [if_neg (by rw [hl]; simp)]
        simpa using h1
      · cases h
    · cases h
  · cases h
theorem zerosK_zero (z : List Value) : zerosK z 0 = [] := rfl
theorem zerosK_succ (z : List Value) (n : Nat) : zerosK z (n + 1) = z ++ zerosK z n := by
  show appK z (zerosK z n) = _
  rw [appK_eq]
theorem zerosK_length (z : List Value) (n : Nat) : (zerosK z n).length = n * z.length := by
  induction n with
  | zero => simp [zerosK_zero]
  | succ n ih => rw [zerosK_succ, List.length_append, ih, Nat.succ_mul]; omega
theorem zerosK_get (z : List Value) (_hz : 0 < z.length) : ∀ (n i : Nat), i < n * z.length → (zerosK z n)[i]? = z[i % z.length]? := by
  intro n
  induction n with
  | zero => intro i h; omega
  | succ n ih =>
    intro i h
    rw [zerosK_succ, List.getElem?_append]
    split
    · rename_i hlt; rw [Nat.mod_eq_of_lt hlt]
    · rename_i hge
      rw [ih (i - z.length) (by rw [Nat.succ_mul] at h; omega)]
      congr 1
      rw [Nat.mod_eq_sub_mod (by omega : z.length ≤ i)]
theorem zerosK_eq (z : Array Value) (n : Nat) (hz : 0 < z.size) : zerosK z.toList n = ((Array.range (n * z.size)).map (fun i => z[i % z.size]!)).toList := by
  apply List.ext_getElem?
  intro i
  by_cases h : i < n * z.size
  · rw [zerosK_get z.toList (by simpa using hz) n i (by simpa using h)]
    have hm : i % z.size < z.size := Nat.mod_lt _ hz
    simp [h, hm]
  · rw [List.getElem?_eq_none (by rw [zerosK_length]; simpa using h), List.getElem?_eq_none (by simpa using h)]
theorem elemOk_ok {e : TypeId} {size : Nat} {z : List Value} (h : elemOk P e = .ok size z) : ∃ i v, P.info? e = some i ∧ i.zero = some v ∧ flat v = true ∧ v.cells.toList = z ∧ i.size = size ∧ v.cells.size = size ∧ i.bytes ≤ 100000 ∧ 1 ≤ size := by
  unfold elemOk at h
  split at h
  · rename_i i hi
    split at h
    · rename_i v hv
      cases hf : flat v with
      | false => rw [hf] at h; cases h
      | true =>
        cases hl : Nat.beq (lenK v.cells.toList) i.size with
        | false => rw [hf, hl] at h; cases h
        | true =>
          cases hb : Nat.ble i.bytes 100000 with
          | false => rw [hf, hl, hb] at h; cases h
          | true =>
            cases h1 : Nat.ble 1 i.size with
            | false => rw [hf, hl, hb, h1] at h; cases h
            | true =>
              rw [hf, hl, hb, h1] at h
              cases h
              rw [Nat.beq_eq, lenK_eq] at hl
              exact ⟨i, v, hi, hv, hf, rfl, rfl, by simpa using hl, by simpa using hb, by simpa using h1⟩
    · cases h
  · cases h
theorem zeros_rel {dead : Nat → Prop} {v : Value} (hf : flat v = true) (n : Nat) : LRel m dead (zerosK v.cells.toList n) (zerosK v.cells.toList n) := by
  have h1 : LRel m dead v.cells.toList v.cells.toList := lrel_cells (vrel_flat hf) (by rintro rfl; cases hf)
  induction n with
  | zero => exact .nil
  | succ n ih => rw [zerosK_succ]; exact h1.append ih
theorem exact2 (n : Nat) : exactB (2 * n) = true := by
  show Nat.beq ((2 * n) % 2) 0 = true
  rw [show (2 * n) % 2 = 0 by omega]; rfl
theorem half2 (n : Nat) : half (2 * n) = n := by show 2 * n / 2 = n; omega
theorem exact21 (n : Nat) : exactB (2 * n + 1) = false := by
  show Nat.beq ((2 * n + 1) % 2) 0 = false
  rw [show (2 * n + 1) % 2 = 1 by omega]; rfl
theorem half21 (n : Nat) : half (2 * n + 1) = n := by show (2 * n + 1) / 2 = n; omega
theorem buildSlice_run {t e : TypeId} {n size : Nat} {z : List Value} (ht : sliceElem P t = some e) (he : elemOk P e = .ok size z) (hle : n * size ≤ 10000)
    {dead : Nat → Prop} {parts : List (Nat × Value)} {qarts : Array (Nat × Value)} (hp : PRel m dead parts qarts.toList) {cs : List Value} (hf : fillK (fun i => some (Nat.mul i size, size)) parts (zerosK z n) = some cs) :
    ∃ es : Array Value, LRel m dead cs es.toList ∧ (Instr.buildSlice t n qarts).run P w = .ok (.slice (some ⟨w.heap.size, 0, none⟩) n n) { w with heap := w.heap.push (.cells es e) } := by
  obtain ⟨i, zv, hi, hz, hfl, rfl, hs, hsz, hb, h1⟩ := elemOk_ok he
  have hzr := zeros_rel (m := m) (dead := dead) hfl n
  have hd := sliceElem_some ht
  rw [zerosK_eq zv.cells n (by omega)] at hzr
  have hfz : fillK (fun i => some (Nat.mul i size, size)) parts (zerosK zv.cells.toList n) = some cs := hf
  obtain ⟨es, h2, h3⟩ := fill_rel hp hfz (ds := (Array.range (n * zv.cells.size)).map (fun i => zv.cells[i % zv.cells.size]!)) (by rw [zerosK_eq zv.cells n (by omega)]; exact hzr)
  refine ⟨es, h3, ?_⟩
  subst hs
  have hn0 : ¬ (n * i.size > 2 ^ 24) := by omega
  have h2' : Instr.fill (fun j => some (j * i.size, i.size)) ((Array.range (n * zv.cells.size)).map (fun j => zv.cells[j % zv.cells.size]!)) qarts.toList = some es := h2
  rw [hsz] at h2'
  by_cases h0 : n * i.size = 0
  · rw [h0] at h2'
    have e0 : ∀ f : Nat → Value, (Array.range 0).map f = #[] := fun f => by simp
    rw [e0] at h2'
    simp only [Instr.buildSlice, Sem.run_bind, run_underlying hd, Result.andThen_ok, run_size hi, if_neg hn0]
    simp only [h0, if_true, Sem.run_bind, Sem.run_pure, Result.andThen_ok, e0, h2', newRow, run_newObj]
  · simp only [Instr.buildSlice, Sem.run_bind, run_underlying hd, Result.andThen_ok, run_size hi, if_neg hn0]
    simp only [h0, if_false, Sem.run_bind, Sem.run_pure, Result.andThen_ok, run_zero hi hz, hsz, h2', newRow, run_newObj]
theorem buildSlice_av (hR : Rel P B W0 pend s m w) {t e : TypeId} {n size : Nat} {z : List Value} (ht : sliceElem P t = some e) (he : elemOk P e = .ok size z) (hle : n * size ≤ 10000)
    {parts : List (Nat × Value)} {qarts : Array (Nat × Value)} (hp : PRel m s.dead parts qarts.toList) :
    AV P B W0 pend s m w (doBuildSlice e size n (zerosK z n) parts s) (Instr.buildSlice t n qarts) := by
  intro v s' h
  unfold doBuildSlice at h
  split at h
  · rename_i cs hf
    cases h
    obtain ⟨es, h3, hrun⟩ := buildSlice_run (w := w) ht he hle hp hf
    have hlen : cs.length = es.toList.length := h3.1
    obtain ⟨m', g1, g2, g3⟩ := hR.newRow cs es e (by rw [hlen, List.take_length]; exact h3)
    exact ⟨m', _, .slice (some ⟨w.heap.size, 0, none⟩) n n, hrun, g2, g3, .slice _ _ _ _ _ _ _ _ g1 (fun _ => (half2 n).symm) (Nat.le_of_eq (half2 n)) (fun h => by rw [show Nat.mul 2 n = 2 * n from rfl, exact2] at h; cases h)⟩
  · cases h
theorem makeMap_av (hR : Rel P B W0 pend s m w) {t : TypeId} : AV P B W0 pend s m w (.val (.map (some s.next)) (s.new (.mp [] 0))) (Instr.makeMap t none) := by
  intro v s' h
  cases h
  obtain ⟨m', h1, h2, h3⟩ := hR.newObj (.mp [] 0) (.map #[] 0) 0 0 (by simp) fun m' hm hs =>
    ⟨w.heap.size, #[], ⟨0, 0, hs⟩, by simp, (fun hb => Nat.lt_irrefl _ (hR.size _ hb)), rfl, fun i e f he => by simp at he⟩
  exact ⟨m', _, .map (some w.heap.size), by simp [Instr.makeMap], h2, h3, .map _ _ _ _ h1⟩
theorem wrap_small (n : Nat) (h : n ≤ 1000000) : IntKind.i64.wrap (n : Int) = n := by
  rw [← wrapF_eq]
  show @Bool.rec (fun _ => Int) _ _ (Nat.ble n 9223372036854775807) = _
  rw [brec, if_pos (by rw [Nat.ble_eq]; omega)]
  rfl
theorem makeSlice_av (hR : Rel P B W0 pend s m w) {t e : TypeId} {size : Nat} {z : List Value} (ht : sliceElem P t = some e) (he : elemOk P e = .ok size z) {l c lu cu : Value} (hl : VRel m s.dead l lu) (hc : VRel m s.dead c cu) :
    AV P B W0 pend s m w (doMakeSlice e z l c s) (Instr.makeSlice t lu cu) := by
  intro v s' h
  unfold doMakeSlice at h
  split at h
  · cases h
  · rename_i l' hl'
    split at h
    · cases h
    · rename_i c' hc'
      obtain ⟨kl, rfl⟩ := natOf_ok hl'
      obtain ⟨kc, rfl⟩ := natOf_ok hc'
      have := hl.int_inv; subst this
      have := hc.int_inv; subst this
      cases h1 : Nat.ble l' c' with
      | false => rw [h1] at h; cases h
      | true =>
        cases h2 : Nat.ble c' 1000000 with
        | false => rw [h1, h2] at h; cases h
        | true =>
          rw [h1, h2] at h
          cases h
          obtain ⟨i, zv, hi, hz, hfl, rfl, hs, hsz, hb, h1'⟩ := elemOk_ok he
          rw [Nat.ble_eq] at h1 h2
          have hb2 : (i.bytes : Int) * c' ≤ 281474976710656 := by
            have : i.bytes * c' ≤ 100000 * 1000000 := Nat.mul_le_mul hb h2
            have h' : ((i.bytes * c' : Nat) : Int) ≤ 281474976710656 := by omega
            rwa [Int.natCast_mul] at h'
          have hr := run_make (P := P) w t e i zv (sliceElem_some ht) hi hz kl kc l' c' (by omega) (by omega) hb2 (by omega)
          simp only [Int.toNat_natCast] at hr
          subst hs
          have hzc : zerosK zv.cells.toList c' = (madeCells zv.cells (c' * i.size)).toList := by rw [zerosK_eq zv.cells c' (by omega)]; simp only [madeCells, hsz]
          have hzr := zeros_rel (m := m) (dead := s.dead) hfl c'
          obtain ⟨m', g1, g2, g3⟩ := hR.newRow (zerosK zv.cells.toList c') (madeCells zv.cells (c' * i.size)) e (by
            have : (madeCells zv.cells (c' * i.size)).toList.take (zerosK zv.cells.toList c').length = zerosK zv.cells.toList c' := by rw [hzc, List.take_length]
            rw [this]; exact hzr)
          exact ⟨m', _, _, hr, g2, g3, .slice _ _ _ _ _ _ _ _ g1 (fun _ => (half2 c').symm) (Nat.le_of_eq (half2 c')) (fun h => by rw [show Nat.mul 2 c' = 2 * c' from rfl, exact2] at h; cases h)⟩
theorem bytesV_eq (l : List UInt8) : bytesV l = l.map fun b => Value.int .u8 b.toNat := by unfold bytesV; rw [mapK_eq]; rfl
theorem lrel_ints {dead : Nat → Prop} (l : List UInt8) : LRel m dead (bytesV l) (bytesV l) := by
  rw [bytesV_eq]
  exact lrel_flat (fun v hv => by obtain ⟨b, _, rfl⟩ := List.mem_map.1 hv; rfl)
theorem modify_push {α : Type} (a : Array α) (x : α) (f : α → α) : (a.push x).modify a.size f = a.push (f x) := by
  apply Array.ext
  · simp
  · intro i h1 h2
    simp only [Array.getElem_modify, Array.getElem_push]
    by_cases h : i < a.size
    · simp [h, Nat.ne_of_gt h]
    · have : i = a.size := by simp at h2; omega
      subst this
      simp
theorem freeze_new (w : World) (C : Array Value) (e : TypeId) : (({ w with heap := w.heap.push (.cells C e) } : World).freeze { block := w.heap.size, off := C.size } 1) = { w with heap := w.heap.push (.cells C e (C.size, C.size + 1)) } := by
  simp only [World.freeze, if_neg (show ¬ (1 = 0) by omega)]
  rw [modify_push]
  rfl
theorem run_mark_new (w : World) (C : Array Value) (e : TypeId) : (markStringish { block := w.heap.size, off := 0 }).run P { w with heap := w.heap.push (.cells C e) } = .ok () { w with heap := w.heap.push (.cells C e (C.size, C.size + 1)) } := by
  have hsh : ({ w with heap := w.heap.push (.cells C e) } : World).shape? w.heap.size = some (e, C.size) := by simp [World.shape?]
  simp only [markStringish, Sem.run_bind, run_shape, hsh, Result.andThen_ok, run_freeze, freeze_new]
theorem convBytes_av (hR : Rel P B W0 pend s m w) {src dst e : TypeId} (hs : srcKind P src ≠ .bad) (hk : ckind P dst = .bytes e) (hc1 : P.cellsOf e = 1) {x u : Value} (hx : VRel m s.dead x u) :
    AV P B W0 pend s m w (convBytes e x s) (convert src dst u) := by
  intro v s' h
  have hck := ckind_ok P dst
  rw [hk] at hck
  cases hck with
  | bytes _ hd hde =>
    unfold convBytes at h
    split at h
    · rename_i b
      have := hx.string_inv; subst this
      cases h
      obtain ⟨d, hd'⟩ := srcKind_some hs
      let cap := grownCap w b.size 0 e
      have hcap : b.size ≤ cap := by simp only [cap, grownCap, Question.cut]; omega
      let C : Array Value := b.data.map (fun b => Value.int .u8 b.toNat) ++ Array.replicate (cap - b.size) (.int .u8 0)
      have hC : C.size = cap := by
        have : b.data.size = b.size := rfl
        simp [C, this]; omega
      have hRd := hR.drawn (w.drawn + 1)
      have hbl : (bytesV b.data.toList).length = b.size := by rw [bytesV_eq, List.length_map]; simp
      have htake : C.toList.take (bytesV b.data.toList).length = bytesV b.data.toList := by
        rw [hbl, bytesV_eq]
        simp only [C, Array.toList_append, Array.toList_map]
        rw [List.take_append_of_le_length (by simp)]
        rw [List.take_of_length_le (by simp)]
      obtain ⟨m', g1, g2, g3⟩ := hRd.newObj (.row (bytesV b.data.toList) e true) (.cells C e (C.size, C.size + 1)) C.size (P.cellsOf e) (by simp) fun m' hm hs =>
        ⟨w.heap.size, C, (C.size, C.size + 1), hs, by simp, (fun h => by cases h), (by rw [htake]; exact lrel_ints _)⟩
      refine ⟨m', _, .slice (some ⟨w.heap.size, 0, none⟩) b.size cap, ?_, g2, g3, ?_⟩
      · have hC2 : C = b.data.map (fun b => Value.int .u8 b.toNat) ++ Array.replicate (cap - b.size) (.int .u8 0) := rfl
        have hch : (choose (.appendCap b.size 0 e)).run P w = .ok cap { w with drawn := w.drawn + 1 } := by
          rw [run_choose]
          simp [Question.forced, cap, grownCap]
        simp only [convert, Sem.run_bind, run_underlying hd, run_underlying hd', run_underlying hde, Result.andThen_ok, Conv.stringToBytes, hch, newRow, Sem.run_pure, run_newObj, ← hC2, run_mark_new]
      · rw [lenK_eq]
        have e1 : b.data.toList.length = b.size := by simp
        rw [e1]
        exact .slice _ _ _ _ _ _ _ _ g1 (fun h => by rw [show Nat.add (Nat.mul 2 b.size) 1 = 2 * b.size + 1 from rfl, exact21] at h; cases h) (by rw [show Nat.add (Nat.mul 2 b.size) 1 = 2 * b.size + 1 from rfl, half21]; exact hcap) (fun _ => by rw [hC, hc1]; omega)
    · cases h
theorem digits_size (n t : Nat) (acc : Array Value) : (Extern.BytealgMakeNoZero.digits n t acc).size = acc.size + n := by
  induction n generalizing t acc with
  | zero => rfl
  | succ n ih => rw [Extern.BytealgMakeNoZero.digits, ih]; simp; omega
theorem poison_rel {dead : Nat → Prop} (n : Nat) (us : List Value) (h : us.length = n) : LRel m dead (zerosK [poison] n) us := by
  refine ⟨by rw [zerosK_length, h]; simp, fun i v u hv _ => ?_⟩
  have hi : i < n * [poison].length := by
    have := (List.getElem?_eq_some_iff.1 hv).1
    rw [zerosK_length] at this; exact this
  rw [zerosK_get [poison] (by simp) n i hi] at hv
  have : i % [poison].length = 0 := by simp [Nat.mod_one]
  rw [this] at hv
  simp at hv
  subst hv
  exact .poison u
theorem makeNZ_av (hR : Rel P B W0 pend s m w) {args us : List Value} (ha : LRel m s.dead args us) {params results : Array TypeId} {t e : TypeId} (ht : results[0]? = some t) (he : sliceElem P t = some e) (hc1 : P.cellsOf e = 1) :
    AV P B W0 pend s m w (makeNZ e args s) (Extern.BytealgMakeNoZero.makeNoZero params results us.toArray) := by
  intro v s' h
  unfold makeNZ at h
  split at h
  · rename_i n
    simp only [bif', brec, Nat.ble_eq] at h
    split at h
    · rename_i hn
      cases h
      obtain ⟨u, us', rfl, h1, h2⟩ := ha.inv_cons
      have := h2.inv_nil; subst this
      have := h1.int_inv; subst this
      let cap := grownCap w n 0 e
      have hcap : n ≤ cap := by simp only [cap, grownCap, Question.cut]; omega
      have hch : (choose (.appendCap n 0 e)).run P w = .ok cap { w with drawn := w.drawn + 1 } := by
        rw [run_choose]
        simp [Question.forced, cap, grownCap]
      have hch2 : ∃ b, (choose (.extern "internal/bytealg.MakeNoZero.bytes" 0)).run P { w with drawn := w.drawn + 1 } = .ok b { w with drawn := w.drawn + 1 + 1 } := by
        rw [run_choose]
        simp only [Question.forced]
        exact ⟨_, rfl⟩
      obtain ⟨b, hb⟩ := hch2
      have hRd := hR.drawn (w.drawn + 1 + 1)
      have hsz := digits_size cap b #[]
      have hsz' : (Extern.BytealgMakeNoZero.digits cap b #[]).size = cap := by simpa using hsz
      obtain ⟨m', g1, g2, g3⟩ := hRd.newRow (zerosK [poison] n) (Extern.BytealgMakeNoZero.digits cap b #[]) e (poison_rel n _ (by rw [zerosK_length]; simp [hsz']; omega))
      refine ⟨m', _, .slice (some ⟨w.heap.size, 0, none⟩) n cap, ?_, g2, g3, ?_⟩
      · have hn1 : ¬ ((n : Int) < 0 || (n : Int) > 2 ^ 48) = true := by simp; omega
        show (Extern.BytealgMakeNoZero.makeNoZero params results #[.int .i64 (n : Int)]).run P w = _
        delta Extern.BytealgMakeNoZero.makeNoZero
        show Sem.run P (match results[0]? with | some t => (Bind.bind (underlying t) _ : Sem Value) | _ => _) w = _
        simp only [ht, Sem.run_bind, run_underlying (sliceElem_some he), Result.andThen_ok, if_neg hn1, Int.toNat_natCast, hch, run_askRoom, hb, newRow, run_newObj, Sem.run_pure]
      · exact .slice _ _ _ _ _ _ _ _ g1 (fun h => by rw [show Nat.add (Nat.mul 2 n) 1 = 2 * n + 1 from rfl, exact21] at h; cases h) (by rw [show Nat.add (Nat.mul 2 n) 1 = 2 * n + 1 from rfl, half21]; exact hcap) (fun _ => by rw [hsz', hc1]; omega)
    · cases h
  · cases h
theorem loadBytes_ok (w : World) : ∀ (ns : List Nat) (a : Addr) (acc : ByteArray), (∀ j v, (ns.map (fun n : Nat => Value.int .u8 (n : Int)))[j]? = some v → w.cell? (a.add j) = some v) →
    (loadBytes a acc ns.length).run P w = .ok ⟨acc.data ++ (ns.map UInt8.ofNat).toArray⟩ w
  | [], a, acc, _ => by simp [loadBytes]
  | x :: l, a, acc, h => by
    have h0 : w.cell? a = some (.int .u8 (x : Int)) := by
      have := h 0 _ rfl
      simpa [Addr.add] using this
    have ih := loadBytes_ok w l (a.add 1) (acc.push (UInt8.ofNat x)) (fun j y hy => by
      have := h (j + 1) y (by simpa using hy)
      have e : (a.add 1).add j = a.add (j + 1) := by
        unfold Addr.add
        by_cases hj : j = 0
        · subst hj; simp
        · simp [hj]; omega
      rw [e]; exact this)
    simp only [List.length_cons, loadBytes, Sem.run_bind, run_load, h0, Result.andThen, Int.toNat_natCast]
    show (loadBytes (a.add 1) (acc.push (UInt8.ofNat x)) l.length).run P w = _
    rw [ih]
    congr 1
    apply ByteArray.ext
    simp [ByteArray.push]
/-- Bytes that a string shares. -/
theorem Rel.frozen (hR : Rel P B W0 pend s m w) {b c : Nat} {cells : List Value} {el : TypeId} {C : Array Value} {fz : Nat × Nat} (r : RowAt P B m s.dead w b c cells el false C fz) (hg : s.get b = some (.row cells el false)) (off n : Nat) :
    Rel P B W0 pend (s.put b (.row cells el true)) m (w.freeze ⟨c, off, none⟩ n) ∧ Ext s m (s.put b (.row cells el true)) m := by
  obtain ⟨rfl, hBc⟩ := r.fr rfl
  have hnd : ¬ s.dead b := by simp [AS.dead, hg]
  refine ⟨?_, Ext.put hR hnd _ (fun k hk => by rw [hg] at hk; cases hk)⟩
  have hlt : c < w.heap.size := (Array.getElem?_eq_some_iff.1 r.hc).1
  obtain ⟨fz', h1⟩ : ∃ fz', (w.freeze ⟨c, off, none⟩ n).heap[c]? = some (.cells C el fz') := by
    unfold World.freeze
    split
    · exact ⟨_, r.hc⟩
    · simp only [Array.getElem?_modify, if_true, r.hc, Option.map_some]
      exact ⟨_, rfl⟩
  refine hR.setBlock (ob := .cells C el fz') r.mb hnd hBc _ (by simp) h1 ?_ ?_ ?_ ?_ ⟨c, C, fz', r.mb, h1, (fun h => by cases h), r.rel⟩
  · intro k hk
    unfold World.freeze
    split
    · rfl
    · simp [Array.getElem?_modify, Ne.symm hk]
  · unfold World.freeze; split <;> simp
  · unfold World.freeze; split <;> rfl
  · unfold World.freeze; split <;> rfl
theorem unsafeStr_av (hR : Rel P B W0 pend s m w) {argTypes : Array TypeId} {type pt u : TypeId} (ht : argTypes[0]? = some pt) (hu : ptrElem P pt = some u) {p n pu nu : Value} (hp : VRel m s.dead p pu) (hn : VRel m s.dead n nu) :
    AV P B W0 pend s m w (unsafeStr P u p n s) (Builtin.unsafeString_ argTypes type #[pu, nu]) := by
  intro v s' h
  unfold unsafeStr at h
  split at h
  · cases h
  · rename_i k hk
    obtain ⟨kk, rfl⟩ := natOf_ok hk
    have := hn.int_inv; subst this
    have hneg : ¬ ((k : Int) < 0) := by omega
    have hd : P.underlying pt = some (.pointer u) := by
      unfold ptrElem at hu
      split at hu
      · rename_i hd; cases hu; exact hd
      · cases hu
    have hel : (elemOf pt).run P w = .ok u w := by simp [elemOf, run_underlying hd]
    have zero : ∀ a, k = 0 → (Builtin.unsafeString_ argTypes type #[.pointer a, .int kk (k : Int)]).run P w = .ok (.string ⟨#[]⟩) w := by
      intro a h0
      subst h0
      have hasi : (asInt (.int kk ((0 : Nat) : Int))).run P w = .ok ((0 : Nat) : Int) w := by simp [asInt, asIntOf]
      show (Bind.bind (asInt (.int kk ((0 : Nat) : Int))) _).run P w = _
      rw [Sem.run_bind, hasi, Result.andThen_ok]
      cases a <;> simp [ht, IntKind.max] <;> rfl
    split at h
    · have := hp.pnil_inv; subst this
      simp only [bif', brec, Nat.beq_eq] at h
      split at h
      · rename_i h0
        cases h
        exact ⟨m, w, _, zero none h0, hR, Ext.refl _ _, .flat _ rfl⟩
      · cases h
    · rename_i b off
      simp only [bif', brec, Nat.beq_eq, Nat.ble_eq] at h
      split at h
      · rename_i h0
        cases h
        obtain ⟨a, rfl⟩ : ∃ a, pu = .pointer (some a) := by
          rcases hp.ptr_inv with ⟨b, o, c, N, z, e1, rfl, hm⟩ | ⟨_, x, rfl⟩ <;> exact ⟨_, rfl⟩
        exact ⟨m, w, _, zero (some a) h0, hR, Ext.refl _ _, .flat _ rfl⟩
      · rename_i h0
        split at h
        · rename_i hle
          unfold unsafeS1 at h
          split at h
          · rename_i full el hg
            simp only [bif', brec] at h
            split at h
            · rename_i hlies
              split at h
              · rename_i cs hrd
                split at h
                · rename_i bs hbs
                  cases h
                  obtain ⟨c, C, fz, _, rfl, r⟩ := hR.ptr_row hp hg
                  obtain ⟨c', us, e1, hrel, hlen, hcell⟩ := hR.read hrd hp
                  cases e1
                  obtain ⟨ns, rfl, rfl⟩ := toBytes_ok hbs
                  have hus := all_flat1 hrel (ints_flat ns)
                  subst hus
                  have hk' : ns.length = k := by simpa using hlen
                  obtain ⟨g1, g2⟩ := hR.frozen r hg off k
                  have hlo := loadBytes_ok (P := P) w ns ⟨c, off, none⟩ .empty hcell
                  rw [hk'] at hlo
                  have hva := r.lies hlies
                  refine ⟨m, _, .string ⟨(ns.map UInt8.ofNat).toArray⟩, ?_, g1, g2, .flat _ rfl⟩
                  have hmax : ¬ ((k : Int) > IntKind.i64.max) := by
                    have : IntKind.i64.max = 9223372036854775807 := rfl
                    omega
                  have hk0 : ¬ ((k : Int) = 0) := by omega
                  have hasi : (asInt (.int kk (k : Int))).run P w = .ok (k : Int) w := by simp [asInt, asIntOf]
                  have e0 : (ByteArray.empty.data ++ (ns.map UInt8.ofNat).toArray) = (ns.map UInt8.ofNat).toArray := by
                    show #[] ++ _ = _; simp
                  rw [e0] at hlo
                  show (Bind.bind (asInt (.int kk (k : Int))) _).run P w = _
                  simp only [Sem.run_bind, hasi, Result.andThen_ok, ht, if_neg hneg, if_neg hmax, if_neg hk0, hel, Int.toNat_natCast, hva, if_true, hlo, run_freeze, Sem.run_pure]
                · cases h
              · cases h
            · cases h
          · cases h
        · cases h
    · cases h
end
end Go.Proofs.YtbbknbmmpkpgdaaGreatDoor.KAb

import Derived.Test.YtbbknbmmpkpgdaaGreatDoorKAb
import Derived.Laws.CopyRow
import Derived.Laws.Append
import Derived.Laws.AppendOwn
namespace Go.Proofs.YtbbknbmmpkpgdaaGreatDoor.KAb

theorem brec {α : Type} (b : Bool) (x y : α) : @Bool.rec (fun _ => α) y x b = if b = true then x else y := by cases b <;> rfl

section lists
variable {α β : Type}
theorem lenK_eq (l : List α) : lenK l = l.length := by
  induction l with
  | nil => rfl
  | cons x l ih => show Nat.add (lenK l) 1 = _; rw [ih]; rfl
theorem appK_eq (l m : List α) : appK l m = l ++ m := by
  induction l with
  | nil => rfl
  | cons x l ih => show x :: appK l m = _; rw [ih]; rfl
theorem dropK_eq (n : Nat) (l : List α) : dropK n l = l.drop n := by
  induction n generalizing l with
  | zero => rfl
  | succ n ih => cases l with
    | nil => rfl
    | cons x l => exact ih l
theorem takeK_eq (n : Nat) (l : List α) : takeK n l = l.take n := by
  induction n generalizing l with
  | zero => rfl
  | succ n ih => cases l with
    | nil => rfl
    | cons x l => show x :: takeK n l = _; rw [ih]; rfl
theorem nthK_eq (n : Nat) (l : List α) : nthK n l = l[n]? := by
  induction n generalizing l with
  | zero => cases l <;> rfl
  | succ n ih => cases l with
    | nil => rfl
    | cons x l => exact ih l
theorem mapK_eq (f : α → β) (l : List α) : mapK f l = l.map f := by
  induction l with
  | nil => rfl
  | cons x l ih => show f x :: mapK f l = _; rw [ih]; rfl
theorem allK_eq (f : α → Bool) (l : List α) : allK f l = l.all f := by
  induction l with
  | nil => rfl
  | cons x l ih =>
    show @Bool.rec (fun _ => Bool) false (allK f l) (f x) = _
    rw [ih, List.all_cons]
    cases f x <;> rfl
theorem notB_eq (b : Bool) : notB b = !b := by cases b <;> rfl
end lists

/-! Trees. -/
section trees
variable {α : Type}
theorem getT_nil (k : Nat) : getT (.nil : T α) k = none := rfl
theorem getT_leaf (v : α) (k : Nat) : getT (.leaf v) k = some v := rfl
theorem getT_node (l r : T α) (k : Nat) : getT (.node l r) k = if k % 2 = 0 then getT l (k / 2) else getT r (k / 2) := by
  show @Bool.rec (fun _ => Option α) (getT r (Nat.div k 2)) (getT l (Nat.div k 2)) (Nat.beq (Nat.mod k 2) 0) = _
  rw [brec]
  by_cases h : k % 2 = 0
  · rw [if_pos h, if_pos (by rw [Nat.beq_eq]; exact h)]; rfl
  · rw [if_neg h, if_neg (by rw [Nat.beq_eq]; exact h)]; rfl
end trees

/-! The relation between a value of the evaluator's and the machine's. -/
abbrev Mp := Nat → Option (Nat × Nat × Nat)
inductive VRel (m : Mp) (dead : Nat → Prop) : Value → Value → Prop
  | poison (u : Value) : VRel m dead poison u
  | flat (v : Value) (h : flat1 v = true) : VRel m dead v v
  | ptr (b o c N z : Nat) (h : m b = some (c, N, z)) : VRel m dead (.pointer (some ⟨b, o, none⟩)) (.pointer (some ⟨c, o, none⟩))
  | ptrDead (b o : Nat) (x : Option Nat) (a : Addr) (h : dead b) : VRel m dead (.pointer (some ⟨b, o, x⟩)) (.pointer (some a))
  | slice (b o c N z len code cap : Nat) (h : m b = some (c, N, z)) (he : exactB code = true → cap = half code) (hl : half code ≤ cap) (hN : exactB code = false → o + cap * z ≤ N) :
      VRel m dead (.slice (some ⟨b, o, none⟩) len code) (.slice (some ⟨c, o, none⟩) len cap)
  | sliceE (b o code : Nat) (a : Addr) (hh : half code = 0) : VRel m dead (.slice (some ⟨b, o, none⟩) 0 code) (.slice (some a) 0 0)
  | sliceDead (b o : Nat) (x : Option Nat) (len code : Nat) (a : Addr) (cap : Nat) (h : dead b) (he : exactB code = true → cap = half code) (hl : half code ≤ cap) : VRel m dead (.slice (some ⟨b, o, x⟩) len code) (.slice (some a) len cap)
  | map (b c N z : Nat) (h : m b = some (c, N, z)) : VRel m dead (.map (some b)) (.map (some c))
  | func (fn : Fn) (f g c d : Array Value) (h1 : f.size = g.size) (h2 : ∀ (i : Nat) (v u : Value), f[i]? = some v → g[i]? = some u → VRel m dead v u)
      (h3 : c.size = d.size) (h4 : ∀ (i : Nat) (v u : Value), c[i]? = some v → d[i]? = some u → VRel m dead v u) (hn : isYield fn = false) : VRel m dead (.func fn f c) (.func fn g d)
  | yld (b l N z : Nat) (h : m b = some (l, N, z)) : VRel m dead (.func (.yield b) #[] #[]) (.func (.yield l) #[] #[])
  | iface (t : TypeId) (v u : Value) (h : VRel m dead v u) : VRel m dead (.iface t v) (.iface t u)
  | agg (xs ys : Array Value) (h1 : xs.size = ys.size) (h2 : ∀ (i : Nat) (v u : Value), xs[i]? = some v → ys[i]? = some u → VRel m dead v u) : VRel m dead (.agg xs) (.agg ys)
  | tuple (xs ys : Array Value) (h1 : xs.size = ys.size) (h2 : ∀ (i : Nat) (v u : Value), xs[i]? = some v → ys[i]? = some u → VRel m dead v u) : VRel m dead (.tuple xs) (.tuple ys)

theorem VRel.mono {m m' : Mp} {dead dead' : Nat → Prop} (hm : ∀ b x, m b = some x → m' b = some x) (hd : ∀ b, dead b → dead' b) {v u : Value} (h : VRel m dead v u) : VRel m' dead' v u := by
  induction h with
  | poison u => exact .poison u
  | flat v h => exact .flat v h
  | ptr b o c N z h => exact .ptr b o c N z (hm _ _ h)
  | ptrDead b o x a h => exact .ptrDead b o x a (hd _ h)
  | slice b o c N z len code cap h he hl hN => exact .slice b o c N z len code cap (hm _ _ h) he hl hN
  | sliceE b o code a hh => exact .sliceE b o code a hh
  | sliceDead b o x len code a cap h he hl => exact .sliceDead b o x len code a cap (hd _ h) he hl
  | map b c N z h => exact .map b c N z (hm _ _ h)
  | func fn f g c d h1 _ h3 _ hn ih2 ih4 => exact .func fn f g c d h1 ih2 h3 ih4 hn
  | yld b l N z h => exact .yld b l N z (hm _ _ h)
  | iface t v u _ ih => exact .iface t v u ih
  | agg xs ys h1 _ ih => exact .agg xs ys h1 ih
  | tuple xs ys h1 _ ih => exact .tuple xs ys h1 ih

/-- Lists, one by one. -/
def LRel (m : Mp) (dead : Nat → Prop) (xs ys : List Value) : Prop := xs.length = ys.length ∧ ∀ (i : Nat) (v u : Value), xs[i]? = some v → ys[i]? = some u → VRel m dead v u
section lrel
variable {m m' : Mp} {dead dead' : Nat → Prop}
theorem LRel.mono (hm : ∀ b x, m b = some x → m' b = some x) (hd : ∀ b, dead b → dead' b) {xs ys : List Value} (h : LRel m dead xs ys) : LRel m' dead' xs ys :=
  ⟨h.1, fun i v u hv hu => (h.2 i v u hv hu).mono hm hd⟩
theorem LRel.nil : LRel m dead [] [] := ⟨rfl, by simp⟩
theorem LRel.cons {v u : Value} {xs ys : List Value} (h : VRel m dead v u) (hs : LRel m dead xs ys) : LRel m dead (v :: xs) (u :: ys) := by
  refine ⟨by simp [hs.1], fun i a b ha hb => ?_⟩
  cases i with
  | zero => simp at ha hb; subst ha hb; exact h
  | succ i => simp at ha hb; exact hs.2 i a b ha hb
theorem LRel.tail {v u : Value} {xs ys : List Value} (h : LRel m dead (v :: xs) (u :: ys)) : LRel m dead xs ys :=
  ⟨by simpa using h.1, fun i a b ha hb => h.2 (i + 1) a b (by simpa using ha) (by simpa using hb)⟩
theorem LRel.head {v u : Value} {xs ys : List Value} (h : LRel m dead (v :: xs) (u :: ys)) : VRel m dead v u := h.2 0 v u rfl rfl
theorem LRel.inv_nil {ys : List Value} (h : LRel m dead [] ys) : ys = [] := List.eq_nil_of_length_eq_zero (by simpa using h.1.symm)
theorem LRel.inv_cons {v : Value} {xs ys : List Value} (h : LRel m dead (v :: xs) ys) : ∃ u us, ys = u :: us ∧ VRel m dead v u ∧ LRel m dead xs us := by
  cases ys with
  | nil => simp [LRel] at h
  | cons u us => exact ⟨u, us, rfl, h.head, h.tail⟩
theorem LRel.append {xs ys xs' ys' : List Value} (h : LRel m dead xs ys) (h' : LRel m dead xs' ys') : LRel m dead (xs ++ xs') (ys ++ ys') := by
  induction xs generalizing ys with
  | nil => rw [h.inv_nil]; exact h'
  | cons v xs ih => obtain ⟨u, us, rfl, h1, h2⟩ := h.inv_cons; exact .cons h1 (ih h2)
theorem LRel.take {xs ys : List Value} (n : Nat) (h : LRel m dead xs ys) : LRel m dead (xs.take n) (ys.take n) :=
  ⟨by simp [h.1], fun i v u hv hu => h.2 i v u (by rw [List.getElem?_take] at hv; split at hv <;> simp_all) (by rw [List.getElem?_take] at hu; split at hu <;> simp_all)⟩
theorem LRel.drop {xs ys : List Value} (n : Nat) (h : LRel m dead xs ys) : LRel m dead (xs.drop n) (ys.drop n) :=
  ⟨by simp [h.1], fun i v u hv hu => h.2 (n + i) v u (by simpa using hv) (by simpa using hu)⟩
theorem LRel.get {xs ys : List Value} (h : LRel m dead xs ys) {i : Nat} {v : Value} (hv : xs[i]? = some v) : ∃ u, ys[i]? = some u ∧ VRel m dead v u := by
  have hlt : i < ys.length := by rw [← h.1]; exact (List.getElem?_eq_some_iff.1 hv).1
  exact ⟨ys[i], List.getElem?_eq_getElem hlt, h.2 i v _ hv (List.getElem?_eq_getElem hlt)⟩
theorem lrel_flat {l : List Value} (h : ∀ v ∈ l, flat1 v = true) : LRel m dead l l :=
  ⟨rfl, fun i v u hv hu => by rw [hv] at hu; cases hu; exact .flat v (h v (List.mem_of_getElem? hv))⟩
theorem vrel_agg {xs ys : Array Value} (h : LRel m dead xs.toList ys.toList) : VRel m dead (.agg xs) (.agg ys) :=
  .agg xs ys (by simpa using h.1) fun i v u hv hu => h.2 i v u (by simpa using hv) (by simpa using hu)
theorem vrel_tuple {xs ys : Array Value} (h : LRel m dead xs.toList ys.toList) : VRel m dead (.tuple xs) (.tuple ys) :=
  .tuple xs ys (by simpa using h.1) fun i v u hv hu => h.2 i v u (by simpa using hv) (by simpa using hu)
theorem lrel_of_arrays {xs ys : Array Value} (h1 : xs.size = ys.size) (h2 : ∀ (i : Nat) (v u : Value), xs[i]? = some v → ys[i]? = some u → VRel m dead v u) : LRel m dead xs.toList ys.toList :=
  ⟨by simpa using h1, fun i v u hv hu => h2 i v u (by simpa using hv) (by simpa using hu)⟩

/-! What a known value's partner looks like. -/
theorem VRel.bool_inv {b : Bool} {u : Value} (h : VRel m dead (.bool b) u) : u = .bool b := by cases h; rfl
theorem VRel.int_inv {k : IntKind} {n : Int} {u : Value} (h : VRel m dead (.int k n) u) : u = .int k n := by cases h; rfl
theorem VRel.string_inv {b : ByteArray} {u : Value} (h : VRel m dead (.string b) u) : u = .string b := by cases h; rfl
theorem VRel.nilIface_inv {u : Value} (h : VRel m dead .nilIface u) : u = .nilIface := by cases h; rfl
theorem VRel.nilFunc_inv {u : Value} (h : VRel m dead .nilFunc u) : u = .nilFunc := by cases h; rfl
theorem VRel.pnil_inv {u : Value} (h : VRel m dead (.pointer none) u) : u = .pointer none := by cases h; rfl
theorem VRel.mnil_inv {u : Value} (h : VRel m dead (.map none) u) : u = .map none := by cases h; rfl
theorem VRel.snil_inv {n c : Nat} {u : Value} (h : VRel m dead (.slice none n c) u) : u = .slice none 0 0 ∧ n = 0 ∧ c = 0 := by
  cases h with
  | flat _ h => simp [flat1] at h; obtain ⟨rfl, rfl⟩ := h; exact ⟨rfl, rfl, rfl⟩
theorem VRel.agg_inv {xs : Array Value} {u : Value} (h : VRel m dead (.agg xs) u) : ∃ ys, u = .agg ys ∧ LRel m dead xs.toList ys.toList := by
  cases h with
  | flat _ h => simp [flat1] at h
  | agg _ ys h1 h2 => exact ⟨ys, rfl, lrel_of_arrays h1 h2⟩
theorem VRel.tuple_inv {xs : Array Value} {u : Value} (h : VRel m dead (.tuple xs) u) : ∃ ys, u = .tuple ys ∧ LRel m dead xs.toList ys.toList := by
  cases h with
  | flat _ h => simp [flat1] at h
  | tuple _ ys h1 h2 => exact ⟨ys, rfl, lrel_of_arrays h1 h2⟩
theorem VRel.iface_inv {t : TypeId} {v u : Value} (h : VRel m dead (.iface t v) u) : ∃ x, u = .iface t x ∧ VRel m dead v x := by
  cases h with
  | flat _ h => simp [flat1] at h
  | iface _ _ x h => exact ⟨x, rfl, h⟩
theorem VRel.func_some {fn : Fn} {f c : Array Value} {u : Value} (h : VRel m dead (.func fn f c) u) : ∃ fn' g d, u = .func fn' g d := by
  cases h with
  | flat _ h => simp [flat1] at h
  | func _ _ g _ d h1 h2 h3 h4 hn => exact ⟨_, _, _, rfl⟩
  | yld _ l N z h => exact ⟨_, _, _, rfl⟩
theorem VRel.yld_inv {b : Nat} {f c : Array Value} {u : Value} (h : VRel m dead (.func (.yield b) f c) u) : ∃ l N z, u = .func (.yield l) #[] #[] ∧ m b = some (l, N, z) := by
  cases h with
  | flat _ h => simp [flat1] at h
  | func _ _ g _ d h1 h2 h3 h4 hn => cases hn
  | yld _ l N z h => exact ⟨l, N, z, rfl, h⟩
theorem VRel.func_inv {g' : FuncId} {f c : Array Value} {u : Value} (h : VRel m dead (.func (.func g') f c) u) : ∃ g d, u = .func (.func g') g d ∧ LRel m dead f.toList g.toList ∧ LRel m dead c.toList d.toList := by
  cases h with
  | flat _ h => simp [flat1] at h
  | func _ _ g _ d h1 h2 h3 h4 _ => exact ⟨g, d, rfl, lrel_of_arrays h1 h2, lrel_of_arrays h3 h4⟩
theorem VRel.map_inv {b : Nat} {u : Value} (h : VRel m dead (.map (some b)) u) : ∃ c N z, u = .map (some c) ∧ m b = some (c, N, z) := by
  cases h with
  | flat _ h => simp [flat1] at h
  | map _ c N z h => exact ⟨c, N, z, rfl, h⟩
theorem VRel.ptr_inv {a : Addr} {u : Value} (h : VRel m dead (.pointer (some a)) u) : (∃ b o c N z, a = ⟨b, o, none⟩ ∧ u = .pointer (some ⟨c, o, none⟩) ∧ m b = some (c, N, z)) ∨ (dead a.block ∧ ∃ x, u = .pointer (some x)) := by
  cases h with
  | flat _ h => simp [flat1] at h
  | ptr b o c N z h => exact .inl ⟨b, o, c, N, z, rfl, rfl, h⟩
  | ptrDead b o x y h => exact .inr ⟨h, y, rfl⟩
theorem VRel.slice_inv {a : Addr} {len code : Nat} {u : Value} (h : VRel m dead (.slice (some a) len code) u) :
    (∃ b o c N z cap, a = ⟨b, o, none⟩ ∧ u = .slice (some ⟨c, o, none⟩) len cap ∧ m b = some (c, N, z) ∧ (exactB code = true → cap = half code) ∧ half code ≤ cap ∧ (exactB code = false → o + cap * z ≤ N)) ∨
    (∃ x, u = .slice (some x) 0 0 ∧ len = 0 ∧ half code = 0) ∨ (dead a.block ∧ ∃ x cap, u = .slice (some x) len cap ∧ (exactB code = true → cap = half code) ∧ half code ≤ cap) := by
  cases h with
  | flat _ h => simp [flat1] at h
  | slice b o c N z _ _ cap h he hl hN => exact .inl ⟨b, o, c, N, z, cap, rfl, rfl, h, he, hl, hN⟩
  | sliceE b o _ x hh => exact .inr (.inl ⟨x, rfl, rfl, hh⟩)
  | sliceDead b o x _ _ y cap h he hl => exact .inr (.inr ⟨h, y, cap, rfl, he, hl⟩)

theorem all_flat1 {l : List Value} {ys : List Value} (h : LRel m dead l ys) (hf : l.all flat1 = true) : ys = l := by
  induction l generalizing ys with
  | nil => exact h.inv_nil
  | cons v l ih =>
    obtain ⟨u, us, rfl, h1, h2⟩ := h.inv_cons
    simp only [List.all_cons, Bool.and_eq_true] at hf
    have : u = v := by
      cases h1 <;> first | rfl | (simp [flat1] at hf; done) | (simp [flat1, KAb.poison] at hf; done)
    rw [this, ih h2 hf.2]
theorem VRel.flat1_eq {v u : Value} (h : VRel m dead v u) (hf : flat1 v = true) : u = v := by
  have := all_flat1 (l := [v]) (ys := [u]) (.cons h .nil) (by simp [hf])
  simpa using this
theorem VRel.flat_eq {v u : Value} (h : VRel m dead v u) (hf : KAb.flat v = true) : u = v := by
  cases v with
  | agg cs =>
    obtain ⟨ys, rfl, h1⟩ := h.agg_inv
    simp only [KAb.flat, allK_eq] at hf
    have := all_flat1 h1 hf
    rw [Array.toList_inj.1 this]
  | tuple cs =>
    obtain ⟨ys, rfl, h1⟩ := h.tuple_inv
    simp only [KAb.flat, allK_eq] at hf
    have := all_flat1 h1 hf
    rw [Array.toList_inj.1 this]
  | iface t v =>
    obtain ⟨x, rfl, h1⟩ := h.iface_inv
    simp only [KAb.flat] at hf
    rw [h1.flat1_eq hf]
  | _ => exact h.flat1_eq hf
theorem vrel_flat {v : Value} (hf : KAb.flat v = true) : VRel m dead v v := by
  cases v with
  | agg cs => simp only [KAb.flat, allK_eq, List.all_eq_true] at hf; exact vrel_agg (lrel_flat hf)
  | tuple cs => simp only [KAb.flat, allK_eq, List.all_eq_true] at hf; exact vrel_tuple (lrel_flat hf)
  | iface t v => exact .iface t v v (.flat v hf)
  | _ => exact .flat _ hf
theorem lrel_cells {v u : Value} (h : VRel m dead v u) (hp : v ≠ poison) : LRel m dead v.cells.toList u.cells.toList := by
  cases h with
  | poison u => exact absurd rfl hp
  | agg xs ys h1 h2 => exact lrel_of_arrays h1 h2
  | flat v h => cases v <;> first | (exact LRel.cons (.flat _ h) .nil) | (simp [flat1] at h)
  | ptr b o c N z h => exact .cons (.ptr b o c N z h) .nil
  | ptrDead b o x a h => exact .cons (.ptrDead b o x a h) .nil
  | slice b o c N z len code cap h he hl hN => exact .cons (.slice b o c N z len code cap h he hl hN) .nil
  | sliceE b o code a hh => exact .cons (.sliceE b o code a hh) .nil
  | sliceDead b o x len code a cap h he hl => exact .cons (.sliceDead b o x len code a cap h he hl) .nil
  | map b c N z h => exact .cons (.map b c N z h) .nil
  | func fn f g c d h1 h2 h3 h4 hn => exact .cons (.func fn f g c d h1 h2 h3 h4 hn) .nil
  | yld b l N z h => exact .cons (.yld b l N z h) .nil
  | iface t v u h => exact .cons (.iface t v u h) .nil
  | tuple xs ys h1 h2 => exact .cons (.tuple xs ys h1 h2) .nil
theorem VRel.scal {v u : Value} (h : VRel m dead v u) (hs : KAb.scal v = true) : u.oneCell' = true := by
  cases h <;> first | rfl | (simp [KAb.scal, KAb.poison] at hs; done) | skip
  all_goals (rename_i h; cases v <;> simp_all [flat1, Value.oneCell', KAb.scal])
end lrel
end Go.Proofs.YtbbknbmmpkpgdaaGreatDoor.KAb

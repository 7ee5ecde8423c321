/- The calculus on slices: what a slice reads as, rows that a function owns and appends to. -/
import Derived.Test.YtlopmgjdeinpbaaGreatDoorEq
import Derived.Laws.AppendOwn
namespace Go.Sp
open Go Go.RowKit

/-! ### Lists of elements, each of so many cells -/
class Enc {α : Type} (f : α → List Value) (s : outParam Nat) : Prop where
  pos : 0 < s
  len : ∀ a, (f a).length = s
  one : ∀ a, ∀ v ∈ f a, v.oneCell' = true
def cat {α : Type} (f : α → List Value) (l : List α) : List Value := l.flatMap f
theorem cat_nil {α : Type} (f : α → List Value) : cat f [] = [] := rfl
theorem cat_cons {α : Type} (f : α → List Value) (a : α) (l : List α) : cat f (a :: l) = f a ++ cat f l := rfl
theorem cat_append {α : Type} (f : α → List Value) (l r : List α) : cat f (l ++ r) = cat f l ++ cat f r := by simp [cat]
theorem cat_length {α : Type} {f : α → List Value} {s : Nat} [h : Enc f s] (l : List α) : (cat f l).length = l.length * s := by
  induction l with
  | nil => simp [cat]
  | cons a r ih => rw [cat_cons, List.length_append, ih, h.len, List.length_cons, Nat.add_mul, Nat.one_mul, Nat.add_comm]
theorem cat_one {α : Type} {f : α → List Value} {s : Nat} [h : Enc f s] (l : List α) : ∀ v ∈ cat f l, v.oneCell' = true := fun v hv => by
  simp only [cat, List.mem_flatMap] at hv
  obtain ⟨a, _, ha⟩ := hv
  exact h.one a v ha
theorem cat_get {α : Type} [Inhabited α] {f : α → List Value} {s : Nat} [h : Enc f s] (l : List α) (i j : Nat) (hi : i < l.length) (hj : j < s) : (cat f l)[i * s + j]? = (f (gd l i))[j]? := by
  induction l generalizing i with
  | nil => simp at hi
  | cons a r ih =>
    rw [cat_cons]
    cases i with
    | zero => rw [Nat.zero_mul, Nat.zero_add, List.getElem?_append_left (by rw [h.len]; exact hj)]; simp [gd]
    | succ i =>
      rw [List.getElem?_append_right (by rw [h.len, Nat.add_mul]; omega), h.len]
      rw [show (i + 1) * s + j - s = i * s + j by rw [Nat.add_mul]; omega]
      rw [ih i (by simpa using hi)]
      simp [gd]
theorem cat_ne {α : Type} {f : α → List Value} {s : Nat} [h : Enc f s] {l : List α} (hl : 0 < l.length) : cat f l ≠ [] := fun e => by
  have h1 := cat_length (f := f) l
  rw [e] at h1
  have h2 := Nat.mul_pos hl h.pos
  simp at h1
  omega
abbrev f1 {α : Type} (g : α → Value) : α → List Value := fun a => [g a]
theorem Enc.f1 {α : Type} {g : α → Value} (h : ∀ a, (g a).oneCell' = true) : Enc (f1 g) 1 := ⟨by decide, fun _ => rfl, fun a v hv => by simp at hv; subst hv; exact h a⟩
abbrev f8 := f1 u8
abbrev f32 := f1 u32
abbrev f64 := f1 u64
abbrev fI := f1 iv
abbrev fP := f1 Value.pointer
abbrev fS : Option Addr × Nat × Nat → List Value := f1 fun p => Value.slice p.1 p.2.1 p.2.2
instance : Enc f8 1 := .f1 fun _ => rfl
instance : Enc f32 1 := .f1 fun _ => rfl
instance : Enc f64 1 := .f1 fun _ => rfl
instance : Enc fI 1 := .f1 fun _ => rfl
instance : Enc fP 1 := .f1 fun _ => rfl
instance : Enc fS 1 := .f1 fun _ => rfl
theorem cat_f1 {α : Type} (g : α → Value) (l : List α) : cat (f1 g) l = l.map g := by
  induction l with
  | nil => rfl
  | cons a r ih => rw [cat_cons, ih]; rfl

/-! ### What a slice's cells read as -/
def Sees (w : World) (o : Option Addr) (xs : List Value) : Prop :=
  xs = [] ∨ ∃ (g off : Nat) (cur : Array Value) (T : TypeId) (fz : Nat × Nat), o = some ⟨g, off, none⟩ ∧ w.heap[g]? = some (.cells cur T fz) ∧ ∀ (j : Nat) (v : Value), xs[j]? = some v → cur[off + j]? = some v
theorem Sees.same {w w' : World} {o : Option Addr} {xs : List Value} (h : Sees w o xs) (hb : ∀ b, (xs ≠ [] ∧ ∃ a, o = some a ∧ a.block = b) → w'.heap[b]? = w.heap[b]?) : Sees w' o xs := by
  rcases h with h | ⟨g, off, cur, T, fz, h1, h2, h3⟩
  · exact .inl h
  · by_cases hx : xs = []
    · exact .inl hx
    · exact .inr ⟨g, off, cur, T, fz, h1, by rw [hb g ⟨hx, _, h1, rfl⟩]; exact h2, h3⟩
def vw {α : Type} (o : Option Addr) (f : α → List Value) (l : List α) : Chunk where
  foot := fun b => cat f l ≠ [] ∧ ∃ a, o = some a ∧ a.block = b
  prop := fun w => Sees w o (cat f l)
  lt := fun w b h ⟨hx, a, ho, hb⟩ => by
    rcases h with h | ⟨g, off, cur, T, fz, h1, h2, _⟩
    · exact absurd h hx
    · rw [h1] at ho; cases ho; subst hb; exact (Array.getElem?_eq_some_iff.1 h2).1
  same := fun w w' hb h => h.same hb
def row {α : Type} (o : Option Addr) (c : Nat) (e : TypeId) (s : Nat) (f : α → List Value) (l : List α) : Chunk where
  foot := fun b => ∃ a, o = some a ∧ a.block = b
  prop := fun w => w.ownsRow 0 e s (.slice o l.length c) l.length (cat f l)
  lt := fun w b h ⟨a, ho, hb⟩ => (h.lt b (by simp [Value.ownBlock, ho, hb])).2
  same := fun w w' hb h => by
    refine ⟨h.1, ?_⟩
    rcases h.2 with h' | ⟨g, cap, cur, h1, h2, h3, rest⟩
    · exact .inl h'
    · refine .inr ⟨g, cap, cur, h1, h2, ?_, rest⟩
      injection h1 with h1
      rw [hb g ⟨_, h1, rfl⟩]; exact h3
theorem ownsRow_sees {w : World} {e : TypeId} {s n c : Nat} {o : Option Addr} {xs : List Value} (h : w.ownsRow 0 e s (.slice o n c) n xs) : Sees w o xs := by
  obtain ⟨hl, h | ⟨g, cap, cur, h1, _, h3, _, _, hsz, ht⟩⟩ := h
  · left
    rw [h.2] at hl
    exact List.eq_nil_of_length_eq_zero (by simpa using hl)
  · injection h1 with h1
    refine .inr ⟨g, 0, cur, e, (0, 0), h1, h3, fun j v hj => ?_⟩
    rw [← ht, List.getElem?_take] at hj
    split at hj
    · simpa using hj
    · cases hj
/-- What 'H' says of the cells at 'o'. -/
class Rd {α : outParam Type} (H : Hp) (o : Option Addr) (f : outParam (α → List Value)) (l : outParam (List α)) : Prop where
  get : ∀ {G : Nat → Prop} {w₀ w : World}, St G w₀ H w → Sees w o (cat f l)
instance {α : Type} {q : Bool} {o : Option Addr} {f : α → List Value} {l : List α} {H : Hp} : Rd (⟨q, vw o f l⟩ :: H) o f l := ⟨fun hs => hs.props 0 _ rfl⟩
instance {α : Type} {q : Bool} {o : Option Addr} {c : Nat} {e : TypeId} {s : Nat} {f : α → List Value} {l : List α} {H : Hp} : Rd (⟨q, row o c e s f l⟩ :: H) o f l := ⟨fun hs => ownsRow_sees (hs.props 0 _ rfl)⟩
theorem sees_blk {α : Type} {b : Nat} {g : α → Value} {l : List α} {T : TypeId} {fr : Nat × Nat} {w : World} (h : w.heap[b]? = some (.cells (encL g l) T fr)) : Sees w (some ⟨b, 0, none⟩) (cat (f1 g) l) := by
  refine .inr ⟨b, 0, _, T, fr, rfl, h, fun j v hj => ?_⟩
  rw [cat_f1] at hj
  rw [Nat.zero_add]
  simpa [encL] using hj
instance {α : Type} {q : Bool} {b : Nat} {g : α → Value} {l : List α} {T : TypeId} {fr : Nat × Nat} {H : Hp} : Rd (⟨q, blk b (.cells (encL g l) T fr)⟩ :: H) (some ⟨b, 0, none⟩) (f1 g) l := ⟨fun hs => sees_blk (hs.props 0 _ rfl)⟩
instance (priority := low) {α : Type} {e : HE} {H : Hp} {o : Option Addr} {f : α → List Value} {l : List α} [h : Rd H o f l] : Rd (e :: H) o f l := ⟨fun hs => h.get hs.tail⟩
instance (priority := 10) Rd.nil {H : Hp} : Rd H none f8 [] := ⟨fun _ => .inl rfl⟩

/-! ### Append -/
def okI (o : Option TypeInfo) (s b : Nat) : Bool := match o with
  | some i => (match i.zero with
    | some z => Nat.beq i.size s && (Nat.beq i.bytes b && Nat.beq z.cells.size s)
    | none => false)
  | none => false
class TI (P : Program) (e : TypeId) (s bytes : outParam Nat) : Prop where eq : okI (P.info? e) s bytes = true
theorem TI.get {P : Program} {e : TypeId} {s bytes : Nat} (h : TI P e s bytes) : ∃ i z, P.info? e = some i ∧ i.zero = some z ∧ i.size = s ∧ i.bytes = bytes ∧ z.cells.size = s := by
  have h := h.eq
  unfold okI at h
  split at h
  · rename_i i hi
    split at h
    · rename_i z hz
      simp only [Bool.and_eq_true] at h
      exact ⟨i, z, hi, hz, Nat.eq_of_beq_eq_true h.1, Nat.eq_of_beq_eq_true h.2.1, Nat.eq_of_beq_eq_true h.2.2⟩
    · cases h
  · cases h

theorem Sees.cells {w : World} {a : Addr} {xs : List Value} (h : Sees w (some a) xs) : ∀ (j : Nat) (v : Value), xs[j]? = some v → w.cell? (a.add j) = some v := fun j v hj => by
  rcases h with h | ⟨g, off, cur, T, fz, h1, h2, h3⟩
  · subst h; simp at hj
  · cases h1
    rw [addr_add, cell_at h2]
    exact h3 j v hj

theorem run_app {P : Program} {w : World} {t ty e : TypeId} {s bytes n m c c' : Nat} {o o' : Option Addr} {xs ys : List Value} [hi : TI P e s bytes] (ht : P.underlying t = some (.slice e)) (hsz : 0 < s)
    (hown : w.ownsRow 0 e s (.slice o n c) n xs) (hsee : Sees w o' ys) (hl : ys.length = m * s) (h1 : ∀ u ∈ ys, u.oneCell' = true) (h63 : n + m ≤ maxLen) (hbytes : (n + m) * bytes ≤ 140737488355328) :
    ∃ o2 c2 w', (Builtin.append_ #[t, t] ty #[.slice o n c, .slice o' m c']).run P w = .ok (.slice o2 (n + m) c2) w' ∧ w'.ownsRow 0 e s (.slice o2 (n + m) c2) (n + m) (xs ++ ys) ∧ Keep (fun b => ∃ a, o = some a ∧ a.block = b) w w' ∧
      (∀ a, o2 = some a → (∃ a0, o = some a0 ∧ a0.block = a.block) ∨ w.heap.size ≤ a.block) := by
  obtain ⟨i, z, h2, h3, h4, h5, h6⟩ := hi.get
  subst h4
  subst h5
  have hsmall : n + m ≤ 9223372036854775807 := by simp only [maxLen] at h63; omega
  have hlen : (xs ++ ys).length = (n + m) * i.size := by rw [List.length_append, hown.1, hl, Nat.add_mul]
  rcases Nat.eq_zero_or_pos m with h0 | h0
  · subst h0
    have hy : ys = [] := List.eq_nil_of_length_eq_zero (by simpa using hl)
    subst hy
    have hnc : n ≤ c := by
      rcases hown.2 with ⟨hv, hn⟩ | ⟨g, cap, cur, hv, _, _, h, _⟩
      · omega
      · injection hv with _ _ hc; omega
    refine ⟨o, c, w, ?_, by simpa using hown, Keep.refl _ _, fun a ha => .inl ⟨a, ha, rfl⟩⟩
    have hf : (Builtin.firstCells i.size 0 (.slice o' 0 c')).run P w = .ok #[] w := by
      cases o' <;> simp [Builtin.firstCells, loadCells, loadCellsFrom]
    cases o <;> simp [Builtin.append_, run_underlying ht, sizeOf, typeInfo, h2, Builtin.lenOf, hnc, hf, storeCells]
  · have hy : ys ≠ [] := fun e => by subst e; have := Nat.mul_pos h0 hsz; simp at hl; omega
    obtain ⟨a', ho', hcells⟩ : ∃ a', o' = some a' ∧ ∀ (j : Nat) (v : Value), ys[j]? = some v → w.cell? (a'.add j) = some v := by
      rcases hsee with h | ⟨g, off, cur, T, fz, h1, h2, h3⟩
      · exact absurd h hy
      · exact ⟨_, h1, (show Sees w (some ⟨g, off, none⟩) ys from .inr ⟨g, off, cur, T, fz, rfl, h2, h3⟩).cells⟩
    subst ho'
    have grown : ∀ (old : Nat), old < n + m → (w.drew.alloc (.cells (xs.toArray ++ ys.toArray ++ Builtin.zeroCells z.cells (grownCap w (n + m) old e - (n + m))) e)).ownsRow 0 e i.size
        (.slice (some ⟨w.heap.size, 0, none⟩) (n + m) (grownCap w (n + m) old e)) (n + m) (xs ++ ys) := fun old ho => by
      have hge := grownCap_ge w (n + m) old e
      have hcm : grownCap w (n + m) old e ≤ maxLen := grownCap_le_maxLen w (n + m) old e h63
      refine ⟨hlen, .inr ⟨w.heap.size, _, _, rfl, Nat.zero_le _, heap_alloc_new w.drew _, hge, hcm, ?_, ?_⟩⟩
      · simp only [Array.size_append, List.size_toArray, size_zeroCells, h6, hown.1, hl, ← Nat.add_mul]
        congr 1
        omega
      · simp only [Array.toList_append, List.append_assoc]
        rw [← List.append_assoc, ← hlen]
        exact List.take_left
    have keepN : ∀ (F : Nat → Prop) (ob : Obj), Keep F w (w.drew.alloc ob) := fun F ob => ⟨rfl, rfl, rfl, by simp, fun k hk _ => heap_alloc_old w.drew ob k hk⟩
    rcases hown.2 with ⟨hv, _⟩ | ⟨g, cap, cur, hv, _, hg, hnc, hcm, hcs, htk⟩
    · cases hv
      have hx : xs = [] := List.eq_nil_of_length_eq_zero (by simpa using hown.1)
      subst hx
      have hr := run_append_nil (P := P) w t ty e i z ht h2 h3 a' m c' ys hl hcells h0 (by omega) (by simp only [Nat.zero_add] at hbytes; omega)
      have hgr := grown 0 (by omega)
      simp only [Nat.zero_add, List.nil_append] at hgr ⊢
      refine ⟨_, _, _, hr, ?_, keepN _ _, fun a ha => .inr (by cases ha; exact Nat.le_refl _)⟩
      simpa using hgr
    · cases hv
      by_cases hroom : n + m ≤ c
      · have hfit : n * i.size + ys.length ≤ cur.size := by
          rw [hcs, hl, ← Nat.add_mul]
          exact Nat.mul_le_mul_right _ hroom
        have hr := run_append_room (P := P) w t ty e i ht h2 g n c cur hg a' m c' ys hl hcells h1 hroom hfit
        refine ⟨_, _, _, hr, ?_, ⟨rfl, rfl, rfl, by simp [World.setRow], fun k hk hne => ?_⟩, fun a ha => .inl ⟨_, rfl, by cases ha; rfl⟩⟩
        · refine ⟨hlen, .inr ⟨g, c, _, rfl, Nat.zero_le _, setRow_heap w g _ _ _ _ hg, hroom, hcm, ?_, ?_⟩⟩
          · simp only [List.size_toArray, List.length_append, List.length_take, List.length_drop, Array.length_toList]
            rw [hcs]
            rw [hcs] at hfit
            omega
          · show List.take _ (_ ++ _ ++ _) = _
            rw [htk, ← hlen]
            exact List.take_left
        · exact setRow_other w g k _ (fun e => hne ⟨_, rfl, e.symm⟩)
      · have hr := run_append_grow (P := P) w t ty e i z ht h2 h3 ⟨g, 0, none⟩ n c xs hown.1 (ownsRow_sees hown).cells a' m c' ys hl hcells (by omega) (by omega) (growslice_fits (by omega) hbytes)
        exact ⟨_, _, _, hr, grown c (by omega), keepN _ _, fun a ha => .inr (by cases ha; exact Nat.le_refl _)⟩

theorem Apart.symm {e f : HE} (h : Apart e f) : Apart f e := fun ho b hb hb' => h ho.symm b hb' hb
theorem St.perm {G : Nat → Prop} {w₀ w : World} {H H' : Hp} (p : H.Perm H') (h : St G w₀ H w) : St G w₀ H' w := by
  obtain ⟨h1, h2, h3, h4⟩ := st_iff.1 h
  exact st_iff.2 ⟨h1, fun e he => h2 e (p.mem_iff.2 he), fun e he => h3 e (p.mem_iff.2 he), (p.pairwise_iff (fun h => Apart.symm h)).1 h4⟩
/-- All that 'H'' says stands in 'H', in whatever order. -/
class TakeE (e : HE) (H : Hp) (R : outParam Hp) : Prop where get : ∃ A B : Hp, H = A ++ e :: B ∧ R = A ++ B
instance TakeE.here {e : HE} {H : Hp} : TakeE e (e :: H) H := ⟨[], H, rfl, rfl⟩
instance (priority := low) TakeE.there {e x : HE} {H R : Hp} [h : TakeE e H R] : TakeE e (x :: H) (x :: R) := ⟨by
  obtain ⟨A, B, h1, h2⟩ := h.get
  exact ⟨x :: A, B, by rw [h1]; rfl, by rw [h2]; rfl⟩⟩
class PermL (H' H : Hp) : Prop where get : ∃ l : Hp, l.Perm H' ∧ l.Sublist H
instance PermL.nil {H : Hp} : PermL [] H := ⟨[], List.Perm.refl _, List.nil_sublist _⟩
instance PermL.cons {e : HE} {H' H R : Hp} [h : TakeE e H R] [h' : PermL H' R] : PermL (e :: H') H := ⟨by
  obtain ⟨A, B, rfl, rfl⟩ := h.get
  obtain ⟨l, h1, h2⟩ := h'.get
  obtain ⟨l1, l2, rfl, h3, h4⟩ := List.sublist_append_iff.1 h2
  exact ⟨l1 ++ e :: l2, List.perm_middle.trans (h1.cons e), h3.append (h4.cons_cons e)⟩⟩
theorem St.permL {G : Nat → Prop} {w₀ w : World} {H H' : Hp} [hp : PermL H' H] (h : St G w₀ H w) : St G w₀ H' w := by
  obtain ⟨l, h1, h2⟩ := hp.get
  exact (h.sublist h2).perm h1
/-- 'H' with a row of its own at 'o'; 'H'' is the rest. -/
class RowAt {α : Type} (H : Hp) (o : Option Addr) (c : Nat) (e s : Nat) (f : α → List Value) (l : outParam (List α)) (H' : outParam Hp) : Prop where
  get : (∃ i, H[i]? = some (own (row o c e s f l)) ∧ H' = H.eraseIdx i) ∨ (o = none ∧ c = 0 ∧ l = [] ∧ H' = H)
section
variable {α : Type} {H H' : Hp} {o : Option Addr} {c e s : Nat} {f : α → List Value} {l : List α}
instance (priority := 10) RowAt.nil : RowAt H none 0 e s f [] H := ⟨.inr ⟨rfl, rfl, rfl, rfl⟩⟩
instance RowAt.here : RowAt (⟨true, row o c e s f l⟩ :: H) o c e s f l H := ⟨.inl ⟨0, rfl, rfl⟩⟩
instance (priority := low) RowAt.there {x : HE} [h : RowAt H o c e s f l H'] : RowAt (x :: H) o c e s f l (x :: H') := ⟨by
  rcases h.get with ⟨i, h1, h2⟩ | ⟨h1, h2, h3, h4⟩
  · exact .inl ⟨i + 1, by simpa using h1, by rw [h2]; rfl⟩
  · exact .inr ⟨h1, h2, h3, by rw [h4]⟩⟩
theorem set_perm_cons {β : Type} : ∀ {H : List β} {i : Nat} (a : β), i < H.length → (H.set i a).Perm (a :: H.eraseIdx i)
  | x :: r, 0, a, _ => by simp
  | x :: r, i + 1, a, h => by
    simp only [List.set_cons_succ, List.eraseIdx_cons_succ]
    exact ((set_perm_cons a (by simpa using h)).cons x).trans (List.Perm.swap a x _)
theorem RowAt.st (h : RowAt H o c e s f l H') {G : Nat → Prop} {w₀ w : World} (hs : St G w₀ H w) : w.ownsRow 0 e s (.slice o l.length c) l.length (cat f l) := by
  rcases h.get with ⟨i, h1, _⟩ | ⟨h1, h2, h3, _⟩
  · exact hs.props i _ h1
  · subst h1; subst h2; subst h3; exact World.ownsRow_nil _ _ _ _
theorem RowAt.upd (h : RowAt H o c e s f l H') {G : Nat → Prop} {w₀ w w' : World} {k : Chunk} (hs : St G w₀ H w) (hk : Keep (fun b => ∃ a, o = some a ∧ a.block = b) w w') (hp : k.prop w')
    (hf : ∀ b, k.foot b → (∃ a, o = some a ∧ a.block = b) ∨ w.heap.size ≤ b) : St G w₀ (own k :: H') w' := by
  rcases h.get with ⟨i, h1, h2⟩ | ⟨h1, _, _, h2⟩
  · have hlt : i < H.length := (List.getElem?_eq_some_iff.1 h1).1
    rw [h2]
    exact (hs.set h1 hk hp hf).perm (set_perm_cons _ hlt)
  · subst h1
    rw [h2]
    exact hs.push (hk.mono fun b _ h => by simp at h) hp (fun b hb => by rcases hf b hb with ⟨a, ha, _⟩ | h; cases ha; exact h)
theorem RowAt.sub (h : RowAt H o c e s f l H') : H'.Sublist H := by
  rcases h.get with ⟨i, _, h2⟩ | ⟨_, _, _, h2⟩
  · rw [h2]; exact List.eraseIdx_sublist _ _
  · rw [h2]; exact List.Sublist.refl _
end

section
variable {C : Cx} {L : Fr} {H H1 : Hp} {dst : Option Tmp} {ty : TypeId} {pos : String} {aft : Array Edge} {gd' : Option (Nat × Bool)} {t e : TypeId} {x y : Operand}
variable {α : Type} {f : α → List Value} {l r : List α} {o o' : Option Addr} {c c' s bytes : Nat}
theorem OpE_append (hx : ev L x = some (.slice o l.length c)) (hy : ev L y = some (.slice o' r.length c')) [hu : TU C.P t (.slice e)] [hi : TI C.P e s bytes] [hR : RowAt H o c e s f l H1] [hr : Rd H o' f r] [hE : Enc f s]
    (hb : l.length + r.length ≤ maxLen ∧ (l.length + r.length) * bytes ≤ 140737488355328) :
    OpE C ⟨dst, .call ⟨.builtin .append, #[x, y], #[t, t]⟩, ty, pos, aft, gd'⟩ L H (fun u H' => ∃ o2 c2, u = .slice o2 (l ++ r).length c2 ∧ H' = own (row o2 c2 e s f (l ++ r)) :: H1) := fun a w hk hs => by
  obtain ⟨o2, c2, w', h1, h2, h3, h4⟩ := run_app (ty := ty) (c' := c') hu.eq hE.pos (hR.st hs) (hr.get hs) (cat_length r) (cat_one r) hb.1 hb.2
  rw [run_bi (xs := [x, y]) (vs := [.slice o l.length c, .slice o' r.length c']) hk (by simp only [evs, hx, hy])]
  simp only [builtin, Sem.run_bind, h1, Result.andThen_ok, Sem.run_pure]
  refine ⟨_, ⟨o2, c2, by rw [List.length_append], rfl⟩, hR.upd hs h3 ?_ (fun b ⟨a, ha, hb⟩ => by subst hb; exact h4 a ha)⟩
  show w'.ownsRow 0 e s (.slice o2 (l ++ r).length c2) (l ++ r).length (cat f (l ++ r))
  rw [cat_append, List.length_append]
  exact h2
theorem SG_row {ops : Array Oper} {Hs : Hp} {k : Fr → Hp → Prop} {d : Tmp} {op : Op} (h : OpE C ⟨some d, op, ty, pos, aft, gd'⟩ L H (fun u H' => ∃ o2 c2, u = .slice o2 l.length c2 ∧ H' = own (row o2 c2 e s f l) :: H1))
    (hg : gdB ops L gd' = true) (hd : Nat.blt d C.N = true) [hs : SubL Hs H1] (hk : ∀ o2 c2, k ((d, .slice o2 l.length c2) :: L) (own (row o2 c2 e s f l) :: H1)) : SG C ops Hs .eff ⟨some d, op, ty, pos, aft, gd'⟩ L H k :=
  SG_E h hg hd fun _ _ ⟨o2, c2, hv, hH⟩ => by subst hv; subst hH; exact ⟨fun _ h => h.tail.sublist hs.sub, hk o2 c2⟩
/-- A function that makes a slice in new memory. -/
def FreshS {α : Type} (P : Program) (fn : FuncId) (vs : List Value) (e : TypeId) (s : Nat) (f : α → List Value) (l : List α) (w : World) : Prop :=
  Calls P fn vs.toArray w fun x w' => ∃ o c, x = .returned (.slice o l.length c) ∧ Grow w w' ∧ (row o c e s f l).prop w' ∧ ∀ b, (row o c e s f l).foot b → w.heap.size ≤ b
theorem St.fresh {w w' : World} (h : St nowhere w (own (row o c e s f l) :: H) w') : Grow w w' ∧ (row o c e s f l).prop w' ∧ ∀ b, (row o c e s f l).foot b → w.heap.size ≤ b :=
  ⟨h.keep, h.props 0 _ rfl, fun b hb => (h.owns 0 _ rfl rfl b hb).elim (fun h => h) (fun h => h.elim)⟩
theorem St.rowNil {G : Nat → Prop} {w₀ w : World} (h : St G w₀ H w) : St G w₀ (own (row none 0 e s f []) :: H) w :=
  h.push (Keep.refl _ _) (World.ownsRow_nil _ _ _ _) (fun b ⟨_, ha, _⟩ => by cases ha)
theorem St.argRo {G : Nat → Prop} {w : World} (h : Sees w o (cat f l)) : St G w [ro (vw o f l)] w :=
  (St.nil w).pushRo h (fun j e he => by simp at he)
theorem St.argRo2 {G : Nat → Prop} {w : World} {H : Hp} (hh : ∀ e ∈ H, e.own = false) (hs : St G w H w) (h : Sees w o (cat f l)) : St G w (ro (vw o f l) :: H) w :=
  hs.pushRo h (fun j e he ho => by rw [hh e (List.mem_of_getElem? he)] at ho; cases ho)
theorem OpE_fresh {fn : FuncId} {xs : List Operand} {ats : Array TypeId} {vs : List Value} [CF C.P fn] (hv : evs L xs = some vs) (h : ∀ w, St C.G C.w₀ H w → FreshS C.P fn vs e s f l w) :
    OpE C ⟨dst, .call ⟨.value (.func fn), xs.toArray, ats⟩, ty, pos, aft, gd'⟩ L H (fun u H' => ∃ o2 c2, u = .slice o2 l.length c2 ∧ H' = own (row o2 c2 e s f l) :: H) :=
  OpE_call hv fun w hs => (h w hs).mono fun _ w' ⟨o, c, hx, hg, hp, hf⟩ => ⟨_, _, hx, ⟨o, c, rfl, rfl⟩, hs.push hg hp hf⟩

/-! ### A slice built in place -/
theorem foldl_splice : ∀ (vs : List Value) (k o : Nat) (c : Array Value), (vs.zipIdx k).foldl (fun cs (p : Value × Nat) => cs.setIfInBounds (o + p.2) p.1) c = splice c (o + k) vs
  | [], _, _, _ => rfl
  | v :: r, k, o, c => by
    rw [List.zipIdx_cons, List.foldl_cons, foldl_splice r (k + 1) o]
    rfl
theorem foldl_spliceA (vs : Array Value) (o : Nat) (c : Array Value) : vs.zipIdx.foldl (fun cs (p : Value × Nat) => cs.setIfInBounds (o + p.2) p.1) c = splice c o vs.toList := by
  rw [← Array.foldl_toList, Array.toList_zipIdx]
  exact foldl_splice vs.toList 0 o c
theorem splice_splice : ∀ (xs ys : List Value) (o : Nat) (c : Array Value), splice (splice c o xs) (o + xs.length) ys = splice c o (xs ++ ys)
  | [], _, _, _ => rfl
  | x :: r, ys, o, c => by
    simp only [splice, List.cons_append, List.length_cons]
    rw [← splice_splice r ys (o + 1) (c.setIfInBounds o x)]
    congr 1
    omega
theorem fill_parts {sz : Nat} : ∀ (vs : List Value) (k : Nat) (c : Array Value), (∀ v ∈ vs, v.cells.size = sz) → (k + vs.length) * sz ≤ c.size →
    Instr.fill (fun i => some (i * sz, sz)) c ((List.range' k vs.length).zip vs) = some (splice c (k * sz) (vs.flatMap fun v => v.cells.toList))
  | [], k, c, _, _ => rfl
  | v :: r, k, c, hv, hk => by
    have h1 := hv v (by simp)
    simp only [List.length_cons] at hk
    have hk' : k * sz + sz ≤ c.size := Nat.le_trans (by rw [← Nat.succ_mul]; exact Nat.mul_le_mul_right _ (by omega)) hk
    simp only [List.length_cons, List.range'_succ, List.zip_cons_cons, Instr.fill]
    rw [if_neg (by simp [h1]; omega)]
    have hf : v.cells.zipIdx.foldl (fun cs (x : Value × Nat) => match x with | (c, j) => cs.setIfInBounds (k * sz + j) c) c = splice c (k * sz) v.cells.toList := foldl_spliceA v.cells (k * sz) c
    rw [hf, fill_parts r (k + 1) _ (fun u hu => hv u (by simp [hu])) (by rw [splice_size]; rw [show k + 1 + r.length = k + (r.length + 1) by omega]; exact hk)]
    rw [List.flatMap_cons, ← splice_splice]
    congr 3
    simp [h1, Nat.add_mul]
theorem OpE_bs {n : Nat} {ps : List (Nat × Operand)} {vs : List Value} {z : Value} [hu : TU C.P t (.slice e)] [hs : TS C.P e s] [hz : TZ C.P e z] [hE : Enc f s] (hv : evs L (ps.map (·.2)) = some vs) (hc : (vs.map fun v => v.cells.toList) = l.map f) (hi : ps.map (·.1) = List.range' 0 vs.length) (hn : vs.length = n) (hb : Nat.ble (n * s) 16777216 = true) (h0 : Nat.blt 0 n = true) :
    OpE C ⟨dst, .buildSlice t n ps.toArray, ty, pos, aft, gd'⟩ L H (fun u H' => ∃ b, u = slv b 0 l.length l.length ∧ H' = own (row (some ⟨b, 0, none⟩) l.length e s f l) :: H) := fun a w hk hs' => by
  have e1 : (ps.toArray.map fun (i, x) => (i, a.eval x)) = ((ps.map (·.1)).zip vs).toArray := by
    have := hk.evals hv
    rw [List.map_toArray]
    congr 1
    rw [← this]
    clear hv this hi hn hc
    induction ps with
    | nil => rfl
    | cons p r ih => simp [ih]
  have hln : l.length = n := by
    have := congrArg List.length hc
    simp at this
    omega
  have hvs : ∀ v ∈ vs, v.cells.size = s := fun v hv => by
    have h1 : v.cells.toList ∈ vs.map fun v => v.cells.toList := List.mem_map_of_mem (f := fun v => v.cells.toList) hv
    rw [hc, List.mem_map] at h1
    obtain ⟨a, _, ha⟩ := h1
    have := hE.len a
    rw [ha] at this
    simpa using this
  have hcat : (vs.flatMap fun v => v.cells.toList) = cat f l := by
    rw [cat, List.flatMap_def, List.flatMap_def, hc]
  have hb' : n * s ≤ 16777216 := by simpa using hb
  have h0' : 0 < n := by simpa using h0
  have hs0 := hE.pos
  have hpos : 0 < n * s := Nat.mul_pos h0' hs0
  have hsz : ∀ z : Array Value, ((Array.range (n * s)).map fun i => z[i % z.size]!).size = n * s := by simp
  have hrun : (execOp a.eval ⟨dst, .buildSlice t n ps.toArray, ty, pos, aft, gd'⟩).run C.P w = .ok (.value (slv w.heap.size 0 n n)) { w with heap := w.heap.push (.cells (cat f l).toArray e (0, 0)) } := by
    simp only [execOp, e1, Instr.buildSlice, Sem.run_bind, run_under hu.eq, Result.andThen_ok, hs.eq]
    rw [if_neg (by omega), if_neg (by omega)]
    simp only [Sem.run_bind, hz.eq, Result.andThen_ok, Sem.run_pure, hi]
    have hf := fill_parts vs 0 ((Array.range (n * s)).map fun i => z.cells[i % z.cells.size]!) hvs (by rw [hsz, Nat.zero_add, hn]; exact Nat.le_refl _)
    rw [Nat.zero_mul, hcat, splice_all _ _ (by rw [hsz, cat_length, hln])] at hf
    simp only [hf, newRow, Sem.run_bind, run_newObj, Result.andThen_ok, Sem.run_pure]
  rw [hrun]
  refine ⟨_, ⟨w.heap.size, by rw [hln], rfl⟩, hs'.push (Keep.push w _) ?_ (fun b ⟨a, ha, hb⟩ => by cases ha; exact Nat.le_of_eq hb)⟩
  refine ⟨cat_length l, .inr ⟨w.heap.size, l.length, (cat f l).toArray, rfl, Nat.zero_le _, ?_, Nat.le_refl _, ?_, by simp [cat_length], ?_⟩⟩
  · show (w.heap.push _)[w.heap.size]? = some _
    simp
  · simp only [maxLen]
    rw [hln]
    have := Nat.le_mul_of_pos_right n hs0
    omega
  · rw [← cat_length (f := f) l]; simp
/-- One without parts. -/
theorem OpE_bs0 [hu : TU C.P t (.slice e)] [hs : TS C.P e s] : OpE C ⟨dst, .buildSlice t 0 #[], ty, pos, aft, gd'⟩ L H (fun u H' => ∃ b, u = slv b 0 ([] : List α).length ([] : List α).length ∧ H' = own (row (some ⟨b, 0, none⟩) ([] : List α).length e s f []) :: H) := fun a w hk hs' => by
  have hrun : (execOp a.eval ⟨dst, .buildSlice t 0 #[], ty, pos, aft, gd'⟩).run C.P w = .ok (.value (slv w.heap.size 0 0 0)) { w with heap := w.heap.push (.cells #[] e (0, 0)) } := by
    have e0 : ∀ g : Nat → Value, (Array.range 0).map g = #[] := fun g => by simp [Array.range]
    simp only [execOp, Instr.buildSlice, Sem.run_bind, run_under hu.eq, Result.andThen_ok, hs.eq, Nat.zero_mul, e0]
    rw [if_neg (by omega), if_pos trivial]
    simp only [Sem.run_bind, Sem.run_pure, Result.andThen_ok, e0]
    simp only [List.map_toArray, List.map_nil, Instr.fill, newRow, Sem.run_bind, run_newObj, Result.andThen_ok, Sem.run_pure]
  rw [hrun]
  refine ⟨_, ⟨w.heap.size, rfl, rfl⟩, hs'.push (Keep.push w _) ?_ (fun b ⟨a, ha, hb⟩ => by cases ha; exact Nat.le_of_eq hb)⟩
  refine ⟨by simp [cat], .inr ⟨w.heap.size, 0, #[], rfl, Nat.zero_le _, ?_, Nat.le_refl _, Nat.zero_le _, by simp, by simp [cat]⟩⟩
  show (w.heap.push _)[w.heap.size]? = some _
  simp
theorem SG_bs {ops : Array Oper} {Hs : Hp} {k : Fr → Hp → Prop} {d : Tmp} {op : Op} (h : OpE C ⟨some d, op, ty, pos, aft, gd'⟩ L H (fun u H' => ∃ b, u = slv b 0 l.length l.length ∧ H' = own (row (some ⟨b, 0, none⟩) l.length e s f l) :: H))
    (hg : gdB ops L gd' = true) (hd : Nat.blt d C.N = true) [hs : SubL Hs H] (hk : ∀ b, k ((d, slv b 0 l.length l.length) :: L) (own (row (some ⟨b, 0, none⟩) l.length e s f l) :: H)) : SG C ops Hs .eff ⟨some d, op, ty, pos, aft, gd'⟩ L H k :=
  SG_E h hg hd fun _ _ ⟨b, hv, hH⟩ => by subst hv; subst hH; exact ⟨fun _ h => h.tail.sublist hs.sub, hk b⟩

/-! ### Elements of a slice -/
/-- The pointer 'k' cells behind 'o'. -/
abbrev pa (o : Option Addr) (k : Nat) : Value := .pointer (o.map (·.add k))
theorem Sees.some {w : World} {xs : List Value} (h : Sees w o xs) (hx : xs ≠ []) : ∃ g off cur T fz, o = Option.some ⟨g, off, none⟩ ∧ w.heap[g]? = Option.some (.cells cur T fz) ∧ ∀ (j : Nat) (v : Value), xs[j]? = Option.some v → cur[off + j]? = Option.some v := by
  rcases h with h | h
  · exact absurd h hx
  · exact h
theorem OpN_indexV {q : IntKind} {m : Int} {k : Nat} [hu : TU C.P t (.slice e)] [hs : TS C.P e s] (hx : ev L x = some (.slice o l.length c)) (hy : ev L y = some (.int q m)) [hm : NatI m k] [hr : Rd H o f l] [hE : Enc f s] (hk : k < l.length) :
    OpN C ⟨dst, .indexAddr t x y, ty, pos, aft, gd'⟩ L H (pa o (k * s)) := OpN_of fun a w hkn hst => by
  obtain ⟨g, off, cur, T, fz, ho, _, _⟩ := (hr.get hst).some (cat_ne (by omega))
  have hm := hm.eq
  subst hm
  subst ho
  have h1 : (0 : Int) ≤ (k : Int) ∧ (k : Int) < (l.length : Int) := by omega
  simp only [execOp, hkn.eval hx, hkn.eval hy, Instr.indexAt, asIntOf, Sem.run_bind, Sem.run_pure, Result.andThen_ok, run_under hu.eq, h1, and_self, if_true, hs.eq, Int.toNat_natCast, pa, Option.map_some]
theorem OpN_fieldV {k fld off : Nat} (hx : ev L x = some (pa o k)) [h : TF C.P t fld off] [hr : Rd H o f l] [hE : Enc f s] (hk : 0 < l.length) : OpN C ⟨dst, .fieldAddr t x fld, ty, pos, aft, gd'⟩ L H (pa o (k + off)) := OpN_of fun a w hkn hst => by
  obtain ⟨g, o1, cur, T, fz, ho, _, _⟩ := (hr.get hst).some (cat_ne hk)
  subst ho
  simp only [execOp, hkn.eval hx, pa, Option.map_some, addr_add, Sem.run_bind, h.eq g (o1 + k) w, Result.andThen_ok, Sem.run_pure, Nat.add_assoc]
theorem OpN_loadV' {k : Nat} {v : Value} (hx : ev L x = some (pa o k)) [h1 : T1 C.P t] [hr : Rd H o f l] (hv : (cat f l)[k]? = some v) : OpN C ⟨dst, .load t x, ty, pos, aft, gd'⟩ L H v := OpN_of fun a w hkn hst => by
  obtain ⟨g, o1, cur, T, fz, ho, hb, hc⟩ := (hr.get hst).some (fun e => by rw [e] at hv; simp at hv)
  subst ho
  simp only [execOp, hkn.eval hx, pa, Option.map_some, addr_add, Instr.loadAt, Instr.sureAddr, loadVar, Sem.run_bind, Sem.run_pure, Result.andThen_ok, h1.agg, run_load_at hb (hc k v hv), Bool.false_eq_true, if_false]
/-- An element of one cell. -/
theorem OpN_loadV [Inhabited α] {g : α → Value} {k : Nat} (hx : ev L x = some (pa o (k * 1))) [h1 : T1 C.P t] [hr : Rd H o (f1 g) l] (hk : k < l.length) : OpN C ⟨dst, .load t x, ty, pos, aft, gd'⟩ L H (g (gd l k)) := by
  refine OpN_loadV' (hr := hr) hx ?_
  rw [cat_f1, Nat.mul_one]
  simp [gd, hk]
/-- One cell of an element. -/
theorem OpN_loadVF [Inhabited α] {k i off : Nat} {v : Value} (hx : ev L x = some (pa o (i * s + off))) [h1 : T1 C.P t] [hr : Rd H o f l] [hE : Enc f s] (hi : i < l.length) (hoff : off < s) (hv : (f (gd l i))[off]? = some v) : OpN C ⟨dst, .load t x, ty, pos, aft, gd'⟩ L H v :=
  OpN_loadV' (hr := hr) hx (by rw [cat_get l i off hi hoff]; exact hv)
end
end Go.Sp

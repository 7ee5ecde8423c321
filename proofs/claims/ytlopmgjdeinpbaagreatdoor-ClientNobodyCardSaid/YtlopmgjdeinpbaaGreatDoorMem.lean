/- The calculus' operations on memory: blocks of cells, fields, indexes, loads, stores, new blocks, calls. -/
import Derived.Test.YtlopmgjdeinpbaaGreatDoorOps
namespace Go.Sp
open Go Go.RowKit

/-! ### Reading and writing a block's cells -/
theorem cell_at {w : World} {b o : Nat} {c : Array Value} {T : TypeId} {fr : Nat × Nat} (h : w.heap[b]? = some (.cells c T fr)) : w.cell? ⟨b, o, none⟩ = c[o]? := by
  unfold World.cell?
  simp only [h, Option.isSome_none, Bool.false_eq_true, if_false]

theorem run_load_at {P : Program} {w : World} {b o : Nat} {c : Array Value} {T : TypeId} {fr : Nat × Nat} {v : Value} (h : w.heap[b]? = some (.cells c T fr)) (hv : c[o]? = some v) : (load ⟨b, o, none⟩).run P w = .ok v w := by
  simp only [run_load, cell_at h, hv]

theorem run_loadsFrom {P : Program} {w : World} {b o : Nat} {c : Array Value} {T : TypeId} {fr : Nat × Nat} (h : w.heap[b]? = some (.cells c T fr)) : ∀ (n i : Nat) (acc : Array Value), o + i + n ≤ c.size →
    (loadCellsFrom ⟨b, o, none⟩ i n acc).run P w = .ok (acc ++ c.extract (o + i) (o + i + n)) w := by
  intro n
  induction n with
  | zero => intro i acc _; simp [loadCellsFrom]; exact Nat.min_le_left _ _
  | succ n ih =>
    intro i acc hn
    have hlt : o + i < c.size := by omega
    have hc : c[o + i]? = some c[o + i] := Array.getElem?_eq_getElem hlt
    simp only [loadCellsFrom, addr_add, Sem.run_bind, run_load_at h hc, Result.andThen_ok]
    rw [ih (i + 1) _ (by omega)]
    congr 1
    apply Array.ext'
    simp only [Array.toList_append, Array.toList_push, Array.toList_extract, List.extract_eq_take_drop, List.append_assoc]
    congr 1
    have e1 : o + i + (n + 1) - (o + i) = n + 1 := by omega
    have e2 : o + (i + 1) + n - (o + (i + 1)) = n := by omega
    rw [e1, e2, show o + (i + 1) = o + i + 1 by omega]
    have hlt' : o + i < c.toList.length := by simpa using hlt
    rw [List.drop_eq_getElem_cons hlt', List.take_succ_cons]
    rfl
theorem run_loads {P : Program} {w : World} {b o n : Nat} {c : Array Value} {T : TypeId} {fr : Nat × Nat} (h : w.heap[b]? = some (.cells c T fr)) (hn : o + n ≤ c.size) : (loadCells ⟨b, o, none⟩ n).run P w = .ok (c.extract o (o + n)) w := by
  unfold loadCells
  rw [run_loadsFrom h n 0 #[] (by simpa using hn)]
  simp

/-- 'c' with 'vs' written over it from place 'o' on. -/
def splice (c : Array Value) (o : Nat) : List Value → Array Value
  | [] => c
  | v :: r => splice (c.setIfInBounds o v) (o + 1) r
theorem splice_size (c : Array Value) (o : Nat) (vs : List Value) : (splice c o vs).size = c.size := by
  induction vs generalizing c o with
  | nil => rfl
  | cons v r ih => simp only [splice, ih, Array.size_setIfInBounds]
theorem splice_get (c : Array Value) (o : Nat) (vs : List Value) (i : Nat) (h : o + vs.length ≤ c.size) : (splice c o vs)[i]? = if o ≤ i ∧ i < o + vs.length then vs[i - o]? else c[i]? := by
  induction vs generalizing c o with
  | nil => simp only [splice, List.length_nil, Nat.add_zero]; rw [if_neg (by omega)]
  | cons v r ih =>
    simp only [splice, List.length_cons] at h ⊢
    rw [ih _ _ (by simp; omega)]
    by_cases h1 : o + 1 ≤ i ∧ i < o + 1 + r.length
    · rw [if_pos h1, if_pos (by omega), show i - o = (i - (o + 1)) + 1 by omega, List.getElem?_cons_succ]
    · rw [if_neg h1, Array.getElem?_setIfInBounds]
      by_cases h2 : o = i
      · subst h2
        rw [if_pos rfl, if_pos (by omega), if_pos (by omega)]
        simp
      · rw [if_neg h2, if_neg (by omega)]
theorem splice_one (c : Array Value) (o : Nat) (v : Value) : splice c o [v] = c.setIfInBounds o v := rfl
theorem splice_all (c : Array Value) (vs : List Value) (h : vs.length = c.size) : splice c 0 vs = vs.toArray := by
  apply Array.ext_getElem?
  intro i
  rw [splice_get _ _ _ _ (by omega)]
  by_cases hi : i < vs.length
  · rw [if_pos (by omega)]; simp
  · rw [if_neg (by omega), Array.getElem?_eq_none (by omega)]; simp; omega

theorem heap_setCell {w : World} {b o : Nat} {c : Array Value} {T : TypeId} {fr : Nat × Nat} (h : w.heap[b]? = some (.cells c T fr)) (v : Value) : (w.setCell ⟨b, o, none⟩ v).heap[b]? = some (.cells (c.setIfInBounds o v) T fr) := by
  simp only [World.setCell, Array.getElem?_modify, if_pos, h, Option.map_some, Option.isSome_none, Bool.false_eq_true, if_false]
theorem keep_setCell (w : World) (b o : Nat) (v : Value) : Keep (fun k => k = b) w (w.setCell ⟨b, o, none⟩ v) :=
  ⟨rfl, rfl, rfl, by simp [World.setCell], fun k _ hk => Below.heap_setCell w ⟨b, o, none⟩ v k hk⟩

theorem run_store_at {P : Program} {w : World} {b o : Nat} {c : Array Value} {T : TypeId} {v : Value} (h : w.heap[b]? = some (.cells c T (0, 0))) (ho : o < c.size) (hv : v.oneCell' = true) :
    (store ⟨b, o, none⟩ v).run P w = .ok () (w.setCell ⟨b, o, none⟩ v) := by
  have hf : w.frozen? ⟨b, o, none⟩ = false := by simp only [World.frozen?, h]; simp
  rw [run_store P w _ v _ hv, cell_at h, Array.getElem?_eq_getElem ho]
  simp only [hf, Bool.false_eq_true, if_false]

theorem run_storesFrom {P : Program} {b o : Nat} {T : TypeId} : ∀ (vs : List Value) (i : Nat) (c : Array Value) (w : World), w.heap[b]? = some (.cells c T (0, 0)) → o + i + vs.length ≤ c.size → (∀ v ∈ vs, v.oneCell' = true) →
    ∃ w', (storeCells ⟨b, o, none⟩ vs i).run P w = .ok () w' ∧ Keep (fun k => k = b) w w' ∧ w'.heap[b]? = some (.cells (splice c (o + i) vs) T (0, 0)) := by
  intro vs
  induction vs with
  | nil => intro i c w h _ _; exact ⟨w, by simp only [storeCells]; rfl, Keep.refl _ _, h⟩
  | cons v r ih =>
    intro i c w h hn hv
    simp only [List.length_cons] at hn
    have h1 := run_store_at (P := P) h (show o + i < c.size by omega) (hv v (by simp))
    obtain ⟨w', h2, h3, h4⟩ := ih (i + 1) _ (w.setCell ⟨b, o + i, none⟩ v) (heap_setCell h v) (by simp; omega) (fun u hu => hv u (by simp [hu]))
    refine ⟨w', ?_, (keep_setCell w b (o + i) v).trans h3, h4⟩
    simp only [storeCells, addr_add, Sem.run_bind, h1, Result.andThen_ok]
    exact h2

/-! ### What a block's cells read as, by instance -/
class Cell (c : Array Value) (i : Nat) (v : outParam Value) : Prop where eq : c[i]? = some v
class Part (c : Array Value) (i n : Nat) (r : outParam (Array Value)) : Prop where
  le : i + n ≤ c.size
  eq : c.extract i (i + n) = r
class SetC (c : Array Value) (i : Nat) (v : Value) (c' : outParam (Array Value)) : Prop where
  lt : i < c.size
  one : v.oneCell' = true
  eq : c.setIfInBounds i v = c'
class SetA (c : Array Value) (i n : Nat) (vs : Array Value) (c' : outParam (Array Value)) : Prop where
  size : vs.size = n
  le : i + n ≤ c.size
  one : ∀ v ∈ vs.toList, v.oneCell' = true
  eq : splice c i vs.toList = c'
class Siz (c : Array Value) (n : outParam Nat) : Prop where eq : c.size = n
class OneC (c : Array Value) : Prop where eq : ∀ v ∈ c.toList, v.oneCell' = true

instance Part.whole {c : Array Value} {n : Nat} [h : Siz c n] : Part c 0 n c := ⟨by have := h.eq; omega, by have := h.eq; subst this; simp⟩
instance SetA.whole {c vs : Array Value} {n : Nat} [h : Siz c n] [h' : Siz vs n] [ho : OneC vs] : SetA c 0 n vs vs :=
  ⟨h'.eq, by have := h.eq; omega, ho.eq, by rw [splice_all _ _ (by have := h.eq; have := h'.eq; simp; omega)]⟩

instance Cell.head {v : Value} {l : List Value} : Cell (v :: l).toArray 0 v := ⟨rfl⟩
instance Cell.tail {u v : Value} {l : List Value} {i : Nat} [h : Cell l.toArray i v] : Cell (u :: l).toArray (i + 1) v := ⟨by have := h.eq; simpa using this⟩
/-! #### rows of one kind -/
def encL {α : Type} (f : α → Value) (l : List α) : Array Value := (l.map f).toArray
abbrev encB (l : List (BitVec 8)) : Array Value := encL u8 l
abbrev enc32 (l : List (BitVec 32)) : Array Value := encL u32 l
abbrev enc64 (l : List (BitVec 64)) : Array Value := encL u64 l
/-- The element at a place. -/
abbrev gd {α : Type} [Inhabited α] (l : List α) (i : Nat) : α := l.getD i default
theorem encL_size {α : Type} (f : α → Value) (l : List α) : (encL f l).size = l.length := by simp [encL]
theorem encL_get {α : Type} [Inhabited α] (f : α → Value) (l : List α) (i : Nat) (h : i < l.length) : (encL f l)[i]? = some (f (gd l i)) := by
  simp [encL, gd, h]
instance Cell.encHead {α : Type} {f : α → Value} {x : α} {l : List α} : Cell (encL f (x :: l)) 0 (f x) := ⟨by simp [encL]⟩
instance Cell.encTail {α : Type} {f : α → Value} {x : α} {v : Value} {l : List α} {i : Nat} [h : Cell (encL f l) i v] : Cell (encL f (x :: l)) (i + 1) v := ⟨by have := h.eq; simpa [encL] using this⟩
theorem encL_set {α : Type} (f : α → Value) (l : List α) (i : Nat) (x : α) : (encL f l).setIfInBounds i (f x) = encL f (l.set i x) := by
  simp [encL, List.map_set]
theorem encL_extract {α : Type} (f : α → Value) (l : List α) (i n : Nat) : (encL f l).extract i (i + n) = encL f ((l.drop i).take n) := by
  simp [encL, List.extract_eq_take_drop]
class Len {α : Type} (l : List α) (n : outParam Nat) : Prop where eq : l.length = n
instance Len.nil {α : Type} : Len ([] : List α) 0 := ⟨rfl⟩
instance Len.cons {α : Type} {x : α} {l : List α} {n : Nat} [h : Len l n] : Len (x :: l) (n + 1) := ⟨by simp [h.eq]⟩
instance Len.set {α : Type} {x : α} {l : List α} {i n : Nat} [h : Len l n] : Len (l.set i x) n := ⟨by simp [h.eq]⟩
instance Len.rep {α : Type} {x : α} {n : Nat} : Len (List.replicate n x) n := ⟨by simp⟩
instance Len.app {α : Type} {l r : List α} {n m : Nat} [h : Len l n] [h' : Len r m] : Len (l ++ r) (n + m) := ⟨by simp [h.eq, h'.eq]⟩
instance {α : Type} {f : α → Value} {l : List α} {n : Nat} [h : Len l n] : Siz (encL f l) n := ⟨by rw [encL_size, h.eq]⟩
instance {l : List Value} {n : Nat} [h : Len l n] : Siz l.toArray n := ⟨by simp [h.eq]⟩
theorem encL_one {α : Type} (f : α → Value) (hf : ∀ x, (f x).oneCell' = true) (l : List α) : OneC (encL f l) := ⟨fun v hv => by
  simp only [encL, List.mem_map] at hv
  obtain ⟨x, _, rfl⟩ := hv
  exact hf x⟩
instance {l : List (BitVec 8)} : OneC (encB l) := encL_one _ (fun _ => rfl) l
instance {l : List (BitVec 32)} : OneC (enc32 l) := encL_one _ (fun _ => rfl) l
instance {l : List (BitVec 64)} : OneC (enc64 l) := encL_one _ (fun _ => rfl) l

section
variable {C : Cx} {L : Fr} {H : Hp} {dst : Option Tmp} {ty : TypeId} {pos : String} {aft : Array Edge} {gd' : Option (Nat × Bool)}
variable {t : TypeId} {x y : Operand} {b o : Nat}

theorem OpN_field0 {f off : Nat} (hx : ev L x = some (ptr b 0)) [h : TF C.P t f off] : OpN C ⟨dst, .fieldAddr t x f, ty, pos, aft, gd'⟩ L H (ptr b off) :=
  OpN_of fun a w hk _ => by
    have h1 := h.eq b 0 w
    rw [Nat.zero_add] at h1
    simp only [execOp, hk.eval hx, Sem.run_bind, h1, Result.andThen_ok, Sem.run_pure]
theorem OpN_field {f off : Nat} (hx : ev L x = some (ptr b o)) [h : TF C.P t f off] : OpN C ⟨dst, .fieldAddr t x f, ty, pos, aft, gd'⟩ L H (ptr b (o + off)) :=
  OpN_of fun a w hk _ => by simp only [execOp, hk.eval hx, Sem.run_bind, h.eq b o w, Result.andThen_ok, Sem.run_pure]

theorem run_indexA {P : Program} {w : World} {k : IntKind} {m : Int} {n len s : Nat} {e : TypeId} (hu : P.underlying t = some (.array len e)) (hs : ∀ w, (sizeOf e).run P w = .ok s w) (hm : m = (n : Int)) (hn : n < len) :
    (Instr.indexAt t (ptr b o) (.int k m)).run P w = .ok (ptr b (o + n * s)) w := by
  subst hm
  have h1 : (0 : Int) ≤ (n : Int) ∧ (n : Int) < (len : Int) := by omega
  simp only [Instr.indexAt, asIntOf, Sem.run_bind, Sem.run_pure, Result.andThen_ok, run_under hu, Instr.sureAddr, h1, and_self, if_true, hs, addr_add, Int.toNat_natCast]
theorem run_indexS {P : Program} {w : World} {k : IntKind} {m : Int} {n len cap s : Nat} {e : TypeId} (hu : P.underlying t = some (.slice e)) (hs : ∀ w, (sizeOf e).run P w = .ok s w) (hm : m = (n : Int)) (hn : n < len) :
    (Instr.indexAt t (slv b o len cap) (.int k m)).run P w = .ok (ptr b (o + n * s)) w := by
  subst hm
  have h1 : (0 : Int) ≤ (n : Int) ∧ (n : Int) < (len : Int) := by omega
  simp only [Instr.indexAt, asIntOf, Sem.run_bind, Sem.run_pure, Result.andThen_ok, run_under hu, h1, and_self, if_true, hs, addr_add, Int.toNat_natCast]

theorem OpN_indexA0 {k : IntKind} {m : Int} {n len : Nat} {e : TypeId} (hx : ev L x = some (ptr b 0)) (hy : ev L y = some (.int k m)) [hu : TU C.P t (.array len e)] [hs : TS C.P e 1] [hm : NatI m n] (hn : n < len) :
    OpN C ⟨dst, .indexAddr t x y, ty, pos, aft, gd'⟩ L H (ptr b n) :=
  OpN_of fun a w hk _ => by
    have h1 := run_indexA (b := b) (o := 0) (k := k) (w := w) hu.eq hs.eq hm.eq hn
    rw [Nat.zero_add, Nat.mul_one] at h1
    simp only [execOp, hk.eval hx, hk.eval hy, Sem.run_bind, h1, Result.andThen_ok, Sem.run_pure]
theorem OpN_indexA {k : IntKind} {m : Int} {n len s : Nat} {e : TypeId} (hx : ev L x = some (ptr b o)) (hy : ev L y = some (.int k m)) [hu : TU C.P t (.array len e)] [hs : TS C.P e s] [hm : NatI m n] (hn : n < len) :
    OpN C ⟨dst, .indexAddr t x y, ty, pos, aft, gd'⟩ L H (ptr b (o + n * s)) :=
  OpN_of fun a w hk _ => by
    simp only [execOp, hk.eval hx, hk.eval hy, Sem.run_bind, run_indexA (b := b) (o := o) (k := k) (w := w) hu.eq hs.eq hm.eq hn, Result.andThen_ok, Sem.run_pure]
theorem OpN_indexS0 {k : IntKind} {m : Int} {n len cap : Nat} {e : TypeId} (hx : ev L x = some (slv b 0 len cap)) (hy : ev L y = some (.int k m)) [hu : TU C.P t (.slice e)] [hs : TS C.P e 1] [hm : NatI m n] (hn : n < len) :
    OpN C ⟨dst, .indexAddr t x y, ty, pos, aft, gd'⟩ L H (ptr b n) :=
  OpN_of fun a w hk _ => by
    have h1 := run_indexS (b := b) (o := 0) (k := k) (w := w) (cap := cap) hu.eq hs.eq hm.eq hn
    rw [Nat.mul_one, Nat.zero_add] at h1
    simp only [execOp, hk.eval hx, hk.eval hy, Sem.run_bind, h1, Result.andThen_ok, Sem.run_pure]
theorem OpN_indexS1 {k : IntKind} {m : Int} {n len cap : Nat} {e : TypeId} (hx : ev L x = some (slv b o len cap)) (hy : ev L y = some (.int k m)) [hu : TU C.P t (.slice e)] [hs : TS C.P e 1] [hm : NatI m n] (hn : n < len) :
    OpN C ⟨dst, .indexAddr t x y, ty, pos, aft, gd'⟩ L H (ptr b (o + n)) :=
  OpN_of fun a w hk _ => by
    have h1 := run_indexS (b := b) (o := o) (k := k) (w := w) (cap := cap) hu.eq hs.eq hm.eq hn
    rw [Nat.mul_one] at h1
    simp only [execOp, hk.eval hx, hk.eval hy, Sem.run_bind, h1, Result.andThen_ok, Sem.run_pure]
theorem OpN_indexS {k : IntKind} {m : Int} {n len cap s : Nat} {e : TypeId} (hx : ev L x = some (slv b o len cap)) (hy : ev L y = some (.int k m)) [hu : TU C.P t (.slice e)] [hs : TS C.P e s] [hm : NatI m n] (hn : n < len) :
    OpN C ⟨dst, .indexAddr t x y, ty, pos, aft, gd'⟩ L H (ptr b (o + n * s)) :=
  OpN_of fun a w hk _ => by
    simp only [execOp, hk.eval hx, hk.eval hy, Sem.run_bind, run_indexS (b := b) (o := o) (k := k) (w := w) (cap := cap) hu.eq hs.eq hm.eq hn, Result.andThen_ok, Sem.run_pure]

/-! #### loads -/
theorem OpN_load1' {c : Array Value} {T : TypeId} {fr : Nat × Nat} {v : Value} (hx : ev L x = some (ptr b o)) [h1 : T1 C.P t] [hb : At H b (.cells c T fr)] (hv : c[o]? = some v) : OpN C ⟨dst, .load t x, ty, pos, aft, gd'⟩ L H v :=
  OpN_of fun a w hk hs => by
    simp only [execOp, hk.eval hx, Instr.loadAt, Instr.sureAddr, loadVar, Sem.run_bind, Sem.run_pure, Result.andThen_ok, h1.agg, run_load_at (hb.heap hs) hv, Bool.false_eq_true, if_false]
theorem OpN_load1 {c : Array Value} {T : TypeId} {fr : Nat × Nat} {v : Value} (hx : ev L x = some (ptr b o)) [T1 C.P t] [At H b (.cells c T fr)] [hv : Cell c o v] : OpN C ⟨dst, .load t x, ty, pos, aft, gd'⟩ L H v :=
  OpN_load1' hx hv.eq
theorem OpN_loadL {α : Type} [Inhabited α] {f : α → Value} {l : List α} {T : TypeId} {fr : Nat × Nat} (hx : ev L x = some (ptr b o)) [T1 C.P t] [At H b (.cells (encL f l) T fr)] (hi : o < l.length) : OpN C ⟨dst, .load t x, ty, pos, aft, gd'⟩ L H (f (gd l o)) :=
  OpN_load1' hx (encL_get f l o hi)
theorem OpN_loadN {α : Type} [Inhabited α] {f : α → Value} {l : List α} {T : TypeId} {fr : Nat × Nat} {n : Nat} (hx : ev L x = some (ptr b o)) [T1 C.P t] [At H b (.cells (encL f l) T fr)] [hn : Len l n] (hi : o < n) : OpN C ⟨dst, .load t x, ty, pos, aft, gd'⟩ L H (f (gd l o)) :=
  OpN_load1' hx (encL_get f l o (by rw [hn.eq]; exact hi))
theorem OpN_loadA {c r : Array Value} {T : TypeId} {fr : Nat × Nat} {n : Nat} (hx : ev L x = some (ptr b o)) [h1 : TA C.P t n] [hb : At H b (.cells c T fr)] [hp : Part c o n r] : OpN C ⟨dst, .load t x, ty, pos, aft, gd'⟩ L H (.agg r) :=
  OpN_of fun a w hk hs => by
    simp only [execOp, hk.eval hx, Instr.loadAt, Instr.sureAddr, loadVar, Sem.run_bind, Sem.run_pure, Result.andThen_ok, h1.agg, h1.size, run_loads (hb.heap hs) hp.le, hp.eq, if_true]

theorem ResV_cellA {c r : Array Value} {T : TypeId} {fr : Nat × Nat} {n p : Nat} (hx : look p L = some (ptr b o)) [h1 : TA C.P t n] [hb : At H b (.cells c T fr)] [hp : Part c o n r] : ResV C L H (.cell p t) (.agg r) := fun a w hk hs => by
  have e : a.tmps.getD p undef = ptr b o := hk.eval (x := .tmp p) hx
  simp only [resF, e, asAddr, loadVar, Sem.run_bind, Sem.run_pure, Result.andThen_ok, h1.agg, h1.size, run_loads (hb.heap hs) hp.le, hp.eq, if_true]
theorem ResV_cell1 {c : Array Value} {T : TypeId} {fr : Nat × Nat} {p : Nat} {v : Value} (hx : look p L = some (ptr b o)) [h1 : T1 C.P t] [hb : At H b (.cells c T fr)] (hv : c[o]? = some v) : ResV C L H (.cell p t) v := fun a w hk hs => by
  have e : a.tmps.getD p undef = ptr b o := hk.eval (x := .tmp p) hx
  simp only [resF, e, asAddr, loadVar, Sem.run_bind, Sem.run_pure, Result.andThen_ok, h1.agg, run_load_at (hb.heap hs) hv, if_false, Bool.false_eq_true]

/-! #### stores -/
/-- An effect with one outcome. -/
def OpD (C : Cx) (o : Oper) (L : Fr) (H : Hp) (v : Value) (H' : Hp) : Prop := OpE C o L H (fun u G => u = v ∧ G = H')

theorem OpD_store1' {c c' : Array Value} {T : TypeId} {H' : Hp} {v : Value} (hx : ev L x = some (ptr b o)) (hy : ev L y = some v) [h1 : T1 C.P t] (hv : v.oneCell' = true) [hb : Upd H b (.cells c T (0, 0)) (.cells c' T (0, 0)) H'] (ho : o < c.size) (hc : c.setIfInBounds o v = c') :
    OpD C ⟨dst, .store t x y, ty, pos, aft, gd'⟩ L H undef H' := fun a w hk hs => by
  have hbk : w.heap[b]? = some (.cells c T (0, 0)) := by
    obtain ⟨i, h, _⟩ := hb.get
    exact hs.props i _ h
  have hcl : v.cells = #[v] := by cases v <;> first | rfl | (simp [Value.oneCell'] at hv)
  have hrun : (execOp a.eval ⟨dst, .store t x y, ty, pos, aft, gd'⟩).run C.P w = .ok .skip (w.setCell ⟨b, o, none⟩ v) := by
    simp only [execOp, hk.eval hx, hk.eval hy, Instr.storeAt, Instr.sureAddr, storeVar, Sem.run_bind, Sem.run_pure, Result.andThen_ok, h1.size, hcl]
    simp [storeCells, Addr.add, run_store_at hbk ho hv]
  rw [hrun]
  refine ⟨_, ⟨rfl, rfl⟩, hs.upd hb (keep_setCell w b o v) ?_⟩
  rw [heap_setCell hbk, hc]
theorem OpD_store1 {c c' : Array Value} {T : TypeId} {H' : Hp} {v : Value} (hx : ev L x = some (ptr b o)) (hy : ev L y = some v) [T1 C.P t] [At H b (.cells c T (0, 0))] [hc : SetC c o v c'] [Upd H b (.cells c T (0, 0)) (.cells c' T (0, 0)) H'] :
    OpD C ⟨dst, .store t x y, ty, pos, aft, gd'⟩ L H undef H' := OpD_store1' (c := c) (T := T) hx hy hc.one hc.lt hc.eq
theorem OpD_storeL {α : Type} {f : α → Value} {l : List α} {T : TypeId} {H' : Hp} {z : α} (hx : ev L x = some (ptr b o)) (hy : ev L y = some (f z)) (hv : (f z).oneCell' = true) [At H b (.cells (encL f l) T (0, 0))] [T1 C.P t] [Upd H b (.cells (encL f l) T (0, 0)) (.cells (encL f (l.set o z)) T (0, 0)) H']
    (ho : o < l.length) : OpD C ⟨dst, .store t x y, ty, pos, aft, gd'⟩ L H undef H' := OpD_store1' (c := encL f l) (T := T) hx hy hv (by rw [encL_size]; exact ho) (encL_set f l o z)
theorem OpD_store8 {l : List (BitVec 8)} {T : TypeId} {H' : Hp} {z : BitVec 8} (hx : ev L x = some (ptr b o)) (hy : ev L y = some (u8 z)) [At H b (.cells (encL u8 l) T (0, 0))] [T1 C.P t] [Upd H b (.cells (encL u8 l) T (0, 0)) (.cells (encL u8 (l.set o z)) T (0, 0)) H']
    (ho : o < l.length) : OpD C ⟨dst, .store t x y, ty, pos, aft, gd'⟩ L H undef H' := OpD_storeL (f := u8) (l := l) (T := T) hx hy rfl ho
theorem OpD_store32 {l : List (BitVec 32)} {T : TypeId} {H' : Hp} {z : BitVec 32} (hx : ev L x = some (ptr b o)) (hy : ev L y = some (u32 z)) [At H b (.cells (encL u32 l) T (0, 0))] [T1 C.P t] [Upd H b (.cells (encL u32 l) T (0, 0)) (.cells (encL u32 (l.set o z)) T (0, 0)) H']
    (ho : o < l.length) : OpD C ⟨dst, .store t x y, ty, pos, aft, gd'⟩ L H undef H' := OpD_storeL (f := u32) (l := l) (T := T) hx hy rfl ho
theorem OpD_store64 {l : List (BitVec 64)} {T : TypeId} {H' : Hp} {z : BitVec 64} (hx : ev L x = some (ptr b o)) (hy : ev L y = some (u64 z)) [At H b (.cells (encL u64 l) T (0, 0))] [T1 C.P t] [Upd H b (.cells (encL u64 l) T (0, 0)) (.cells (encL u64 (l.set o z)) T (0, 0)) H']
    (ho : o < l.length) : OpD C ⟨dst, .store t x y, ty, pos, aft, gd'⟩ L H undef H' := OpD_storeL (f := u64) (l := l) (T := T) hx hy rfl ho
theorem OpD_store8N {l : List (BitVec 8)} {T : TypeId} {H' : Hp} {z : BitVec 8} {n : Nat} (hx : ev L x = some (ptr b o)) (hy : ev L y = some (u8 z)) [At H b (.cells (encL u8 l) T (0, 0))] [T1 C.P t] [Upd H b (.cells (encL u8 l) T (0, 0)) (.cells (encL u8 (l.set o z)) T (0, 0)) H']
    [hn : Len l n] (ho : o < n) : OpD C ⟨dst, .store t x y, ty, pos, aft, gd'⟩ L H undef H' := OpD_storeL (f := u8) (l := l) (T := T) hx hy rfl (by rw [hn.eq]; exact ho)
theorem OpD_store32N {l : List (BitVec 32)} {T : TypeId} {H' : Hp} {z : BitVec 32} {n : Nat} (hx : ev L x = some (ptr b o)) (hy : ev L y = some (u32 z)) [At H b (.cells (encL u32 l) T (0, 0))] [T1 C.P t] [Upd H b (.cells (encL u32 l) T (0, 0)) (.cells (encL u32 (l.set o z)) T (0, 0)) H']
    [hn : Len l n] (ho : o < n) : OpD C ⟨dst, .store t x y, ty, pos, aft, gd'⟩ L H undef H' := OpD_storeL (f := u32) (l := l) (T := T) hx hy rfl (by rw [hn.eq]; exact ho)
theorem OpD_store64N {l : List (BitVec 64)} {T : TypeId} {H' : Hp} {z : BitVec 64} {n : Nat} (hx : ev L x = some (ptr b o)) (hy : ev L y = some (u64 z)) [At H b (.cells (encL u64 l) T (0, 0))] [T1 C.P t] [Upd H b (.cells (encL u64 l) T (0, 0)) (.cells (encL u64 (l.set o z)) T (0, 0)) H']
    [hn : Len l n] (ho : o < n) : OpD C ⟨dst, .store t x y, ty, pos, aft, gd'⟩ L H undef H' := OpD_storeL (f := u64) (l := l) (T := T) hx hy rfl (by rw [hn.eq]; exact ho)
theorem OpD_storeA {c c' vs : Array Value} {T : TypeId} {H' : Hp} {n : Nat} (hx : ev L x = some (ptr b o)) (hy : ev L y = some (.agg vs)) [h1 : TA C.P t n] [At H b (.cells c T (0, 0))] [hp : SetA c o n vs c'] [hb : Upd H b (.cells c T (0, 0)) (.cells c' T (0, 0)) H'] :
    OpD C ⟨dst, .store t x y, ty, pos, aft, gd'⟩ L H undef H' := fun a w hk hs => by
  have hbk : w.heap[b]? = some (.cells c T (0, 0)) := by
    obtain ⟨i, h, _⟩ := hb.get
    exact hs.props i _ h
  have hle := hp.le
  have hsz := hp.size
  obtain ⟨w', hr, hkp, hh⟩ := run_storesFrom (P := C.P) (o := o) vs.toList 0 c w hbk (by simp; omega) hp.one
  have hrun : (execOp a.eval ⟨dst, .store t x y, ty, pos, aft, gd'⟩).run C.P w = .ok .skip w' := by
    simp only [execOp, hk.eval hx, hk.eval hy, Instr.storeAt, Instr.sureAddr, storeVar, Sem.run_bind, Sem.run_pure, Result.andThen_ok, h1.size, Value.cells, hsz, ne_eq, not_true_eq_false, if_false, hr]
  rw [hrun]
  refine ⟨_, ⟨rfl, rfl⟩, hs.upd hb hkp ?_⟩
  rw [hh, Nat.add_zero, hp.eq]

/-! #### new blocks -/
theorem OpE_new {op : Op} (o : Obj) (h : ∀ a w, Knows C.N a L → St C.G C.w₀ H w → (execOp a.eval ⟨dst, op, ty, pos, aft, gd'⟩).run C.P w = .ok (.value (ptr w.heap.size 0)) { w with heap := w.heap.push o }) :
    OpE C ⟨dst, op, ty, pos, aft, gd'⟩ L H (fun v H' => ∃ b, v = ptr b 0 ∧ H' = own (blk b o) :: H) := fun a w hk hs => by
  rw [h a w hk hs]
  refine ⟨_, ⟨w.heap.size, rfl, rfl⟩, hs.push (Keep.push w o) ?_ (fun b hb => Nat.le_of_eq hb.symm)⟩
  show (w.heap.push o)[w.heap.size]? = some o
  simp
theorem OpE_box1 {e : TypeId} {v : Value} (hx : ev L x = some v) (hv : v.oneCell' = true) : OpE C ⟨dst, .box e x, ty, pos, aft, gd'⟩ L H (fun u H' => ∃ b, u = ptr b 0 ∧ H' = own (blk b (.cells #[v] e (0, 0))) :: H) :=
  OpE_new _ fun a w hk _ => by
    have hcl : v.cells = #[v] := by cases v <;> first | rfl | (simp [Value.oneCell'] at hv)
    simp only [execOp, hk.eval hx, Instr.box, newVar, newRow, hcl, Sem.run_bind, run_newObj, Result.andThen_ok, Sem.run_pure]
theorem OpE_boxA {e : TypeId} {c : Array Value} (hx : ev L x = some (.agg c)) : OpE C ⟨dst, .box e x, ty, pos, aft, gd'⟩ L H (fun u H' => ∃ b, u = ptr b 0 ∧ H' = own (blk b (.cells c e (0, 0))) :: H) :=
  OpE_new _ fun a w hk _ => by
    simp only [execOp, hk.eval hx, Instr.box, newVar, newRow, Value.cells, Sem.run_bind, run_newObj, Result.andThen_ok, Sem.run_pure]
theorem OpE_allocA {e : TypeId} {c : Array Value} [h : TZ C.P e (.agg c)] : OpE C ⟨dst, .alloc e, ty, pos, aft, gd'⟩ L H (fun u H' => ∃ b, u = ptr b 0 ∧ H' = own (blk b (.cells c e (0, 0))) :: H) :=
  OpE_new _ fun a w _ _ => by
    simp only [execOp, Instr.alloc, h.eq, newVar, newRow, Value.cells, Sem.run_bind, run_newObj, Result.andThen_ok, Sem.run_pure]
theorem OpE_alloc1 {e : TypeId} {v : Value} [h : TZ C.P e v] (hv : v.oneCell' = true) : OpE C ⟨dst, .alloc e, ty, pos, aft, gd'⟩ L H (fun u H' => ∃ b, u = ptr b 0 ∧ H' = own (blk b (.cells #[v] e (0, 0))) :: H) :=
  OpE_new _ fun a w _ _ => by
    have hcl : v.cells = #[v] := by cases v <;> first | rfl | (simp [Value.oneCell'] at hv)
    simp only [execOp, Instr.alloc, h.eq, newVar, newRow, hcl, Sem.run_bind, run_newObj, Result.andThen_ok, Sem.run_pure]

/-! #### calls -/
class CF (P : Program) (f : FuncId) : Prop where eq : ∀ args w, (callFunc f args).run P w = .ok (.enter f args) w
def evs (L : Fr) : List Operand → Option (List Value)
  | [] => some []
  | x :: r => match ev L x, evs L r with
    | some v, some vs => some (v :: vs)
    | _, _ => none
theorem Knows.evals {N : Nat} {a : Act} {xs : List Operand} {vs : List Value} (hk : Knows N a L) (h : evs L xs = some vs) : xs.map a.eval = vs := by
  induction xs generalizing vs with
  | nil => simp only [evs, Option.some.injEq] at h; subst h; rfl
  | cons x r ih =>
    simp only [evs] at h
    split at h
    · rename_i v us hv hus
      simp only [Option.some.injEq] at h
      subst h
      simp only [List.map_cons, hk.eval hv, ih hus]
    · cases h
theorem run_call {P : Program} {f : FuncId} {xs : List Operand} {ats : Array TypeId} {vs : List Value} {N : Nat} {a : Act} {w : World} [hc : CF P f] (hk : Knows N a L) (hv : evs L xs = some vs) :
    (execOp a.eval ⟨dst, .call ⟨.value (.func f), xs.toArray, ats⟩, ty, pos, aft, gd'⟩).run P w = .ok (.enter f vs.toArray) w := by
  simp only [execOp, resolve, Deferred.ofValue, Act.eval, Sem.run_bind, Sem.run_pure, Result.andThen_ok, invoke, List.map_toArray, hk.evals hv, Array.append_empty]
  rw [show (#[] ++ vs.toArray : Array Value) = vs.toArray by simp, hc.eq]
/-- A call of what the model answers by itself. -/
theorem OpN_ext {f : FuncId} {xs : List Operand} {ats : Array TypeId} {vs : List Value} {v : Value} (hv : evs L xs = some vs) (h : ∀ w, (callFunc f vs.toArray).run C.P w = .ok (.value v) w) :
    OpN C ⟨dst, .call ⟨.value (.func f), xs.toArray, ats⟩, ty, pos, aft, gd'⟩ L H v := fun a w hk _ => by
  have e : (execOp a.eval ⟨dst, .call ⟨.value (.func f), xs.toArray, ats⟩, ty, pos, aft, gd'⟩).run C.P w = .ok (.value v) w := by
    simp only [execOp, resolve, Deferred.ofValue, Act.eval, Sem.run_bind, Sem.run_pure, Result.andThen_ok, invoke, List.map_toArray, hk.evals hv, Array.append_empty]
    rw [show (#[] ++ vs.toArray : Array Value) = vs.toArray by simp, h]
  rw [e]
  exact ⟨rfl, rfl⟩
/-- A call of what only makes memory, with a value that does not hang on the world. -/
theorem OpN_call {f : FuncId} {xs : List Operand} {ats : Array TypeId} {vs : List Value} {v : Value} [CF C.P f] (hv : evs L xs = some vs) (h : ∀ w, St C.G C.w₀ H w → Calls C.P f vs.toArray w (fun e w' => e = .returned v ∧ Grow w w')) :
    OpN C ⟨dst, .call ⟨.value (.func f), xs.toArray, ats⟩, ty, pos, aft, gd'⟩ L H v := fun a w hk hs => by
  rw [run_call hk hv]
  exact ⟨rfl, h w hs⟩
theorem OpE_call {f : FuncId} {xs : List Operand} {ats : Array TypeId} {vs : List Value} {post : Value → Hp → Prop} [CF C.P f] (hv : evs L xs = some vs)
    (h : ∀ w, St C.G C.w₀ H w → Calls C.P f vs.toArray w (fun e w' => ∃ v H', e = .returned v ∧ post v H' ∧ St C.G C.w₀ H' w')) :
    OpE C ⟨dst, .call ⟨.value (.func f), xs.toArray, ats⟩, ty, pos, aft, gd'⟩ L H post := fun a w hk hs => by
  rw [run_call hk hv]
  exact (h w hs).mono fun e w' ⟨v, H', he, hp, hs'⟩ => ⟨v, he, H', hp, hs'⟩
end

class Drop (H : Hp) (b : Nat) (H' : outParam Hp) : Prop where sub : H'.Sublist H
instance Drop.here {w : Bool} {b : Nat} {o : Obj} {H : Hp} : Drop (⟨w, blk b o⟩ :: H) b H := ⟨List.sublist_cons_self _ _⟩
instance (priority := low) Drop.there {e : HE} {b : Nat} {H H' : Hp} [h : Drop H b H'] : Drop (e :: H) b (e :: H') := ⟨h.sub.cons_cons e⟩
instance (priority := low) Drop.nil {b : Nat} : Drop [] b [] := ⟨List.Sublist.refl _⟩

/-- What a function does that only computes (and makes memory of its own). -/
def PureC (P : Program) (f : FuncId) (vs : List Value) (v : Value) : Prop := ∀ w, Calls P f vs.toArray w (fun e w' => e = .returned v ∧ Grow w w')

section
variable {C : Cx} {L : Fr} {H : Hp} {ops : Array Oper} {Q : Exit → Act → World → Prop} {ty : TypeId} {pos : String} {aft : Array Edge} {rest : List Oper}
theorem OpN_pure {dst : Option Tmp} {gd' : Option (Nat × Bool)} {f : FuncId} {xs : List Operand} {ats : Array TypeId} {vs : List Value} {v : Value} [CF C.P f] (hv : evs L xs = some vs) (h : PureC C.P f vs v) :
    OpN C ⟨dst, .call ⟨.value (.func f), xs.toArray, ats⟩, ty, pos, aft, gd'⟩ L H v := OpN_call hv fun w _ => h w
variable {gu : Option (Nat × Bool)} {d : Tmp} {op : Op}
theorem VL_D0 {H' : Hp} {v : Value} (h : OpD C ⟨none, op, ty, pos, aft, gu⟩ L H v H') (hg : gdB ops L gu = true) (k : VL C ops Q rest L H') : VL C ops Q (⟨none, op, ty, pos, aft, gu⟩ :: rest) L H :=
  VL_E h hg rfl fun _ _ ⟨_, hH⟩ => by subst hH; exact k
theorem VL_D {H' : Hp} {v : Value} (h : OpD C ⟨some d, op, ty, pos, aft, gu⟩ L H v H') (hg : gdB ops L gu = true) (hd : Nat.blt d C.N = true) (k : VL C ops Q rest ((d, v) :: L) H') : VL C ops Q (⟨some d, op, ty, pos, aft, gu⟩ :: rest) L H :=
  VL_E h hg hd fun _ _ ⟨hv, hH⟩ => by subst hv; subst hH; exact k
theorem VL_new {o : Obj} (h : OpE C ⟨some d, op, ty, pos, aft, gu⟩ L H (fun u H' => ∃ b, u = ptr b 0 ∧ H' = own (blk b o) :: H)) (hg : gdB ops L gu = true) (hd : Nat.blt d C.N = true)
    (k : ∀ b, VL C ops Q rest ((d, ptr b 0) :: L) (own (blk b o) :: H)) : VL C ops Q (⟨some d, op, ty, pos, aft, gu⟩ :: rest) L H :=
  VL_E h hg hd fun _ _ ⟨b, hv, hH⟩ => by subst hv; subst hH; exact k b
end
end Go.Sp

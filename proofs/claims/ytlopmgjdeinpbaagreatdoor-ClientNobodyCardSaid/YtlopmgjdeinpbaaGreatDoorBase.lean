/- The calculus: triples over abstract frames (facts on slots) and abstract heaps (chunks with footprints), sound for the walk's 'Code.wp'. -/
import Derived.Orders
import Derived.Tactics
import Derived.Laws.Sem
import Derived.Below
import Derived.LoopN
namespace Go.Sp
open Go Go.RowKit

/-! ### Frames -/
abbrev Fr := List (Nat × Value)

def look (n : Nat) : Fr → Option Value
  | [] => none
  | (k, v) :: r => match Nat.beq n k with
    | true => some v
    | false => look n r

structure Knows (N : Nat) (a : Act) (L : Fr) : Prop where
  defers : a.defers = []
  size : N ≤ a.tmps.size
  tmps : ∀ n v, look n L = some v → a.tmps[n]? = some v

def ev (L : Fr) : Operand → Option Value
  | .tmp t => look t L
  | .const v => some v
  | .global g => some (.pointer (some ⟨g, 0, none⟩))
  | .func f => some (.func (.func f) #[] #[])

theorem Knows.eval {N : Nat} {a : Act} {L : Fr} {x : Operand} {v : Value} (h : Knows N a L) (hx : ev L x = some v) : a.eval x = v := by
  cases x with
  | tmp t =>
    have h1 := h.tmps t v hx
    have h2 : a.tmps.getD t undef = v := by
      rw [Array.getD_eq_getD_getElem?, h1]; rfl
    exact h2
  | const u => simp only [ev, Option.some.injEq] at hx; subst hx; rfl
  | global g => simp only [ev, Option.some.injEq] at hx; subst hx; rfl
  | func f => simp only [ev, Option.some.injEq] at hx; subst hx; rfl

theorem Knows.put {N : Nat} {a : Act} {L : Fr} {d : Nat} {v : Value} (h : Knows N a L) (hd : Nat.blt d N = true) : Knows N (a.put (some d) v) ((d, v) :: L) := by
  have hd' : d < N := by simpa using hd
  refine ⟨h.defers, by simpa [Act.put] using h.size, fun n u hn => ?_⟩
  simp only [Act.put, Array.getElem?_setIfInBounds]
  unfold look at hn
  split at hn
  · rename_i heq
    have e : n = d := Nat.eq_of_beq_eq_true heq
    subst e
    have hs := h.size
    rw [if_pos rfl, if_pos (by omega)]
    exact hn
  · rename_i heq
    have e : d ≠ n := fun e => by subst e; simp at heq
    rw [if_neg e]
    exact h.tmps n u hn

/-- Facts that follow from facts, by looking. -/
def SubF (L : Fr) : Fr → Prop
  | [] => True
  | (k, v) :: r => look k L = some v ∧ SubF L r

theorem SubF.look {L L' : Fr} (h : SubF L L') {n : Nat} {v : Value} (hn : look n L' = some v) : Sp.look n L = some v := by
  induction L' with
  | nil => cases hn
  | cons p r ih =>
    obtain ⟨k, u⟩ := p
    unfold Sp.look at hn
    split at hn
    · rename_i heq
      have e : n = k := Nat.eq_of_beq_eq_true heq
      subst e
      cases hn
      exact h.1
    · exact ih h.2 hn

theorem Knows.sub {N : Nat} {a : Act} {L L' : Fr} (h : Knows N a L) (hs : SubF L L') : Knows N a L' :=
  ⟨h.defers, h.size, fun _ _ hn => h.tmps _ _ (hs.look hn)⟩

/-! ### Heaps -/
structure Chunk where
  foot : Nat → Prop
  prop : World → Prop
  lt : ∀ w b, prop w → foot b → b < w.heap.size
  same : ∀ w w', (∀ b, foot b → w'.heap[b]? = w.heap[b]?) → prop w → prop w'

def blk (b : Nat) (o : Obj) : Chunk where
  foot := fun k => k = b
  prop := fun w => w.heap[b]? = some o
  lt := fun w k h e => by subst e; exact (Array.getElem?_eq_some_iff.1 h).1
  same := fun w w' h hw => by rw [h b rfl]; exact hw

structure HE where
  own : Bool
  c : Chunk
abbrev Hp := List HE
abbrev own (c : Chunk) : HE := ⟨true, c⟩
abbrev ro (c : Chunk) : HE := ⟨false, c⟩

/-- Outside 'G' the world's old blocks are as they were; nothing else but the draws has turned. -/
structure Keep (G : Nat → Prop) (w w' : World) : Prop where
  os : w'.os = w.os
  tape : w'.tape = w.tape
  output : w'.output = w.output
  size : w.heap.size ≤ w'.heap.size
  block : ∀ k, k < w.heap.size → ¬ G k → w'.heap[k]? = w.heap[k]?
def nowhere : Nat → Prop := fun _ => False
abbrev Grow (w w' : World) : Prop := Keep nowhere w w'

theorem Keep.refl (G : Nat → Prop) (w : World) : Keep G w w := ⟨rfl, rfl, rfl, Nat.le_refl _, fun _ _ _ => rfl⟩
theorem Keep.trans {G : Nat → Prop} {a b c : World} (h : Keep G a b) (k : Keep G b c) : Keep G a c :=
  ⟨k.os.trans h.os, k.tape.trans h.tape, k.output.trans h.output, Nat.le_trans h.size k.size,
   fun i hi hg => (k.block i (Nat.lt_of_lt_of_le hi h.size) hg).trans (h.block i hi hg)⟩
theorem Keep.mono {G F : Nat → Prop} {a b : World} (h : Keep F a b) (hs : ∀ k, k < a.heap.size → F k → G k) : Keep G a b :=
  ⟨h.os, h.tape, h.output, h.size, fun i hi hg => h.block i hi (fun hf => hg (hs i hi hf))⟩
theorem Keep.drew (w : World) : Grow w { w with drawn := w.drawn + 1 } := ⟨rfl, rfl, rfl, Nat.le_refl _, fun _ _ _ => rfl⟩
theorem Keep.push (w : World) (o : Obj) : Grow w { w with heap := w.heap.push o } :=
  ⟨rfl, rfl, rfl, by simp, fun k hk _ => by simp [Array.getElem?_push]; intro h; omega⟩
theorem Grow.below {w w' : World} (h : Grow w w') : Below w.heap.size w w' :=
  ⟨h.os, h.tape, h.output, h.size, fun k hk => h.block k hk (fun h => h)⟩

theorem Chunk.keep (c : Chunk) {G : Nat → Prop} {w w' : World} (h : Keep G w w') (hc : c.prop w) (hd : ∀ b, c.foot b → ¬ G b) : c.prop w' :=
  c.same w w' (fun b hb => h.block b (c.lt w b hc hb) (hd b hb)) hc

structure St (G : Nat → Prop) (w₀ : World) (H : Hp) (w : World) : Prop where
  keep : Keep G w₀ w
  props : ∀ (i : Nat) (e : HE), H[i]? = some e → e.c.prop w
  owns : ∀ (i : Nat) (e : HE), H[i]? = some e → e.own = true → ∀ b, e.c.foot b → w₀.heap.size ≤ b ∨ G b
  sep : ∀ (i j : Nat) (e f : HE), H[i]? = some e → H[j]? = some f → i ≠ j → (e.own = true ∨ f.own = true) → ∀ b, e.c.foot b → ¬ f.c.foot b

variable {G : Nat → Prop} {w₀ : World} {H H' : Hp} {w w' : World}

theorem St.nil (w : World) : St G w [] w := ⟨Keep.refl _ _, fun _ _ h => by simp at h, fun _ _ h => by simp at h, fun _ _ _ _ h => by simp at h⟩

/-- Growth leaves a state's facts as they are. -/
theorem St.grow (h : St G w₀ H w) (k : Grow w w') : St G w₀ H w' where
  keep := h.keep.trans (k.mono fun _ _ hf => hf.elim)
  props := fun i e he => e.c.keep k (h.props i e he) (fun _ _ hf => hf)
  owns := h.owns
  sep := h.sep

/-- What the state's own footprint covers may turn. -/
theorem St.keepTo {F : Nat → Prop} (h : St G w₀ H w) (k : Keep F w w') (hF : ∀ b, b < w.heap.size → F b → w₀.heap.size ≤ b ∨ G b) : Keep G w₀ w' where
  os := k.os.trans h.keep.os
  tape := k.tape.trans h.keep.tape
  output := k.output.trans h.keep.output
  size := Nat.le_trans h.keep.size k.size
  block := fun b hb hg => by
    have hs := h.keep.size
    rw [k.block b (by omega) (fun hf => (hF b (by omega) hf).elim (fun hle => by omega) hg)]
    exact h.keep.block b hb hg

/-- One chunk of the state's own is replaced (its footprint may have grown into new memory); all else is as it was. -/
theorem St.set {i : Nat} {c c' : Chunk} (h : St G w₀ H w) (hi : H[i]? = some (own c)) (k : Keep c.foot w w') (hc : c'.prop w')
    (hf : ∀ b, c'.foot b → c.foot b ∨ w.heap.size ≤ b) : St G w₀ (H.set i (own c')) w' := by
  have hil : i < H.length := (List.getElem?_eq_some_iff.1 hi).1
  have other : ∀ (j : Nat) (e : HE), j ≠ i → H[j]? = some e → ∀ b, c'.foot b → ¬ e.c.foot b := fun j e hj he b hb hb' => by
    rcases hf b hb with h1 | h1
    · exact h.sep i j _ _ hi he (Ne.symm hj) (.inl rfl) b h1 hb'
    · have := e.c.lt w b (h.props j e he) hb'
      omega
  have get : ∀ (j : Nat) (e : HE), (H.set i (own c'))[j]? = some e → (j = i ∧ e = own c') ∨ (j ≠ i ∧ H[j]? = some e) := fun j e he => by
    rw [List.getElem?_set] at he
    by_cases hij : i = j
    · subst hij
      rw [if_pos rfl, if_pos hil] at he
      exact .inl ⟨rfl, (Option.some.inj he).symm⟩
    · rw [if_neg hij] at he
      exact .inr ⟨Ne.symm hij, he⟩
  refine ⟨h.keepTo k (fun b _ hb => h.owns i _ hi rfl b hb), fun j e he => ?_, fun j e he ho b hb => ?_, fun j j' e f he hf' hne ho b hb hb' => ?_⟩
  · rcases get j e he with ⟨rfl, rfl⟩ | ⟨hj, he⟩
    · exact hc
    · exact e.c.keep k (h.props j e he) (fun b hb hb' => h.sep i j _ _ hi he (Ne.symm hj) (.inl rfl) b hb' hb)
  · rcases get j e he with ⟨rfl, rfl⟩ | ⟨hj, he⟩
    · rcases hf b hb with h1 | h1
      · exact h.owns _ _ hi rfl b h1
      · have := h.keep.size
        exact .inl (by omega)
    · exact h.owns j e he ho b hb
  · rcases get j e he with ⟨rfl, rfl⟩ | ⟨hj, he1⟩ <;> rcases get j' f hf' with ⟨rfl, rfl⟩ | ⟨hj', hf1⟩
    · exact hne rfl
    · exact other j' f hj' hf1 b hb hb'
    · exact other j e hj he1 b hb' hb
    · exact h.sep j j' e f he1 hf1 hne ho b hb hb'

/-- A new chunk of the state's own, in new memory. -/
theorem St.push {c : Chunk} (h : St G w₀ H w) (k : Grow w w') (hc : c.prop w') (hf : ∀ b, c.foot b → w.heap.size ≤ b) : St G w₀ (own c :: H) w' := by
  have hs := h.keep.size
  refine ⟨(h.grow k).keep, fun j e he => ?_, fun j e he ho b hb => ?_, fun j j' e f he hf' hne ho b hb hb' => ?_⟩
  · cases j with
    | zero => simp only [List.getElem?_cons_zero, Option.some.injEq] at he; subst he; exact hc
    | succ j => exact (h.grow k).props j e (by simpa using he)
  · cases j with
    | zero => simp only [List.getElem?_cons_zero, Option.some.injEq] at he; subst he; exact .inl (by have := hf b hb; omega)
    | succ j => exact h.owns j e (by simpa using he) ho b hb
  · cases j with
    | zero =>
      simp only [List.getElem?_cons_zero, Option.some.injEq] at he
      subst he
      cases j' with
      | zero => exact hne rfl
      | succ j' =>
        have := f.c.lt w b (h.props j' f (by simpa using hf')) hb'
        have := hf b hb
        omega
    | succ j =>
      cases j' with
      | zero =>
        simp only [List.getElem?_cons_zero, Option.some.injEq] at hf'
        subst hf'
        have := e.c.lt w b (h.props j e (by simpa using he)) hb
        have := hf b hb'
        omega
      | succ j' => exact h.sep j j' e f (by simpa using he) (by simpa using hf') (by omega) ho b hb hb'

/-- A chunk that holds, and lies apart from all that is the state's own, may be read. -/
theorem St.pushRo {c : Chunk} (h : St G w₀ H w) (hc : c.prop w) (hf : ∀ (j : Nat) (e : HE), H[j]? = some e → e.own = true → ∀ b, c.foot b → ¬ e.c.foot b) : St G w₀ (ro c :: H) w := by
  refine ⟨h.keep, fun j e he => ?_, fun j e he ho b hb => ?_, fun j j' e f he hf' hne ho b hb hb' => ?_⟩
  · cases j with
    | zero => simp only [List.getElem?_cons_zero, Option.some.injEq] at he; subst he; exact hc
    | succ j => exact h.props j e (by simpa using he)
  · cases j with
    | zero => simp only [List.getElem?_cons_zero, Option.some.injEq] at he; subst he; cases ho
    | succ j => exact h.owns j e (by simpa using he) ho b hb
  · cases j with
    | zero =>
      simp only [List.getElem?_cons_zero, Option.some.injEq] at he
      subst he
      cases j' with
      | zero => exact hne rfl
      | succ j' => exact hf j' f (by simpa using hf') (by rcases ho with ho | ho; cases ho; exact ho) b hb hb'
    | succ j =>
      cases j' with
      | zero =>
        simp only [List.getElem?_cons_zero, Option.some.injEq] at hf'
        subst hf'
        exact hf j e (by simpa using he) (by rcases ho with ho | ho; exact ho; cases ho) b hb' hb
      | succ j' => exact h.sep j j' e f (by simpa using he) (by simpa using hf') (by omega) ho b hb hb'

/-- Forgetting, renumbering: by an injection of places. -/
theorem St.sub (h : St G w₀ H w) (f : Nat → Nat) (hinj : ∀ i j, i < H'.length → j < H'.length → f i = f j → i = j) (hf : ∀ (i : Nat) (e : HE), H'[i]? = some e → H[f i]? = some e) : St G w₀ H' w where
  keep := h.keep
  props := fun i e he => h.props (f i) e (hf i e he)
  owns := fun i e he ho b hb => h.owns (f i) e (hf i e he) ho b hb
  sep := fun i j e e' he he' hne ho b hb hb' => h.sep (f i) (f j) e e' (hf i e he) (hf j e' he')
    (fun hh => hne (hinj i j (List.getElem?_eq_some_iff.1 he).1 (List.getElem?_eq_some_iff.1 he').1 hh)) ho b hb hb'

theorem St.tail {e : HE} (h : St G w₀ (e :: H) w) : St G w₀ H w :=
  h.sub (· + 1) (fun i j _ _ h => by simpa using h) (fun i e he => by simpa using he)

/-- 'H' at places 'is' (no place twice). -/
def pickH (H : Hp) : List Nat → Option Hp
  | [] => some []
  | i :: is => match H[i]?, pickH H is with
    | some e, some r => some (e :: r)
    | _, _ => none

theorem pickH_get {is : List Nat} {r : Hp} (h : pickH H is = some r) (i : Nat) (e : HE) (he : r[i]? = some e) : ∃ k, is[i]? = some k ∧ H[k]? = some e := by
  induction is generalizing r i with
  | nil => simp only [pickH, Option.some.injEq] at h; subst h; simp at he
  | cons k is ih =>
    simp only [pickH] at h
    split at h
    · rename_i e' r' he' hr'
      simp only [Option.some.injEq] at h
      subst h
      cases i with
      | zero => simp only [List.getElem?_cons_zero, Option.some.injEq] at he; subst he; exact ⟨k, rfl, he'⟩
      | succ i => simpa using ih hr' i (by simpa using he)
    · cases h

theorem St.pick (h : St G w₀ H w) (is : List Nat) {r : Hp} (hr : pickH H is = some r) (hn : is.Nodup) : St G w₀ r w := by
  have key := pickH_get (H := H) hr
  refine ⟨h.keep, fun i e he => ?_, fun i e he ho b hb => ?_, fun i j e f he hf hne ho b hb hb' => ?_⟩
  · obtain ⟨k, _, hk⟩ := key i e he; exact h.props k e hk
  · obtain ⟨k, _, hk⟩ := key i e he; exact h.owns k e hk ho b hb
  · obtain ⟨k, hk1, hk⟩ := key i e he
    obtain ⟨l, hl1, hl⟩ := key j f hf
    refine h.sep k l e f hk hl (fun hkl => ?_) ho b hb hb'
    subst hkl
    exact hne ((List.getElem?_inj (List.getElem?_eq_some_iff.1 hk1).1 hn).1 (hk1.trans hl1.symm))

def Apart (e f : HE) : Prop := (e.own = true ∨ f.own = true) → ∀ b, e.c.foot b → ¬ f.c.foot b
theorem st_iff : St G w₀ H w ↔ Keep G w₀ w ∧ (∀ e ∈ H, e.c.prop w) ∧ (∀ e ∈ H, e.own = true → ∀ b, e.c.foot b → w₀.heap.size ≤ b ∨ G b) ∧ H.Pairwise Apart := by
  constructor
  · intro h
    refine ⟨h.keep, fun e he => ?_, fun e he => ?_, List.pairwise_iff_getElem.2 fun i j hi hj hij ho => h.sep i j _ _ (List.getElem?_eq_getElem hi) (List.getElem?_eq_getElem hj) (by omega) ho⟩
    · obtain ⟨i, hi⟩ := List.getElem?_of_mem he; exact h.props i e hi
    · obtain ⟨i, hi⟩ := List.getElem?_of_mem he; exact h.owns i e hi
  · rintro ⟨h1, h2, h3, h4⟩
    refine ⟨h1, fun i e he => h2 e (List.mem_of_getElem? he), fun i e he => h3 e (List.mem_of_getElem? he), fun i j e f he hf hne ho b hb hb' => ?_⟩
    obtain ⟨hi, rfl⟩ := List.getElem?_eq_some_iff.1 he
    obtain ⟨hj, rfl⟩ := List.getElem?_eq_some_iff.1 hf
    have hp := List.pairwise_iff_getElem.1 h4
    rcases Nat.lt_or_gt_of_ne hne with hlt | hlt
    · exact hp i j hi hj hlt ho b hb hb'
    · exact hp j i hj hi hlt ho.symm b hb' hb
theorem St.sublist (h : St G w₀ H w) (hs : H'.Sublist H) : St G w₀ H' w := by
  obtain ⟨h1, h2, h3, h4⟩ := st_iff.1 h
  exact st_iff.2 ⟨h1, fun e he => h2 e (hs.subset he), fun e he => h3 e (hs.subset he), h4.sublist hs⟩
class SubL (H' H : Hp) : Prop where sub : H'.Sublist H
instance : SubL [] H := ⟨List.nil_sublist _⟩
instance (priority := low) {e : HE} [h : SubL H' H] : SubL H' (e :: H) := ⟨h.sub.cons e⟩
instance {e : HE} [h : SubL H' H] : SubL (e :: H') (e :: H) := ⟨h.sub.cons_cons e⟩
instance : SubL H H := ⟨List.Sublist.refl _⟩
theorem St.subL [hs : SubL H' H] (h : St G w₀ H w) : St G w₀ H' w := h.sublist hs.sub

/-! ### Triples -/
structure Cx where
  P : Program
  N : Nat
  G : Nat → Prop
  w₀ : World

variable {C : Cx} {L L' : Fr} {ops : Array Oper} {Q : Exit → Act → World → Prop}

def VQ (C : Cx) (Q : Exit → Act → World → Prop) (e : Exit) (L : Fr) (H : Hp) : Prop := ∀ a w, Knows C.N a L → St C.G C.w₀ H w → Q e a w
def VC (C : Cx) (c : Code) (Q : Exit → Act → World → Prop) (L : Fr) (H : Hp) : Prop := ∀ a w, Knows C.N a L → St C.G C.w₀ H w → c.wp C.P Q a w
def VL (C : Cx) (ops : Array Oper) (Q : Exit → Act → World → Prop) (l : List Oper) (L : Fr) (H : Hp) : Prop :=
  ∀ a w, Knows C.N a L → St C.G C.w₀ H w → wpList C.P ops Q l a w

theorem VC_seq {x y : Code} (h : VC C x (Exit.then (y.wp C.P Q) Q) L H) : VC C (.seq x y) Q L H := fun a w hk hs => wp_seq (h a w hk hs)
theorem VC_skip (h : VQ C Q .normal L H) : VC C .skip Q L H := fun a w hk hs => wp_skip (h a w hk hs)
theorem VC_ret (h : VQ C Q .ret L H) : VC C .ret Q L H := fun a w hk hs => wp_ret (h a w hk hs)
theorem VC_exit {id : Nat} (h : VQ C Q (.exit id) L H) : VC C (.exit id) Q L H := fun a w hk hs => wp_exit (h a w hk hs)
theorem VC_block {id : Nat} {c : Code} (h : VC C c (Exit.inBlock id Q) L H) : VC C (.block id c) Q L H := fun a w hk hs => wp_block (h a w hk hs)
theorem VC_region {id : Nat} {l : List Oper} (h : VL C l.toArray Q l L H) : VC C (.region id l.toArray false) Q L H := fun a w hk hs => wp_region_lit (h a w hk hs)
theorem VC_cond {c : Operand} {x y : Code} {t : Bool} (hc : ev L c = some (.bool t)) (ht : t = true → VC C x Q L H) (hf : t = false → VC C y Q L H) : VC C (.cond c x y) Q L H :=
  fun a w hk hs => wp_cond_split (hk.eval hc) (fun h => ht h a w hk hs) (fun h => hf h a w hk hs)
theorem VC_true {c : Operand} {x y : Code} (hc : ev L c = some (.bool true)) (ht : VC C x Q L H) : VC C (.cond c x y) Q L H :=
  fun a w hk hs => wp_cond_true (hk.eval hc) (ht a w hk hs)
theorem VC_false {c : Operand} {x y : Code} (hc : ev L c = some (.bool false)) (ht : VC C y Q L H) : VC C (.cond c x y) Q L H :=
  fun a w hk hs => wp_cond_false (hk.eval hc) (ht a w hk hs)

theorem VC_condD {c : Operand} {x y : Code} {p : Prop} [Decidable p] (hc : ev L c = some (.bool (decide p))) (ht : p → VC C x Q L H) (hf : ¬ p → VC C y Q L H) : VC C (.cond c x y) Q L H :=
  VC_cond hc (fun h => ht (of_decide_eq_true h)) (fun h => hf (of_decide_eq_false h))
theorem VC_condT {c : Operand} {x y : Code} {p : Prop} [Decidable p] (hc : ev L c = some (.bool (decide p))) (hp : p) (ht : VC C x Q L H) : VC C (.cond c x y) Q L H :=
  VC_condD hc (fun _ => ht) (fun h => absurd hp h)
theorem VC_condF {c : Operand} {x y : Code} {p : Prop} [Decidable p] (hc : ev L c = some (.bool (decide p))) (hp : ¬ p) (hf : VC C y Q L H) : VC C (.cond c x y) Q L H :=
  VC_condD hc (fun h => absurd h hp) (fun _ => hf)

theorem VQ_then {y : Code} (h : VC C y Q L H) : VQ C (Exit.then (y.wp C.P Q) Q) .normal L H := fun a w hk hs => h a w hk hs
theorem VQ_then_exit {id : Nat} {K : Act → World → Prop} (h : VQ C Q (.exit id) L H) : VQ C (Exit.then K Q) (.exit id) L H := fun a w hk hs => h a w hk hs
theorem VQ_then_ret {K : Act → World → Prop} (h : VQ C Q .ret L H) : VQ C (Exit.then K Q) .ret L H := fun a w hk hs => h a w hk hs
theorem VQ_block {id : Nat} (h : VQ C Q .normal L H) : VQ C (Exit.inBlock id Q) .normal L H := fun a w hk hs => h a w hk hs
theorem VQ_block_ret {id : Nat} (h : VQ C Q .ret L H) : VQ C (Exit.inBlock id Q) .ret L H := fun a w hk hs => h a w hk hs
theorem VQ_block_here {id : Nat} (h : VQ C Q .normal L H) : VQ C (Exit.inBlock id Q) (.exit id) L H := fun a w hk hs => by
  simp only [Exit.inBlock, if_true]; exact h a w hk hs
theorem VQ_block_past {id id' : Nat} (hne : Nat.beq id' id = false) (h : VQ C Q (.exit id') L H) : VQ C (Exit.inBlock id Q) (.exit id') L H := fun a w hk hs => by
  have : id' ≠ id := fun e => by subst e; simp at hne
  simp only [Exit.inBlock, this, if_false]; exact h a w hk hs
theorem VQ_false {K : Prop} (h : False) : K := h.elim

/-- What a round owes. -/
def Rnd (C : Cx) {X : Type} (L' : X → Fr) (H' : X → Hp) (I : X → Prop) (μ : X → Nat) (x : X) : Act → World → Prop := fun a w => ∃ x', I x' ∧ μ x' < μ x ∧ Knows C.N a (L' x') ∧ St C.G C.w₀ (H' x') w
/-- A loop, by an invariant over states 'x', with a measure. -/
theorem VC_loop {c : Code} {X : Type} (L' : X → Fr) (H' : X → Hp) (I : X → Prop) (μ : X → Nat) (x₀ : X) (h₀ : I x₀) (hL : SubF L (L' x₀)) (hH : ∀ w, St C.G C.w₀ H w → St C.G C.w₀ (H' x₀) w)
    (round : ∀ x, I x → VC C c (Exit.then (Rnd C L' H' I μ x) Q) (L' x) (H' x)) : VC C (.loop c) Q L H := by
  intro a w hk hs b k cs
  have key : ∀ n x, μ x = n → I x → ∀ a w, Knows C.N a (L' x) → St C.G C.w₀ (H' x) w →
      ∃ e a' w', Q e a' w' ∧ Arrives C.P (lone (b.at a (.code c :: .inLoop c :: k)) cs w) b k cs e a' w' := by
    intro n
    induction n using Nat.strongRecOn with
    | _ n ih =>
      intro x hn hI a w hk hs
      obtain ⟨e, a₁, w₁, hq, harr⟩ := round x hI a w hk hs b (.inLoop c :: k) cs
      cases e with
      | normal =>
        obtain ⟨x', hI₁, hlt, hk₁, hs₁⟩ := hq
        obtain ⟨e₂, a₂, w₂, hq₂, harr₂⟩ := ih (μ x') (hn ▸ hlt) x' rfl hI₁ a₁ w₁ hk₁ hs₁
        exact ⟨e₂, a₂, w₂, hq₂, .of_steps (Steps.trans harr (.one step_inLoop)) harr₂⟩
      | exit id => exact ⟨_, a₁, w₁, hq, .pass (x := .inLoop c) rfl (fun _ _ => .inl (by simp)) harr⟩
      | goto l => exact ⟨_, a₁, w₁, hq, .pass (x := .inLoop c) rfl (fun _ _ => .inl (by simp)) harr⟩
      | ret => exact ⟨_, a₁, w₁, hq, .pass (x := .inLoop c) rfl (fun _ _ => .inl (by simp)) harr⟩
      | panic ch => exact ⟨_, a₁, w₁, hq, .pass (x := .inLoop c) rfl (fun _ _ => .inl (by simp)) harr⟩
      | outgrown => exact ⟨_, a₁, w₁, hq, .pass (x := .inLoop c) rfl (fun _ _ => .inl (by simp)) harr⟩
  obtain ⟨e, a', w', hq, harr⟩ := key _ x₀ rfl h₀ a w (hk.sub hL) (hH w hs)
  exact ⟨e, a', w', hq, .of_steps (.one step_loop) harr⟩

/-- The end of a round. -/
theorem VQ_round {X : Type} {L' : X → Fr} {H' : X → Hp} {I : X → Prop} {μ : X → Nat} {x : X} (x' : X) (hI : I x') (hμ : μ x' < μ x) (hL : SubF L (L' x'))
    (hH : ∀ w, St C.G C.w₀ H w → St C.G C.w₀ (H' x') w) : VQ C (Exit.then (Rnd C L' H' I μ x) Q) .normal L H :=
  fun _ w hk hs => ⟨x', hI, hμ, hk.sub hL, hH w hs⟩

theorem VC_weaken {c : Code} (L' : Fr) (H' : Hp) (hL : SubF L L') (hH : ∀ w, St C.G C.w₀ H w → St C.G C.w₀ H' w) (h : VC C c Q L' H') : VC C c Q L H :=
  fun a w hk hs => h a w (hk.sub hL) (hH w hs)
theorem VQ_weaken {e : Exit} (L' : Fr) (H' : Hp) (hL : SubF L L') (hH : ∀ w, St C.G C.w₀ H w → St C.G C.w₀ H' w) (h : VQ C Q e L' H') : VQ C Q e L H :=
  fun a w hk hs => h a w (hk.sub hL) (hH w hs)

/-- What the first part of a cut sequence owes. -/
def Mid (C : Cx) {X : Type} (L' : X → Fr) (H' : X → Hp) (I : X → Prop) : Act → World → Prop := fun a w => ∃ x, I x ∧ Knows C.N a (L' x) ∧ St C.G C.w₀ (H' x) w
/-- A sequence cut: all that the first part leaves is described by states 'x'. -/
theorem VC_cut {c y : Code} {X : Type} (L' : X → Fr) (H' : X → Hp) (I : X → Prop)
    (h₁ : VC C c (Exit.then (Mid C L' H' I) Q) L H) (h₂ : ∀ x, I x → VC C y Q (L' x) (H' x)) : VC C (.seq c y) Q L H :=
  fun a w hk hs => wp_seq (wp_mono (h₁ a w hk hs) (fun e a w hq => by
    cases e with
    | normal => obtain ⟨x, hx, hk, hs⟩ := hq; exact h₂ x hx a w hk hs
    | _ => exact hq))
theorem VQ_cut {X : Type} {L' : X → Fr} {H' : X → Hp} {I : X → Prop} (x : X) (hI : I x) (hL : SubF L (L' x)) (hH : ∀ w, St C.G C.w₀ H w → St C.G C.w₀ (H' x) w) :
    VQ C (Exit.then (Mid C L' H' I) Q) .normal L H := fun _ w hk hs => ⟨x, hI, hk.sub hL, hH w hs⟩

/-- A loop, so many rounds written out. -/
def VR (C : Cx) (c : Code) (Q : Exit → Act → World → Prop) (n : Nat) (L : Fr) (H : Hp) : Prop := ∀ a w, Knows C.N a L → St C.G C.w₀ H w → Code.rounds C.P c Q n a w
theorem VC_unroll (n : Nat) {c : Code} (h : VR C c Q n L H) : VC C (.loop c) Q L H := fun a w hk hs => wp_loop_rounds n (h a w hk hs)
theorem VR_round {n : Nat} {c : Code} (h : VC C c (Exit.then (Code.rounds C.P c Q n) Q) L H) : VR C c Q (n + 1) L H := fun a w hk hs => h a w hk hs
theorem VQ_rounds {n : Nat} {c : Code} (h : VR C c Q n L H) : VQ C (Exit.then (Code.rounds C.P c Q n) Q) .normal L H := fun a w hk hs => h a w hk hs

/-! ### Operations -/
/-- What an operation does that leaves the world alone, or calls what only makes memory. -/
def Quiet (P : Program) (w : World) (v : Value) : Result Next → Prop
  | .ok (.value u) w' => w' = w ∧ u = v
  | .ok .skip w' => w' = w ∧ v = undef
  | .ok (.enter f args) w' => w' = w ∧ Calls P f args w (fun e w'' => e = .returned v ∧ Grow w w'')
  | _ => False

def OpN (C : Cx) (o : Oper) (L : Fr) (H : Hp) (v : Value) : Prop := ∀ a w, Knows C.N a L → St C.G C.w₀ H w → Quiet C.P w v ((execOp a.eval o).run C.P w)

/-- What an operation does, whatever it is: its value and the world behind it. -/
def Eff (P : Program) (next : Value → World → Prop) : Result Next → Prop
  | .ok (.value v) w' => next v w'
  | .ok .skip w' => next undef w'
  | .ok (.enter f args) w' => Calls P f args w' (fun e w'' => ∃ v, e = .returned v ∧ next v w'')
  | _ => False
theorem Eff.mono {P : Program} {K K' : Value → World → Prop} {r : Result Next} (h : Eff P K r) (hK : ∀ v w, K v w → K' v w) : Eff P K' r := by
  cases r with
  | ok n w' =>
    cases n <;> simp only [Eff] at h ⊢ <;> first
      | exact hK _ _ h
      | exact h.mono fun e w'' ⟨v, he, hv⟩ => ⟨v, he, hK _ _ hv⟩
  | halt x w' => simp only [Eff] at h
theorem Eff.upon {P : Program} {o : Oper} {a : Act} {K : Value → World → Prop} {K' : Act → World → Prop} {Q : Exit → Act → World → Prop} {r : Result Next} (h : Eff P K r) (hK : ∀ v w, K v w → K' (a.put o.dst v) w) : o.upon P a K' Q r := by
  cases r with
  | ok n w' =>
    cases n <;> simp only [Eff] at h <;> simp only [Oper.upon]
    case value v => exact hK _ _ h
    case skip => exact hK _ _ h
    case enter f args => exact h.mono fun e w'' ⟨v, he, hv⟩ => by subst he; exact hK _ _ hv
  | halt x w' => simp only [Eff] at h
theorem Quiet.eff {P : Program} {w : World} {v : Value} {r : Result Next} (h : Quiet P w v r) : Eff P (fun u w' => u = v ∧ Grow w w') r := by
  cases r with
  | ok n w' =>
    cases n <;> simp only [Quiet] at h <;> simp only [Eff]
    case value u => obtain ⟨rfl, rfl⟩ := h; exact ⟨rfl, Keep.refl _ _⟩
    case skip => obtain ⟨rfl, rfl⟩ := h; exact ⟨rfl, Keep.refl _ _⟩
    case enter f args => obtain ⟨rfl, hc⟩ := h; exact hc.mono fun e w'' ⟨he, hg⟩ => ⟨v, he, rfl, hg⟩
  | halt x w' => simp only [Quiet] at h

def OpE (C : Cx) (o : Oper) (L : Fr) (H : Hp) (post : Value → Hp → Prop) : Prop := ∀ a w, Knows C.N a L → St C.G C.w₀ H w →
  Eff C.P (fun v w' => ∃ H', post v H' ∧ St C.G C.w₀ H' w') ((execOp a.eval o).run C.P w)

theorem OpN.toE {C : Cx} {o : Oper} {v : Value} (h : OpN C o L H v) : OpE C o L H (fun u H' => u = v ∧ H' = H) := fun a w hk hs =>
  (h a w hk hs).eff.mono fun _ _ ⟨hu, hg⟩ => ⟨H, ⟨hu, rfl⟩, hs.grow hg⟩

def putF : Option Tmp → Value → Fr → Fr
  | some d, v, L => (d, v) :: L
  | none, _, L => L
def okD (N : Nat) : Option Tmp → Bool
  | some d => Nat.blt d N
  | none => true
theorem Knows.putF {N : Nat} {a : Act} {d : Option Tmp} {v : Value} (h : Knows N a L) (hd : okD N d = true) : Knows N (a.put d v) (Sp.putF d v L) := by
  cases d with
  | none => exact h
  | some d => exact h.put hd

/-- Is the guard met, by what the frame says? -/
def gdB (ops : Array Oper) (L : Fr) : Option (Nat × Bool) → Bool
  | none => true
  | some (j, want) => match (ops[j]?).bind (·.dst) with
    | some t => match look t L with
      | some (.bool b) => b == want
      | _ => false
    | none => false
/-- Is it known not to be met? -/
def gdN (ops : Array Oper) (L : Fr) : Option (Nat × Bool) → Bool
  | none => false
  | some (j, want) => match (ops[j]?).bind (·.dst) with
    | some t => match look t L with
      | some (.bool b) => b != want
      | _ => false
    | none => false
theorem Knows.wanted {N : Nat} {a : Act} {dst : Option Tmp} {op : Op} {ty : TypeId} {pos : String} {aft : Array Edge} {gu : Option (Nat × Bool)} (hk : Knows N a L) (hg : gdB ops L gu = true) : Region.wanted ⟨dst, op, ty, pos, aft, gu⟩ (yielded ops a.tmps) = true := by
  cases gu with
  | none => rfl
  | some g =>
    obtain ⟨j, want⟩ := g
    unfold gdB at hg
    simp only at hg
    split at hg
    · rename_i t ht
      split at hg
      · rename_i b hb
        have hy : yielded ops a.tmps j = some b := by
          unfold yielded
          rw [ht]
          simp only [Option.bind_some, hk.tmps _ _ hb]
        simp only [Region.wanted, hy]
        exact hg
      · cases hg
    · cases hg
theorem Knows.unwanted {N : Nat} {a : Act} {dst : Option Tmp} {op : Op} {ty : TypeId} {pos : String} {aft : Array Edge} {gu : Option (Nat × Bool)} (hk : Knows N a L) (hg : gdN ops L gu = true) : Region.wanted ⟨dst, op, ty, pos, aft, gu⟩ (yielded ops a.tmps) = false := by
  cases gu with
  | none => cases hg
  | some g =>
    obtain ⟨j, want⟩ := g
    unfold gdN at hg
    simp only at hg
    split at hg
    · rename_i t ht
      split at hg
      · rename_i b hb
        have hy : yielded ops a.tmps j = some b := by
          unfold yielded
          rw [ht]
          simp only [Option.bind_some, hk.tmps _ _ hb]
        simp only [Region.wanted, hy]
        cases b <;> cases want <;> first | rfl | (exact absurd hg (by decide))
      · cases hg
    · cases hg
theorem Knows.again {N : Nat} {a : Act} {t : Tmp} {v : Value} (hk : Knows N a L) (hb : look t L = some v) : Knows N a ((t, v) :: L) := ⟨hk.defers, hk.size, fun n u hn => by
  unfold look at hn
  split at hn
  · rename_i heq
    have e : n = t := Nat.eq_of_beq_eq_true heq
    subst e
    cases hn
    exact hk.tmps _ _ hb
  · exact hk.tmps _ _ hn⟩

section
variable {dst : Option Tmp} {d : Tmp} {op : Op} {ty : TypeId} {pos : String} {aft : Array Edge} {gu : Option (Nat × Bool)} {rest : List Oper}
theorem VL_E {post : Value → Hp → Prop} (h : OpE C ⟨dst, op, ty, pos, aft, gu⟩ L H post) (hg : gdB ops L gu = true) (hd : okD C.N dst = true)
    (k : ∀ v H', post v H' → VL C ops Q rest (putF dst v L) H') : VL C ops Q (⟨dst, op, ty, pos, aft, gu⟩ :: rest) L H := fun a w hk hs => by
  unfold wpList
  rw [if_pos (hk.wanted hg)]
  exact .inl ((h a w hk hs).upon fun v w' ⟨H', hp, hs'⟩ => k v H' hp _ _ (hk.putF hd) hs')

theorem VL_N {v : Value} (h : OpN C ⟨some d, op, ty, pos, aft, gu⟩ L H v) (hg : gdB ops L gu = true) (hd : Nat.blt d C.N = true)
    (k : VL C ops Q rest ((d, v) :: L) H) : VL C ops Q (⟨some d, op, ty, pos, aft, gu⟩ :: rest) L H :=
  VL_E h.toE hg hd fun _ _ ⟨hv, hH⟩ => by subst hv; subst hH; exact k

theorem VL_nil (h : VQ C Q .normal L H) : VL C ops Q [] L H := fun a w hk hs => wpList_nil (h a w hk hs)

theorem VL_pass (hg : gdN ops L gu = true) (hd : Nat.blt d C.N = true) (k : VL C ops Q rest ((d, undef) :: L) H) : VL C ops Q (⟨some d, op, ty, pos, aft, gu⟩ :: rest) L H := fun a w hk hs => by
  unfold wpList
  rw [if_neg (by rw [hk.unwanted hg]; exact Bool.false_ne_true)]
  exact k _ w (hk.put hd) hs

/-- A Bool in a slot: both ways. -/
theorem VL_bool (t : Tmp) {l : List Oper} {b : Bool} (hb : look t L = some (.bool b)) (ht : b = true → VL C ops Q l ((t, .bool true) :: L) H) (hf : b = false → VL C ops Q l ((t, .bool false) :: L) H) : VL C ops Q l L H := fun a w hk hs => by
  cases b
  · exact hf rfl a w (hk.again hb) hs
  · exact ht rfl a w (hk.again hb) hs
end

/-! ### Entering and leaving a function -/
def mkFr : Nat → List Value → Fr
  | _, [] => []
  | i, v :: r => (i, v) :: mkFr (i + 1) r
theorem mkFr_look (vs : List Value) : ∀ (i n : Nat) (v : Value), look n (mkFr i vs) = some v → ∃ j, n = i + j ∧ vs[j]? = some v := by
  induction vs with
  | nil => intro i n v h; cases h
  | cons u r ih =>
    intro i n v h
    unfold mkFr look at h
    split at h
    · rename_i heq
      have e : n = i := Nat.eq_of_beq_eq_true heq
      exact ⟨0, by omega, by simpa using h⟩
    · obtain ⟨j, hj, hv⟩ := ih _ _ _ h
      exact ⟨j + 1, by omega, by simpa using hv⟩

theorem V_enter {P : Program} {f : FuncId} {fn : Func} {c : Code} {args : List Value} {w : World} {R : Ending → World → Prop} (hf : P.funcs[f]? = some fn) (hb : fn.body = some c) (G : Nat → Prop) (H : Hp)
    (hs : St G w H w) (h : VC ⟨P, fn.ntmps, G, w⟩ c (bodyPost P fn R) (mkFr 0 args) H) : Calls P f args.toArray w R := by
  refine calls_of_wp hf hb (h _ w ⟨rfl, ?_, fun n v hn => ?_⟩ hs)
  · simp; omega
  · obtain ⟨j, hj, hv⟩ := mkFr_look _ _ _ _ hn
    have hlt : j < args.length := (List.getElem?_eq_some_iff.1 hv).1
    rw [show n = j by omega]
    simp only [Array.getElem?_append]
    rw [if_pos (by simpa using hlt)]
    simpa using hv

/-- A result variable's value. -/
def resF (tmps : Array Value) : ResultVar → Sem Value
  | .tmp t => Pure.pure (tmps.getD t undef)
  | .cell p t => do loadVar t (← asAddr (tmps.getD p undef))
def ResV (C : Cx) (L : Fr) (H : Hp) (r : ResultVar) (v : Value) : Prop := ∀ a w, Knows C.N a L → St C.G C.w₀ H w → (resF a.tmps r).run C.P w = .ok v w
theorem ResV_tmp {t : Tmp} {v : Value} (h : look t L = some v) : ResV C L H (.tmp t) v := fun a w hk _ => by
  have h1 : a.tmps.getD t undef = v := hk.eval (x := .tmp t) h
  simp only [resF, h1]
  rfl
theorem results_eq (fn : Func) (tmps : Array Value) : results fn tmps = (do let vs ← fn.results.mapM (resF tmps); Pure.pure (if h : vs.size = 1 then vs[0] else .tuple vs)) := by
  unfold results
  congr 1
theorem run_two {P : Program} {w : World} {tmps : Array Value} {fn : Func} {r s : ResultVar} {v u : Value} (hr : fn.results = #[r, s]) (h1 : (resF tmps r).run P w = .ok v w) (h2 : (resF tmps s).run P w = .ok u w) :
    (results fn tmps).run P w = .ok (.tuple #[v, u]) w := by
  rw [results_eq, hr]
  simp [h1, h2]
theorem run_three {P : Program} {w : World} {tmps : Array Value} {fn : Func} {r s t : ResultVar} {v u x : Value} (hr : fn.results = #[r, s, t]) (h1 : (resF tmps r).run P w = .ok v w) (h2 : (resF tmps s).run P w = .ok u w) (h3 : (resF tmps t).run P w = .ok x w) :
    (results fn tmps).run P w = .ok (.tuple #[v, u, x]) w := by
  rw [results_eq, hr]
  simp [h1, h2, h3]
theorem run_one {P : Program} {w : World} {tmps : Array Value} {fn : Func} {r : ResultVar} {v : Value} (hr : fn.results = #[r]) (h1 : (resF tmps r).run P w = .ok v w) : (results fn tmps).run P w = .ok v w := by
  rw [results_eq, hr]
  simp [h1]

theorem VQ_ret0 {fn : Func} {R : Ending → World → Prop} (hr : fn.results = #[]) (h : ∀ w, St C.G C.w₀ H w → R (.returned (.tuple #[])) w) : VQ C (bodyPost C.P fn R) .ret L H := fun _ w hk hs =>
  ⟨hk.defers, _, results_none hr _ _ _, h w hs⟩
theorem VQ_end0 {fn : Func} {R : Ending → World → Prop} (hr : fn.results = #[]) (h : ∀ w, St C.G C.w₀ H w → R (.returned (.tuple #[])) w) : VQ C (bodyPost C.P fn R) .normal L H := fun _ w hk hs =>
  ⟨hk.defers, _, results_none hr _ _ _, h w hs⟩
theorem VQ_ret1 {fn : Func} {R : Ending → World → Prop} {r : ResultVar} {v : Value} (hr : fn.results = #[r]) (hv : ResV C L H r v) (h : ∀ w, St C.G C.w₀ H w → R (.returned v) w) : VQ C (bodyPost C.P fn R) .ret L H := fun a w hk hs =>
  ⟨hk.defers, v, run_one hr (hv a w hk hs), h w hs⟩
theorem VQ_ret2 {fn : Func} {R : Ending → World → Prop} {r s : ResultVar} {v u : Value} (hr : fn.results = #[r, s]) (hv : ResV C L H r v) (hu : ResV C L H s u) (h : ∀ w, St C.G C.w₀ H w → R (.returned (.tuple #[v, u])) w) :
    VQ C (bodyPost C.P fn R) .ret L H := fun a w hk hs => ⟨hk.defers, _, run_two hr (hv a w hk hs) (hu a w hk hs), h w hs⟩
theorem VQ_ret3 {fn : Func} {R : Ending → World → Prop} {r s t : ResultVar} {v u x : Value} (hr : fn.results = #[r, s, t]) (hv : ResV C L H r v) (hu : ResV C L H s u) (hx : ResV C L H t x) (h : ∀ w, St C.G C.w₀ H w → R (.returned (.tuple #[v, u, x])) w) :
    VQ C (bodyPost C.P fn R) .ret L H := fun a w hk hs => ⟨hk.defers, _, run_three hr (hv a w hk hs) (hu a w hk hs) (hx a w hk hs), h w hs⟩

end Go.Sp

/- More of the calculus: regions that draw, over rows; nil tests; slice expressions; elements of array values. -/
import Derived.Test.YtlopmgjdeinpbaaGreatDoorRow
namespace Go.Sp
open Go Go.RowKit

instance (priority := high) NatI.lit' {k : Nat} : NatI (no_index (OfNat.ofNat k : Int)) (OfNat.ofNat k) := ⟨rfl⟩
attribute [instance 20000] NatI.cast
attribute [instance 300] BV.cast
instance (priority := 200) BV.lit' {n k : Nat} : BV n (no_index (OfNat.ofNat k : Int)) (BitVec.ofNat n (OfNat.ofNat k)) := ⟨BitVec.ofInt_natCast n k⟩

/-- The address so many cells on, where there is something. -/
def adv (o : Option Addr) (c k s : Nat) : Option Addr := if c = k then o else o.map (·.add (k * s))
theorem cat_drop {α : Type} {f : α → List Value} {s : Nat} [h : Enc f s] (l : List α) (k : Nat) : cat f (l.drop k) = (cat f l).drop (k * s) := by
  induction l generalizing k with
  | nil => simp [cat]
  | cons a r ih =>
    cases k with
    | zero => simp
    | succ k => rw [List.drop_succ_cons, ih, cat_cons, Nat.add_mul, Nat.one_mul, Nat.add_comm (k * s), ← List.drop_drop, List.drop_left' (h.len a)]
theorem cat_take {α : Type} {f : α → List Value} {s : Nat} [h : Enc f s] (l : List α) (k : Nat) : cat f (l.take k) = (cat f l).take (k * s) := by
  induction l generalizing k with
  | nil => simp [cat]
  | cons a r ih =>
    cases k with
    | zero => simp [cat]
    | succ k =>
      rw [List.take_succ_cons, cat_cons, cat_cons, ih, Nat.add_mul, Nat.one_mul, Nat.add_comm (k * s)]
      rw [List.take_append, h.len, Nat.add_sub_cancel_left, List.take_of_length_le (l := f a) (by rw [h.len]; omega)]
theorem Sees.part {α : Type} {f : α → List Value} {s : Nat} [h : Enc f s] {w : World} {o : Option Addr} {l : List α} {c k m : Nat} (hs : Sees w o (cat f l)) (hk : k < c) : Sees w (adv o c k s) (cat f ((l.drop k).take m)) := by
  rcases hs with h0 | ⟨g, off, cur, T, fz, h1, h2, h3⟩
  · left
    rw [cat_take, cat_drop, h0]
    simp
  · refine .inr ⟨g, off + k * s, cur, T, fz, ?_, h2, fun j v hj => ?_⟩
    · unfold adv
      rw [if_neg (by omega), h1]
      simp [addr_add]
    · rw [cat_take, cat_drop, List.getElem?_take] at hj
      split at hj
      · rw [List.getElem?_drop] at hj
        rw [Nat.add_assoc]
        exact h3 _ _ hj
      · cases hj
theorem RowAt.cap {α : Type} {H H' : Hp} {o : Option Addr} {c e s : Nat} {f : α → List Value} {l : List α} (h : RowAt H o c e s f l H') {G : Nat → Prop} {w₀ w : World} (hs : St G w₀ H w) : l.length ≤ c := by
  rcases (h.st hs).2 with ⟨hv, hn⟩ | ⟨g, cap, cur, hv, _, _, hn, _⟩
  · omega
  · injection hv with _ _ hc; omega

/-! ### What a region may turn, left out of what stands still -/
class DropR (H : Hp) (o : Option Addr) (H' : outParam Hp) : Prop where sub : H'.Sublist H
instance DropR.here {α : Type} {q : Bool} {o : Option Addr} {c e s : Nat} {f : α → List Value} {l : List α} {H : Hp} : DropR (⟨q, row o c e s f l⟩ :: H) o H := ⟨List.sublist_cons_self _ _⟩
instance (priority := low) DropR.there {e : HE} {o : Option Addr} {H H' : Hp} [h : DropR H o H'] : DropR (e :: H) o (e :: H') := ⟨h.sub.cons_cons e⟩
instance (priority := low) DropR.nil {o : Option Addr} : DropR [] o [] := ⟨List.Sublist.refl _⟩
class DropV (H : Hp) (v : Value) (H' : outParam Hp) : Prop where sub : H'.Sublist H
instance {H H' : Hp} {b o : Nat} [h : Drop H b H'] : DropV H (ptr b o) H' := ⟨h.sub⟩
instance {H H' : Hp} {o : Option Addr} {n c : Nat} [h : DropR H o H'] : DropV H (.slice o n c) H' := ⟨h.sub⟩

theorem St.own1 {w : World} {c : Chunk} (h : c.prop w) : St c.foot w [own c] w := by
  refine st_iff.2 ⟨Keep.refl _ _, fun e he => ?_, fun e he _ b hb => ?_, List.pairwise_singleton _ _⟩
  · simp only [List.mem_singleton] at he; subst he; exact h
  · simp only [List.mem_singleton] at he; subst he; exact .inr hb
section
variable {C : Cx} {L : Fr} {H Hs H1 H2 : Hp} {Q : Exit → Act → World → Prop}
/-- What a state says for good. -/
theorem VC_fact {c : Code} {p : Prop} (hp : ∀ w, St C.G C.w₀ H w → p) (h : p → VC C c Q L H) : VC C c Q L H := fun a w hk hs => h (hp w hs) a w hk hs
/-- A condition whose value is known. -/
def VCB (C : Cx) (v : Value) (x y : Code) (Q : Exit → Act → World → Prop) (L : Fr) (H : Hp) : Prop := ∀ c, ev L c = some v → VC C (.cond c x y) Q L H
theorem VC_condV {c : Operand} {x y : Code} {v : Value} (hc : ev L c = some v) (h : VCB C v x y Q L H) : VC C (.cond c x y) Q L H := h c hc
theorem VCB_true {x y : Code} (h : VC C x Q L H) : VCB C (.bool true) x y Q L H := fun _ hc => VC_true hc h
theorem VCB_false {x y : Code} (h : VC C y Q L H) : VCB C (.bool false) x y Q L H := fun _ hc => VC_false hc h
theorem VCB_bT {x y : Code} {b : Bool} (hb : b = true) (h : VC C x Q L H) : VCB C (.bool b) x y Q L H := fun _ hc => VC_true (by rw [hc, hb]) h
theorem VCB_bF {x y : Code} {b : Bool} (hb : b = false) (h : VC C y Q L H) : VCB C (.bool b) x y Q L H := fun _ hc => VC_false (by rw [hc, hb]) h
theorem VCB_T {x y : Code} {p : Prop} [Decidable p] (hp : p) (h : VC C x Q L H) : VCB C (.bool (decide p)) x y Q L H := fun _ hc => VC_condT hc hp h
theorem VCB_F {x y : Code} {p : Prop} [Decidable p] (hp : ¬ p) (h : VC C y Q L H) : VCB C (.bool (decide p)) x y Q L H := fun _ hc => VC_condF hc hp h
theorem VCB_nT {x y : Code} {p : Prop} [Decidable p] (hp : ¬ p) (h : VC C x Q L H) : VCB C (.bool (!decide p)) x y Q L H := fun _ hc => VC_true (by rw [hc, decide_eq_false hp]; rfl) h
theorem VCB_nF {x y : Code} {p : Prop} [Decidable p] (hp : p) (h : VC C y Q L H) : VCB C (.bool (!decide p)) x y Q L H := fun _ hc => VC_false (by rw [hc, decide_eq_true hp]; rfl) h
theorem VC_drawV1 {id : Nat} {l : List Oper} {v : Value} (x : Operand) (ord : List (Nat × Kd)) (hm : C.P.follows .mixedOrders = true) (hn : Region.noSelect l.toArray = true) (hlen : ord.length = l.length)
    (hc : chkO l.toArray (fun i => ord.any fun p => Nat.beq p.1 i && p.2.isEff) ord (Array.replicate l.toArray.size false) = true) (_hx : ev L x = some v) [hd : DropV H v Hs] (h : VD C l.toArray Q Hs ord L H) : VC C (.region id l.toArray true) Q L H :=
  VC_draw ord Hs hm hn hlen hc (fun _ h => h.sublist hd.sub) h
theorem VC_drawV2 {id : Nat} {l : List Oper} {v v' : Value} (x x' : Operand) (ord : List (Nat × Kd)) (hm : C.P.follows .mixedOrders = true) (hn : Region.noSelect l.toArray = true) (hlen : ord.length = l.length)
    (hc : chkO l.toArray (fun i => ord.any fun p => Nat.beq p.1 i && p.2.isEff) ord (Array.replicate l.toArray.size false) = true) (_hx : ev L x = some v) (_hx' : ev L x' = some v') [hd : DropV H v H1] [hd' : DropV H1 v' Hs] (h : VD C l.toArray Q Hs ord L H) : VC C (.region id l.toArray true) Q L H :=
  VC_draw ord Hs hm hn hlen hc (fun _ h => h.sublist (hd'.sub.trans hd.sub)) h
theorem VC_drawV3 {id : Nat} {l : List Oper} {v v' v'' : Value} (x x' x'' : Operand) (ord : List (Nat × Kd)) (hm : C.P.follows .mixedOrders = true) (hn : Region.noSelect l.toArray = true) (hlen : ord.length = l.length)
    (hc : chkO l.toArray (fun i => ord.any fun p => Nat.beq p.1 i && p.2.isEff) ord (Array.replicate l.toArray.size false) = true) (_hx : ev L x = some v) (_hx' : ev L x' = some v') (_hx'' : ev L x'' = some v'') [hd : DropV H v H1] [hd' : DropV H1 v' H2] [hd'' : DropV H2 v'' Hs] (h : VD C l.toArray Q Hs ord L H) : VC C (.region id l.toArray true) Q L H :=
  VC_draw ord Hs hm hn hlen hc (fun _ h => h.sublist (hd''.sub.trans (hd'.sub.trans hd.sub))) h
end

section
variable {C : Cx} {L : Fr} {H : Hp} {dst : Option Tmp} {ty : TypeId} {pos : String} {aft : Array Edge} {gd' : Option (Nat × Bool)} {t yt e : TypeId} {x y : Operand}
/-- A call of a pure function that reads a slice. -/
theorem OpN_callS {α : Type} {f : α → List Value} {l : List α} {o : Option Addr} {n c : Nat} {fn : FuncId} {z : Operand} {ats : Array TypeId} {v : Value} [CF C.P fn] (hv : ev L z = some (.slice o n c)) [hr : Rd H o f l]
    (h : ∀ w, Sees w o (cat f l) → Calls C.P fn #[.slice o n c] w (fun e w' => e = .returned v ∧ Grow w w')) : OpN C ⟨dst, .call ⟨.value (.func fn), #[z], ats⟩, ty, pos, aft, gd'⟩ L H v :=
  OpN_call (xs := [z]) (vs := [.slice o n c]) (by simp only [evs, hv]) fun w hs => h w (hr.get hs)
/-! ### Elements of an array value -/
theorem OpN_indexArr {α : Type} [Inhabited α] {q : IntKind} {m : Int} {k n : Nat} {f : α → Value} {l : List α} [hu : TU C.P t (.array n e)] [h1 : T1 C.P e] (hx : ev L x = some (.agg (encL f l))) (hy : ev L y = some (.int q m)) [hm : NatI m k] [hl : Len l n] (hk : k < n) :
    OpN C ⟨dst, .index t x y, ty, pos, aft, gd'⟩ L H (f (gd l k)) := OpN_of fun a w hkn _ => by
  have hm := hm.eq
  subst hm
  have h2 : (0 : Int) ≤ (k : Int) ∧ (k : Int) < (n : Int) := by omega
  simp only [execOp, hkn.eval hx, hkn.eval hy, Instr.index, asIntOf, Sem.run_bind, Sem.run_pure, Result.andThen_ok, run_under hu.eq, h2, and_self, if_true, h1.size, part, h1.agg, Bool.false_eq_true, if_false, Int.toNat_natCast, Nat.mul_one, encL_get f l k (by rw [hl.eq]; exact hk)]
/-- An array built of all its parts, of one cell each. -/
theorem OpN_buildArr {α : Type} {g : α → Value} {n : Nat} {ps : List (Nat × Operand)} (l : List α) {c : Array Value} [hu : TU C.P t (.array n e)] [hs : TS C.P e 1] [hz : TZ C.P t (.agg c)] [hc : Siz c n] (hv : evs L (ps.map (·.2)) = some (l.map g)) (hi : ps.map (·.1) = List.range' 0 l.length) (hn : l.length = n)
    (ho : (l.map g).all Value.oneCell' = true) : OpN C ⟨dst, .build t ps.toArray, ty, pos, aft, gd'⟩ L H (.agg (encL g l)) :=
  OpN_build hv fun w => by
    simp only [Instr.build, Sem.run_bind, hz.eq, Result.andThen_ok, run_under hu.eq, hs.eq, hi]
    have hf := fill_cells (l.map g) 0 c (fun v hv => List.all_eq_true.1 ho v hv) (by have := hc.eq; simp; omega)
    rw [splice_all _ _ (by have := hc.eq; simp; omega), List.length_map] at hf
    simp only [Nat.mul_one] at hf
    simp only [Value.cells, Nat.mul_one, hf, Sem.run_pure]
    rfl
/-! ### Tests of one kind -/
theorem run_eqW {op : BinOp} (ho : op = .eql ∨ op = .neq) {P : Program} {w : World} {u v : Value} {b : Bool} (hg : (eqGuard op t x y u v).run P w = .ok () w) (hn : ∀ k m, u ≠ .int k m) (hn2 : ∀ k m, u ≠ .float k m) (hn3 : ∀ k m n, u ≠ .complex k m n) (hn4 : ∀ k, u ≠ .string k)
    (h : (Op.equal t u v).run P w = .ok b w) : (do eqGuard op t x y u v; binOp op t u v : Sem Value).run P w = .ok (.bool (if op = .eql then b else !b)) w := by
  rw [Sem.run_bind, hg, Result.andThen_ok]
  rcases ho with rfl | rfl
  · cases u <;> first | (exact absurd rfl (hn _ _)) | (exact absurd rfl (hn2 _ _)) | (exact absurd rfl (hn3 _ _ _)) | (exact absurd rfl (hn4 _)) | (simp [binOp, h])
  · cases u <;> first | (exact absurd rfl (hn _ _)) | (exact absurd rfl (hn2 _ _)) | (exact absurd rfl (hn3 _ _ _)) | (exact absurd rfl (hn4 _)) | (simp [binOp, h])
theorem OpN_eqW {op : BinOp} (ho : op = .eql ∨ op = .neq) {u v : Value} {b : Bool} (hx : ev L x = some u) (hy : ev L y = some v) (hg : ∀ w, (eqGuard op t x y u v).run C.P w = .ok () w) (hn : ∀ k m, u ≠ .int k m) (hn2 : ∀ k m, u ≠ .float k m) (hn3 : ∀ k m n, u ≠ .complex k m n) (hn4 : ∀ k, u ≠ .string k)
    (h : ∀ w, (Op.equal t u v).run C.P w = .ok b w) : OpN C ⟨dst, .binOp op t x y yt, ty, pos, aft, gd'⟩ L H (.bool (if op = .eql then b else !b)) := OpN_of fun a w hk _ => by
  simp only [execOp, hk.eval hx, hk.eval hy]
  rw [Sem.run_bind, run_eqW ho (hg w) hn hn2 hn3 hn4 (h w)]
  rfl
theorem guard_pass {op : BinOp} {u v : Value} (hu : ∀ c, u ≠ .agg c) (hi : u ≠ .nilIface) {P : Program} (w : World) : (eqGuard op t x y u v).run P w = .ok () w := by
  unfold eqGuard
  cases op <;> first | rfl | (cases u <;> first | rfl | (exact absurd rfl (hu _)) | (exact absurd rfl hi))
theorem run_eq_ptr {P : Program} {w : World} (d : Nat) {b : Option Addr} (hu : P.underlying t = some (.pointer e)) : (Op.equalIn (d + 1) t (.pointer b) (.pointer none)).run P w = .ok b.isNone w := by
  unfold Op.equalIn
  cases b <;> simp [run_under hu]
theorem run_eq_sl {P : Program} {w : World} (d : Nat) {b : Option Addr} {n c : Nat} (hu : P.underlying t = some (.slice e)) : (Op.equalIn (d + 1) t (.slice b n c) (.slice none 0 0)).run P w = .ok b.isNone w := by
  unfold Op.equalIn
  cases b <;> simp [run_under hu]
theorem run_eq_bool {P : Program} {w : World} (d : Nat) {a b : Bool} (hu : P.underlying t = some .bool) : (Op.equalIn (d + 1) t (.bool a) (.bool b)).run P w = .ok (a == b) w := by
  unfold Op.equalIn
  simp [run_under hu]
theorem OpN_eqNil {b : Option Addr} [hu : TU C.P t (.pointer e)] (hx : ev L x = some (.pointer b)) (hy : ev L y = some (.pointer none)) : OpN C ⟨dst, .binOp .eql t x y yt, ty, pos, aft, gd'⟩ L H (.bool b.isNone) :=
  OpN_eqW (.inl rfl) hx hy (guard_pass (fun _ h => by cases h) (fun h => by cases h)) (fun _ _ h => by cases h) (fun _ _ h => by cases h) (fun _ _ _ h => by cases h) (fun _ h => by cases h) fun _ => run_eq_ptr 9999 hu.eq
theorem OpN_neNil {b : Option Addr} [hu : TU C.P t (.pointer e)] (hx : ev L x = some (.pointer b)) (hy : ev L y = some (.pointer none)) : OpN C ⟨dst, .binOp .neq t x y yt, ty, pos, aft, gd'⟩ L H (.bool (!b.isNone)) :=
  OpN_eqW (.inr rfl) hx hy (guard_pass (fun _ h => by cases h) (fun h => by cases h)) (fun _ _ h => by cases h) (fun _ _ h => by cases h) (fun _ _ _ h => by cases h) (fun _ h => by cases h) fun _ => run_eq_ptr 9999 hu.eq
theorem OpN_eqNilS {o : Option Addr} {n c : Nat} [hu : TU C.P t (.slice e)] (hx : ev L x = some (.slice o n c)) (hy : ev L y = some (.slice none 0 0)) : OpN C ⟨dst, .binOp .eql t x y yt, ty, pos, aft, gd'⟩ L H (.bool o.isNone) :=
  OpN_eqW (.inl rfl) hx hy (guard_pass (fun _ h => by cases h) (fun h => by cases h)) (fun _ _ h => by cases h) (fun _ _ h => by cases h) (fun _ _ _ h => by cases h) (fun _ h => by cases h) fun _ => run_eq_sl 9999 hu.eq
theorem OpN_eqB {a b : Bool} [hu : TU C.P t .bool] (hx : ev L x = some (.bool a)) (hy : ev L y = some (.bool b)) : OpN C ⟨dst, .binOp .eql t x y yt, ty, pos, aft, gd'⟩ L H (.bool (a == b)) :=
  OpN_eqW (.inl rfl) hx hy (guard_pass (fun _ h => by cases h) (fun h => by cases h)) (fun _ _ h => by cases h) (fun _ _ h => by cases h) (fun _ _ _ h => by cases h) (fun _ h => by cases h) fun _ => run_eq_bool 9999 hu.eq
theorem OpN_neB {a b : Bool} [hu : TU C.P t .bool] (hx : ev L x = some (.bool a)) (hy : ev L y = some (.bool b)) : OpN C ⟨dst, .binOp .neq t x y yt, ty, pos, aft, gd'⟩ L H (.bool (!(a == b))) :=
  OpN_eqW (.inr rfl) hx hy (guard_pass (fun _ h => by cases h) (fun h => by cases h)) (fun _ _ h => by cases h) (fun _ _ h => by cases h) (fun _ _ _ h => by cases h) (fun _ h => by cases h) fun _ => run_eq_bool 9999 hu.eq
theorem OpN_neA {k : IntKind} {s n : Nat} {l r : List (BitVec s)} (hk : UK k s) (h : TArr C.P t n k) (hx : ev L x = some (.agg (encL (fun a : BitVec s => Value.int k (a.toNat : Int)) l))) (hy : ev L y = some (.agg (encL (fun a : BitVec s => Value.int k (a.toNat : Int)) r))) (hl : l.length = n) (hr : r.length = n) :
    OpN C ⟨dst, .binOp .neq t x y yt, ty, pos, aft, gd'⟩ L H (.bool (!decide (l = r))) := by
  refine OpN_eqW (b := decide (l = r)) (.inr rfl) hx hy (fun w => ?_) (fun _ _ h => by cases h) (fun _ _ h => by cases h) (fun _ _ _ h => by cases h) (fun _ h => by cases h) fun w => ?_
  · unfold eqGuard
    simp [h.guard]
  · have h0 := run_eql_arr (x := x) (y := y) hk h w l r hl hr
    rw [Sem.run_bind] at h0
    have hg : (eqGuard .eql t x y (.agg (encL (fun a : BitVec s => Value.int k (a.toNat : Int)) l)) (.agg (encL (fun a : BitVec s => Value.int k (a.toNat : Int)) r))).run C.P w = .ok () w := by
      unfold eqGuard
      simp [h.guard]
    rw [hg, Result.andThen_ok] at h0
    simp only [binOp, Sem.run_bind] at h0
    cases hq : (Op.equal t (.agg (encL (fun a : BitVec s => Value.int k (a.toNat : Int)) l)) (.agg (encL (fun a : BitVec s => Value.int k (a.toNat : Int)) r))).run C.P w with
    | ok b w' => rw [hq] at h0; simp at h0; rw [h0.1, h0.2]
    | halt b w' => rw [hq] at h0; cases h0
theorem OpN_ne8 {n : Nat} {l r : List (BitVec 8)} (hx : ev L x = some (.agg (encL u8 l))) (hy : ev L y = some (.agg (encL u8 r))) [h : TArr C.P t n .u8] [hl : Len l n] [hr : Len r n] : OpN C ⟨dst, .binOp .neq t x y yt, ty, pos, aft, gd'⟩ L H (.bool (!decide (l = r))) :=
  OpN_neA (k := .u8) inferInstance h hx hy hl.eq hr.eq
theorem OpN_ne64 {n : Nat} {l r : List (BitVec 64)} (hx : ev L x = some (.agg (encL u64 l))) (hy : ev L y = some (.agg (encL u64 r))) [h : TArr C.P t n .u64] [hl : Len l n] [hr : Len r n] : OpN C ⟨dst, .binOp .neq t x y yt, ty, pos, aft, gd'⟩ L H (.bool (!decide (l = r))) :=
  OpN_neA (k := .u64) inferInstance h hx hy hl.eq hr.eq
/-! ### Slice expressions -/
theorem OpN_sliceAll {b o n s : Nat} [hu : TU C.P t (.array n e)] [hs : TS C.P e s] (hx : ev L x = some (ptr b o)) : OpN C ⟨dst, .slice t x none none none, ty, pos, aft, gd'⟩ L H (slv b o n n) :=
  OpN_of fun a w hk _ => by
    simp only [execOp, hk.eval hx, Option.map_none, Instr.sliceAt, Sem.run_bind, run_under hu.eq, Result.andThen_ok, Instr.sureAddr, Instr.sliceBounds, Sem.run_pure, hs.eq, Nat.zero_mul, Nat.sub_zero, addr_add, Nat.add_zero]
    congr 3
    split <;> rfl
theorem run_sbound {P : Program} {w : World} {q : IntKind} {m : Int} {k y : Nat} {code : BoundsCode} (hm : m = (k : Int)) (hk : k ≤ y) : (Instr.sliceBound (.int q m) y code).run P w = .ok k w := by
  subst hm
  have h1 : (0 : Int) ≤ (k : Int) ∧ (k : Int) ≤ (y : Int) := by omega
  simp only [Instr.sliceBound, asIntOf, Sem.run_bind, Sem.run_pure, Result.andThen_ok, h1, and_self, if_true, Int.toNat_natCast]
theorem OpN_sliceHi {o : Option Addr} {n c s k : Nat} {q : IntKind} {m : Int} [hu : TU C.P t (.slice e)] [hs : TS C.P e s] (hx : ev L x = some (.slice o n c)) (hy : ev L y = some (.int q m)) [hm : NatI m k] (hk : k ≤ c) : OpN C ⟨dst, .slice t x none (some y) none, ty, pos, aft, gd'⟩ L H (.slice o k c) :=
  OpN_of fun a w hkn _ => by
    simp only [execOp, hkn.eval hx, hkn.eval hy, Option.map_none, Option.map_some, Instr.sliceAt, Sem.run_bind, run_under hu.eq, Result.andThen_ok, Instr.slice, Instr.sliceBounds, Sem.run_pure, run_sbound hm.eq hk, hs.eq, Nat.zero_mul, Nat.sub_zero]
    congr 3
    split
    · rfl
    · cases o <;> simp [addr_add]; rename_i a; cases a; simp [Addr.add]
theorem OpN_sliceLo {o : Option Addr} {n c s k : Nat} {q : IntKind} {m : Int} [hu : TU C.P t (.slice e)] [hs : TS C.P e s] (hx : ev L x = some (.slice o n c)) (hy : ev L y = some (.int q m)) [hm : NatI m k] (hk : k ≤ n) : OpN C ⟨dst, .slice t x (some y) none none, ty, pos, aft, gd'⟩ L H (.slice (adv o c k s) (n - k) (c - k)) :=
  OpN_of fun a w hkn _ => by
    simp only [execOp, hkn.eval hx, hkn.eval hy, Option.map_none, Option.map_some, Instr.sliceAt, Sem.run_bind, run_under hu.eq, Result.andThen_ok, Instr.slice, Instr.sliceBounds, Sem.run_pure, run_sbound hm.eq hk, hs.eq, adv]
theorem OpN_sliceLH {o : Option Addr} {n c s k h : Nat} {q q' : IntKind} {m m' : Int} {z : Operand} [hu : TU C.P t (.slice e)] [hs : TS C.P e s] (hx : ev L x = some (.slice o n c)) (hy : ev L y = some (.int q m)) (hz : ev L z = some (.int q' m')) [hm : NatI m k] [hm' : NatI m' h] (hk : k ≤ h ∧ h ≤ c) :
    OpN C ⟨dst, .slice t x (some y) (some z) none, ty, pos, aft, gd'⟩ L H (.slice (adv o c k s) (h - k) (c - k)) :=
  OpN_of fun a w hkn _ => by
    simp only [execOp, hkn.eval hx, hkn.eval hy, hkn.eval hz, Option.map_none, Option.map_some, Instr.sliceAt, Sem.run_bind, run_under hu.eq, Result.andThen_ok, Instr.slice, Instr.sliceBounds, Sem.run_pure, run_sbound hm.eq hk.1, run_sbound hm'.eq hk.2, hs.eq, adv]
/-- Of an array, from a place on; up to a place. -/
theorem OpN_sliceALo {b o n s k : Nat} {q : IntKind} {m : Int} [hu : TU C.P t (.array n e)] [hs : TS C.P e s] (hx : ev L x = some (ptr b o)) (hy : ev L y = some (.int q m)) [hm : NatI m k] (hk : k < n) : OpN C ⟨dst, .slice t x (some y) none none, ty, pos, aft, gd'⟩ L H (slv b (o + k * s) (n - k) (n - k)) :=
  OpN_of fun a w hkn _ => by
    simp only [execOp, hkn.eval hx, hkn.eval hy, Option.map_none, Option.map_some, Instr.sliceAt, Sem.run_bind, run_under hu.eq, Result.andThen_ok, Instr.sureAddr, Instr.sliceBounds, Sem.run_pure, run_sbound hm.eq (Nat.le_of_lt hk), hs.eq, addr_add]
    rw [if_neg (by omega)]
theorem OpN_sliceAHi {b o n s k : Nat} {q : IntKind} {m : Int} [hu : TU C.P t (.array n e)] [hs : TS C.P e s] (hx : ev L x = some (ptr b o)) (hy : ev L y = some (.int q m)) [hm : NatI m k] (hk : k ≤ n) : OpN C ⟨dst, .slice t x none (some y) none, ty, pos, aft, gd'⟩ L H (slv b o k n) :=
  OpN_of fun a w hkn _ => by
    simp only [execOp, hkn.eval hx, hkn.eval hy, Option.map_none, Option.map_some, Instr.sliceAt, Sem.run_bind, run_under hu.eq, Result.andThen_ok, Instr.sureAddr, Instr.sliceBounds, Sem.run_pure, run_sbound hm.eq hk, hs.eq, Nat.zero_mul, Nat.sub_zero, addr_add, Nat.add_zero]
    congr 3
    split <;> rfl
end
end Go.Sp

/- The operations of the calculus: what each does to an abstract frame and heap. -/
import Derived.Test.YtlopmgjdeinpbaaGreatDoorBase
import Derived.WideLaws
namespace Go.Sp
open Go Go.RowKit

/-! ### What a program's tables say, by instance -/
class TU (P : Program) (t : TypeId) (d : outParam TypeDesc) : Prop where eq : P.underlying t = some d
class TS (P : Program) (t : TypeId) (n : outParam Nat) : Prop where eq : ∀ w, (sizeOf t).run P w = .ok n w
class TZ (P : Program) (t : TypeId) (v : outParam Value) : Prop where eq : ∀ w, (zeroValue t).run P w = .ok v w
/-- One cell, no aggregate. -/
class T1 (P : Program) (t : TypeId) : Prop where
  agg : ∀ w, (isAgg t).run P w = .ok false w
  size : ∀ w, (sizeOf t).run P w = .ok 1 w
/-- An aggregate of so many cells. -/
class TA (P : Program) (t : TypeId) (n : outParam Nat) : Prop where
  agg : ∀ w, (isAgg t).run P w = .ok true w
  size : ∀ w, (sizeOf t).run P w = .ok n w
/-- Field 'f' of the struct 't' lies at so many cells. -/
class TF (P : Program) (t : TypeId) (f : Nat) (off : outParam Nat) : Prop where eq : ∀ b o w, (Instr.fieldAt t (.pointer (some ⟨b, o, none⟩)) f).run P w = .ok (.pointer (some ⟨b, o + off, none⟩)) w

theorem addr_add (b o n : Nat) : (⟨b, o, none⟩ : Addr).add n = ⟨b, o + n, none⟩ := by
  unfold Addr.add
  split
  · rename_i h; subst h; rfl
  · rfl

theorem run_under {P : Program} {t : TypeId} {d : TypeDesc} (h : P.underlying t = some d) (w : World) : (underlying t).run P w = .ok d w := by
  simp only [underlying, Sem.run_bind, run_program, Result.andThen_ok, h, Sem.run_pure]

theorem TF.mk' {P : Program} {t : TypeId} {f off n : Nat} {fs : Array Field} {fd : Field} (hu : P.underlying t = some (.struct fs)) (hf : fs[f]? = some fd) (ho : fd.offset = off) (hs : ∀ w, (sizeOf fd.type).run P w = .ok (n + 1) w) : TF P t f off :=
  ⟨fun b o w => by
    simp only [Instr.fieldAt, Sem.run_bind, run_under hu, Result.andThen_ok, hf, Instr.sureAddr, Sem.run_pure, fieldPlace, hs, ho, addr_add]
    rfl⟩

/-! ### Numbers in the walk's values -/
abbrev u8 (x : BitVec 8) : Value := .int .u8 (x.toNat : Int)
abbrev u16 (x : BitVec 16) : Value := .int .u16 (x.toNat : Int)
abbrev u32 (x : BitVec 32) : Value := .int .u32 (x.toNat : Int)
abbrev u64 (x : BitVec 64) : Value := .int .u64 (x.toNat : Int)
abbrev iv (n : Int) : Value := .int .i64 n
abbrev ptr (b o : Nat) : Value := .pointer (some ⟨b, o, none⟩)
abbrev slv (b o l c : Nat) : Value := .slice (some ⟨b, o, none⟩) l c

class UK (k : IntKind) (n : outParam Nat) : Prop where
  bits : k.bits = n
  uns : k.signed = false
instance : UK .u8 8 := ⟨rfl, rfl⟩
instance : UK .u16 16 := ⟨rfl, rfl⟩
instance : UK .u32 32 := ⟨rfl, rfl⟩
instance : UK .u64 64 := ⟨rfl, rfl⟩

theorem wrap_u {k : IntKind} {n : Nat} [h : UK k n] (m : Int) : k.wrap m = ((BitVec.ofInt n m).toNat : Int) := by
  unfold IntKind.wrap
  rw [h.bits, h.uns]
  simp [BitVec.toNat_ofInt]
  omega

theorem wrap_i64 {m : Int} (h₁ : -9223372036854775808 ≤ m) (h₂ : m < 9223372036854775808) : IntKind.i64.wrap m = m := by
  unfold IntKind.wrap
  simp [IntKind.bits, IntKind.signed]
  split <;> omega

/-- 'm' as a number of n bits. -/
class BV (n : Nat) (m : Int) (a : outParam (BitVec n)) : Prop where eq : BitVec.ofInt n m = a
instance (priority := 500) BV.wide {n k : Nat} (a : BitVec k) : BV n (a.toNat : Int) (a.setWidth n) := ⟨by
  rw [← BitVec.ofNat_toNat]; exact BitVec.ofInt_natCast n a.toNat⟩
instance BV.same {n : Nat} (a : BitVec n) : BV n (a.toNat : Int) a := ⟨by simp⟩
instance (priority := 100) BV.lit {n k : Nat} : BV n (no_index (OfNat.ofNat k : Int)) (BitVec.ofNat n k) := ⟨BitVec.ofInt_natCast n k⟩
instance (priority := 50) BV.cast {n k : Nat} : BV n (k : Int) (BitVec.ofNat n k) := ⟨BitVec.ofInt_natCast n k⟩
instance (priority := low) BV.neg {n : Nat} {m : Int} {a : BitVec n} [h : BV n m a] : BV n (-m) (-a) := ⟨by rw [BitVec.ofInt_neg, h.eq]⟩

/-- An Int that is a natural number. -/
class NatI (m : Int) (n : outParam Nat) : Prop where eq : m = (n : Int)
instance NatI.cast {n : Nat} : NatI (n : Int) n := ⟨rfl⟩
instance NatI.lit {k : Nat} : NatI (no_index (OfNat.ofNat k : Int)) k := ⟨rfl⟩
instance NatI.add {m m' : Int} {n n' : Nat} [h : NatI m n] [h' : NatI m' n'] : NatI (m + m') (n + n') := ⟨by rw [h.eq, h'.eq]; rfl⟩
instance NatI.mul {m m' : Int} {n n' : Nat} [h : NatI m n] [h' : NatI m' n'] : NatI (m * m') (n * n') := ⟨by rw [h.eq, h'.eq]; rfl⟩

instance NatI.div {m m' : Int} {n n' : Nat} [h : NatI m n] [h' : NatI m' n'] : NatI (m / m') (n / n') := ⟨by rw [h.eq, h'.eq]; rfl⟩
instance NatI.mod {m m' : Int} {n n' : Nat} [h : NatI m n] [h' : NatI m' n'] : NatI (m % m') (n % n') := ⟨by rw [h.eq, h'.eq]; rfl⟩

/-! ### Blocks among the chunks -/
class At (H : Hp) (b : Nat) (o : outParam Obj) : Prop where get : ∃ (i : Nat) (e : HE), H[i]? = some e ∧ e.c = blk b o
instance At.here {w : Bool} {b : Nat} {o : Obj} {H : Hp} : At (⟨w, blk b o⟩ :: H) b o := ⟨0, _, rfl, rfl⟩
instance At.there {e : HE} {b : Nat} {o : Obj} {H : Hp} [h : At H b o] : At (e :: H) b o := ⟨let ⟨i, e', h1, h2⟩ := h.get; ⟨i + 1, e', by simpa using h1, h2⟩⟩
theorem At.heap {H : Hp} {b : Nat} {o : Obj} [h : At H b o] {G : Nat → Prop} {w₀ w : World} (hs : St G w₀ H w) : w.heap[b]? = some o := by
  obtain ⟨i, e, h1, h2⟩ := h.get
  have := hs.props i e h1
  rw [h2] at this
  exact this

/-- The block 'b' of the state's own holds 'o'; with 'o'' in its place the heap reads 'H''. -/
class Upd (H : Hp) (b : Nat) (o : outParam Obj) (o' : Obj) (H' : outParam Hp) : Prop where get : ∃ i, H[i]? = some (own (blk b o)) ∧ H' = H.set i (own (blk b o'))
instance Upd.here {b : Nat} {o o' : Obj} {H : Hp} : Upd (⟨true, blk b o⟩ :: H) b o o' (⟨true, blk b o'⟩ :: H) := ⟨0, rfl, rfl⟩
instance Upd.there {e : HE} {b : Nat} {o o' : Obj} {H H' : Hp} [h : Upd H b o o' H'] : Upd (e :: H) b o o' (e :: H') := ⟨let ⟨i, h1, h2⟩ := h.get; ⟨i + 1, by simpa using h1, by rw [h2]; rfl⟩⟩

theorem St.upd {H H' : Hp} {b : Nat} {o o' : Obj} (h : Upd H b o o' H') {G : Nat → Prop} {w₀ w w' : World} (hs : St G w₀ H w) (hk : Keep (fun k => k = b) w w') (ho : w'.heap[b]? = some o') : St G w₀ H' w' := by
  obtain ⟨i, h1, rfl⟩ := h.get
  exact hs.set h1 hk ho (fun k hk => .inl hk)

section
variable {C : Cx} {L : Fr} {H : Hp} {dst : Option Tmp} {ty : TypeId} {pos : String} {aft : Array Edge} {gd : Option (Nat × Bool)}

/-- An operation whose value does not hang on the world. -/
theorem OpN_of {op : Op} {v : Value} (h : ∀ a w, Knows C.N a L → St C.G C.w₀ H w → (execOp a.eval ⟨dst, op, ty, pos, aft, gd⟩).run C.P w = .ok (.value v) w) : OpN C ⟨dst, op, ty, pos, aft, gd⟩ L H v :=
  fun a w hk hs => by rw [h a w hk hs]; exact ⟨rfl, rfl⟩

theorem OpN.cast {o : Oper} {v v' : Value} (h : OpN C o L H v) (e : v = v') : OpN C o L H v' := e ▸ h
theorem OpN_move {x : Operand} {v : Value} (hx : ev L x = some v) : OpN C ⟨dst, .move x, ty, pos, aft, gd⟩ L H v :=
  OpN_of fun a w hk _ => by simp only [execOp, Sem.run_pure, hk.eval hx]
theorem OpN_assign {x : Operand} {v : Value} (hx : ev L x = some v) : OpN C ⟨dst, .assign x, ty, pos, aft, gd⟩ L H v :=
  OpN_of fun a w hk _ => by simp only [execOp, Sem.run_pure, hk.eval hx]
theorem OpN_pickT {c x y : Operand} {v : Value} (hc : ev L c = some (.bool true)) (hx : ev L x = some v) : OpN C ⟨dst, .pick c x y, ty, pos, aft, gd⟩ L H v :=
  OpN_of fun a w hk _ => by simp only [execOp, hk.eval hc, hk.eval hx, asBool, Sem.run_bind, Sem.run_pure, Result.andThen_ok, if_true]
theorem OpN_pickF {c x y : Operand} {v : Value} (hc : ev L c = some (.bool false)) (hx : ev L y = some v) : OpN C ⟨dst, .pick c x y, ty, pos, aft, gd⟩ L H v :=
  OpN_of fun a w hk _ => by simp only [execOp, hk.eval hc, hk.eval hx, asBool, Sem.run_bind, Sem.run_pure, Result.andThen_ok, if_false, Bool.false_eq_true]
theorem OpN_pickB {c x y : Operand} {b u v : Bool} (hc : ev L c = some (.bool b)) (hx : ev L x = some (.bool u)) (hy : ev L y = some (.bool v)) : OpN C ⟨dst, .pick c x y, ty, pos, aft, gd⟩ L H (.bool (if b then u else v)) :=
  OpN_of fun a w hk _ => by simp only [execOp, hk.eval hc, hk.eval hx, hk.eval hy, asBool, Sem.run_bind, Sem.run_pure, Result.andThen_ok]; cases b <;> rfl
theorem OpN_extract {x : Operand} {i : Nat} {vs : List Value} {v : Value} (hx : ev L x = some (.tuple vs.toArray)) (hv : vs[i]? = some v) : OpN C ⟨dst, .extract x i, ty, pos, aft, gd⟩ L H v :=
  OpN_of fun a w hk _ => by simp only [execOp, hk.eval hx, Instr.extract, List.getElem?_toArray, hv, Sem.run_bind, Sem.run_pure, Result.andThen_ok]
theorem OpN_nilCheck {x : Operand} {b o : Nat} (hx : ev L x = some (ptr b o)) : OpN C ⟨dst, .nilCheck x, ty, pos, aft, gd⟩ L H (ptr b o) :=
  OpN_of fun a w hk _ => by simp only [execOp, hk.eval hx, Sem.run_pure]

theorem lit_u {k : IntKind} {s n : Nat} (hn : Nat.blt n (2 ^ s) = true) : Value.int k (OfNat.ofNat n : Int) = .int k ((BitVec.ofNat s n).toNat : Int) := by
  have h : n < 2 ^ s := by simpa using hn
  rw [BitVec.toNat_ofNat, Nat.mod_eq_of_lt h]
  rfl
theorem OpN_moveU {k : IntKind} {s n : Nat} [UK k s] (hn : Nat.blt n (2 ^ s) = true) : OpN C ⟨dst, .move (.const (.int k (OfNat.ofNat n))), ty, pos, aft, gd⟩ L H (.int k ((BitVec.ofNat s n).toNat : Int)) :=
  OpN_move (by rw [← lit_u hn]; rfl)
theorem OpN_assignU {k : IntKind} {s n : Nat} [UK k s] (hn : Nat.blt n (2 ^ s) = true) : OpN C ⟨dst, .assign (.const (.int k (OfNat.ofNat n))), ty, pos, aft, gd⟩ L H (.int k ((BitVec.ofNat s n).toNat : Int)) :=
  OpN_assign (by rw [← lit_u hn]; rfl)

/-! #### arithmetic -/
theorem run_int {P : Program} {w : World} {op : BinOp} {t : TypeId} {x y : Operand} {k : IntKind} {m n : Int} {v : Value} (h : (binOp op t (.int k m) (.int k n)).run P w = .ok v w) :
    (do eqGuard op t x y (.int k m) (.int k n); binOp op t (.int k m) (.int k n) : Sem Value).run P w = .ok v w := by
  have : (eqGuard op t x y (.int k m) (.int k n)).run P w = .ok () w := by
    unfold eqGuard
    cases op <;> rfl
  rw [Sem.run_bind, this]
  exact h
theorem OpN_bin {op : BinOp} {t yt : TypeId} {x y : Operand} {k : IntKind} {m n : Int} {v : Value} (hx : ev L x = some (.int k m)) (hy : ev L y = some (.int k n)) (h : ∀ w, (binOp op t (.int k m) (.int k n)).run C.P w = .ok v w) :
    OpN C ⟨dst, .binOp op t x y yt, ty, pos, aft, gd⟩ L H v :=
  OpN_of fun a w hk _ => by
    simp only [execOp, hk.eval hx, hk.eval hy]
    rw [Sem.run_bind, run_int (h w)]
    rfl

variable {t yt : TypeId} {x y : Operand} {k : IntKind} {m n : Int} {s : Nat}
theorem OpN_lss (hx : ev L x = some (.int k m)) (hy : ev L y = some (.int k n)) : OpN C ⟨dst, .binOp .lss t x y yt, ty, pos, aft, gd⟩ L H (.bool (decide (m < n))) := OpN_bin hx hy fun w => by simp [binOp, Op.intCmp]
theorem OpN_leq (hx : ev L x = some (.int k m)) (hy : ev L y = some (.int k n)) : OpN C ⟨dst, .binOp .leq t x y yt, ty, pos, aft, gd⟩ L H (.bool (decide (m ≤ n))) := OpN_bin hx hy fun w => by simp [binOp, Op.intCmp]
theorem OpN_gtr (hx : ev L x = some (.int k m)) (hy : ev L y = some (.int k n)) : OpN C ⟨dst, .binOp .gtr t x y yt, ty, pos, aft, gd⟩ L H (.bool (decide (n < m))) := OpN_bin hx hy fun w => by simp [binOp, Op.intCmp]
theorem OpN_geq (hx : ev L x = some (.int k m)) (hy : ev L y = some (.int k n)) : OpN C ⟨dst, .binOp .geq t x y yt, ty, pos, aft, gd⟩ L H (.bool (decide (n ≤ m))) := OpN_bin hx hy fun w => by simp [binOp, Op.intCmp]
theorem OpN_eql (hx : ev L x = some (.int k m)) (hy : ev L y = some (.int k n)) : OpN C ⟨dst, .binOp .eql t x y yt, ty, pos, aft, gd⟩ L H (.bool (decide (m = n))) := OpN_bin hx hy fun w => by simp [binOp, Op.intCmp]; rfl
theorem OpN_neq (hx : ev L x = some (.int k m)) (hy : ev L y = some (.int k n)) : OpN C ⟨dst, .binOp .neq t x y yt, ty, pos, aft, gd⟩ L H (.bool (decide (m ≠ n))) := OpN_bin hx hy fun w => by
  simp [binOp, Op.intCmp]
  by_cases h : m = n <;> simp [h]
theorem OpN_addU {a b : BitVec s} [h : UK k s] (hx : ev L x = some (.int k m)) (hy : ev L y = some (.int k n)) [ha : BV s m a] [hb : BV s n b] : OpN C ⟨dst, .binOp .add t x y yt, ty, pos, aft, gd⟩ L H (.int k ((a + b).toNat : Int)) :=
  OpN_bin hx hy fun w => by simp [binOp, Op.intArith, wrap_u (h := h), BitVec.ofInt_add, ha.eq, hb.eq]
theorem OpN_subU {a b : BitVec s} [h : UK k s] (hx : ev L x = some (.int k m)) (hy : ev L y = some (.int k n)) [ha : BV s m a] [hb : BV s n b] : OpN C ⟨dst, .binOp .sub t x y yt, ty, pos, aft, gd⟩ L H (.int k ((a - b).toNat : Int)) :=
  OpN_bin hx hy fun w => by
    simp only [binOp, Op.intArith, wrap_u (h := h), ne_eq, not_true_eq_false, if_false, Sem.run_pure]
    rw [Int.sub_eq_add_neg, BitVec.ofInt_add, BitVec.ofInt_neg, ha.eq, hb.eq, ← BitVec.sub_eq_add_neg]
theorem OpN_mulU {a b : BitVec s} [h : UK k s] (hx : ev L x = some (.int k m)) (hy : ev L y = some (.int k n)) [ha : BV s m a] [hb : BV s n b] : OpN C ⟨dst, .binOp .mul t x y yt, ty, pos, aft, gd⟩ L H (.int k ((a * b).toNat : Int)) :=
  OpN_bin hx hy fun w => by simp [binOp, Op.intArith, wrap_u (h := h), BitVec.ofInt_mul, ha.eq, hb.eq]
theorem OpN_addI (hx : ev L x = some (iv m)) (hy : ev L y = some (iv n)) (h : -9223372036854775808 ≤ m + n ∧ m + n < 9223372036854775808) : OpN C ⟨dst, .binOp .add t x y yt, ty, pos, aft, gd⟩ L H (iv (m + n)) :=
  OpN_bin hx hy fun w => by simp only [binOp, Op.intArith, wrap_i64 h.1 h.2, ne_eq, not_true_eq_false, if_false, Sem.run_pure]
theorem OpN_subI (hx : ev L x = some (iv m)) (hy : ev L y = some (iv n)) (h : -9223372036854775808 ≤ m - n ∧ m - n < 9223372036854775808) : OpN C ⟨dst, .binOp .sub t x y yt, ty, pos, aft, gd⟩ L H (iv (m - n)) :=
  OpN_bin hx hy fun w => by simp only [binOp, Op.intArith, wrap_i64 h.1 h.2, ne_eq, not_true_eq_false, if_false, Sem.run_pure]
theorem OpN_subN {p q : Nat} (hx : ev L x = some (iv m)) (hy : ev L y = some (iv n)) [hm : NatI m p] [hn : NatI n q] (h : q ≤ p ∧ p < 9223372036854775808) : OpN C ⟨dst, .binOp .sub t x y yt, ty, pos, aft, gd⟩ L H (iv ((p - q : Nat) : Int)) :=
  OpN_bin hx hy fun w => by
    have e1 := hm.eq
    have e2 := hn.eq
    simp only [binOp, Op.intArith, ne_eq, not_true_eq_false, if_false, Sem.run_pure]
    rw [wrap_i64 (by omega) (by omega)]
    congr 2
    omega
theorem OpN_mulI (hx : ev L x = some (iv m)) (hy : ev L y = some (iv n)) (h : -9223372036854775808 ≤ m * n ∧ m * n < 9223372036854775808) : OpN C ⟨dst, .binOp .mul t x y yt, ty, pos, aft, gd⟩ L H (iv (m * n)) :=
  OpN_bin hx hy fun w => by simp only [binOp, Op.intArith, wrap_i64 h.1 h.2, ne_eq, not_true_eq_false, if_false, Sem.run_pure]
theorem OpN_quoI (hx : ev L x = some (iv m)) (hy : ev L y = some (iv n)) (h : 0 ≤ m ∧ 0 < n ∧ m < 9223372036854775808) : OpN C ⟨dst, .binOp .quo t x y yt, ty, pos, aft, gd⟩ L H (iv (m / n)) :=
  OpN_bin hx hy fun w => by
    have h1 : n ≠ 0 := by omega
    have h2 : m.tdiv n = m / n := Int.tdiv_eq_ediv_of_nonneg h.1
    have h3 : 0 ≤ m / n := Int.ediv_nonneg h.1 (by omega)
    have h4 : m / n ≤ m := Int.ediv_le_self n h.1
    simp only [binOp, Op.intDiv, h1, if_false, h2, ne_eq, not_true_eq_false, Sem.run_pure]
    rw [wrap_i64 (by omega) (by omega)]
theorem OpN_remI (hx : ev L x = some (iv m)) (hy : ev L y = some (iv n)) (h : 0 ≤ m ∧ 0 < n) : OpN C ⟨dst, .binOp .rem t x y yt, ty, pos, aft, gd⟩ L H (iv (m % n)) :=
  OpN_bin hx hy fun w => by
    have h1 : n ≠ 0 := by omega
    have h2 : m.tmod n = m % n := Int.tmod_eq_emod_of_nonneg h.1
    simp only [binOp, Op.intDiv, h1, if_false, h2, ne_eq, not_true_eq_false, Sem.run_pure]
theorem OpN_quoU {a b : BitVec s} [h : UK k s] (hx : ev L x = some (.int k (a.toNat : Int))) (hy : ev L y = some (.int k n)) [hb : BV s n b] (hn : 0 < n ∧ n < 2 ^ s) : OpN C ⟨dst, .binOp .quo t x y yt, ty, pos, aft, gd⟩ L H (.int k ((a / b).toNat : Int)) :=
  OpN_bin hx hy fun w => by
    have e : n = (b.toNat : Int) := by
      rw [← hb.eq, BitVec.toNat_ofInt]
      rw [Int.emod_eq_of_lt (by omega) (by exact_mod_cast hn.2)]
      omega
    have h1 : n ≠ 0 := by omega
    simp only [binOp, Op.intDiv, h1, if_false, ne_eq, not_true_eq_false, Sem.run_pure]
    rw [e, Int.tdiv_eq_ediv_of_nonneg (by omega), wrap_u (h := h), ← Int.natCast_ediv, BitVec.ofInt_natCast, ← BitVec.toNat_udiv, BitVec.ofNat_toNat, BitVec.setWidth_eq]
theorem OpN_remU {a b : BitVec s} [_h : UK k s] (hx : ev L x = some (.int k (a.toNat : Int))) (hy : ev L y = some (.int k n)) [hb : BV s n b] (hn : 0 < n ∧ n < 2 ^ s) : OpN C ⟨dst, .binOp .rem t x y yt, ty, pos, aft, gd⟩ L H (.int k ((a % b).toNat : Int)) :=
  OpN_bin hx hy fun w => by
    have e : n = (b.toNat : Int) := by
      rw [← hb.eq, BitVec.toNat_ofInt]
      rw [Int.emod_eq_of_lt (by omega) (by exact_mod_cast hn.2)]
      omega
    have h1 : n ≠ 0 := by omega
    simp only [binOp, Op.intDiv, h1, if_false, ne_eq, not_true_eq_false, Sem.run_pure]
    rw [e, Int.tmod_eq_emod_of_nonneg (by omega), BitVec.toNat_umod]
    rfl

theorem bits_u {k : IntKind} {s : Nat} (h : UK k s) (r : BitVec k.bits) : k.wrap (r.toNat : Int) = (r.toNat : Int) := by
  have hb := h.bits
  rw [wrap_u (h := h)]
  have h1 := r.isLt
  rw [BitVec.toNat_ofInt]
  rw [Int.emod_eq_of_lt (by omega) (by rw [← hb]; exact_mod_cast h1)]
  simp
theorem OpN_andU {a b : BitVec s} [h : UK k s] (hx : ev L x = some (.int k m)) (hy : ev L y = some (.int k n)) [ha : BV s m a] [hb : BV s n b] : OpN C ⟨dst, .binOp .and t x y yt, ty, pos, aft, gd⟩ L H (.int k ((a &&& b).toNat : Int)) :=
  OpN_bin hx hy fun w => by
    have hbits := h.bits
    subst hbits
    simp only [binOp, Op.intBits, ne_eq, not_true_eq_false, if_false, ha.eq, hb.eq, bits_u h, Sem.run_pure]
theorem OpN_orU {a b : BitVec s} [h : UK k s] (hx : ev L x = some (.int k m)) (hy : ev L y = some (.int k n)) [ha : BV s m a] [hb : BV s n b] : OpN C ⟨dst, .binOp .or t x y yt, ty, pos, aft, gd⟩ L H (.int k ((a ||| b).toNat : Int)) :=
  OpN_bin hx hy fun w => by
    have hbits := h.bits
    subst hbits
    simp only [binOp, Op.intBits, ne_eq, not_true_eq_false, if_false, ha.eq, hb.eq, bits_u h, Sem.run_pure]
theorem OpN_xorU {a b : BitVec s} [h : UK k s] (hx : ev L x = some (.int k m)) (hy : ev L y = some (.int k n)) [ha : BV s m a] [hb : BV s n b] : OpN C ⟨dst, .binOp .xor t x y yt, ty, pos, aft, gd⟩ L H (.int k ((a ^^^ b).toNat : Int)) :=
  OpN_bin hx hy fun w => by
    have hbits := h.bits
    subst hbits
    simp only [binOp, Op.intBits, ne_eq, not_true_eq_false, if_false, ha.eq, hb.eq, bits_u h, Sem.run_pure]

theorem OpN_andNotU {a b : BitVec s} [h : UK k s] (hx : ev L x = some (.int k m)) (hy : ev L y = some (.int k n)) [ha : BV s m a] [hb : BV s n b] : OpN C ⟨dst, .binOp .andNot t x y yt, ty, pos, aft, gd⟩ L H (.int k ((a &&& ~~~ b).toNat : Int)) :=
  OpN_bin hx hy fun w => by
    have hbits := h.bits
    subst hbits
    simp only [binOp, Op.intBits, ne_eq, not_true_eq_false, if_false, ha.eq, hb.eq, bits_u h, Sem.run_pure]

theorem OpN_binS {op : BinOp} {k' : IntKind} {v : Value} (ho : op = .shl ∨ op = .shr) (hx : ev L x = some (.int k m)) (hy : ev L y = some (.int k' n)) (h : ∀ w, (Op.shift op k m k' n).run C.P w = .ok v w) :
    OpN C ⟨dst, .binOp op t x y yt, ty, pos, aft, gd⟩ L H v :=
  OpN_of fun a w hk _ => by
    have hg : (eqGuard op t x y (.int k m) (.int k' n)).run C.P w = .ok () w := by
      unfold eqGuard
      rcases ho with rfl | rfl <;> rfl
    simp only [execOp, hk.eval hx, hk.eval hy, Sem.run_bind, hg, Result.andThen_ok]
    rcases ho with rfl | rfl <;> simp only [binOp, h, Result.andThen_ok, Sem.run_pure]
theorem OpN_shlU {k' : IntKind} {a : BitVec s} {q : Nat} [h : UK k s] (hx : ev L x = some (.int k m)) (hy : ev L y = some (.int k' n)) [ha : BV s m a] [hn : NatI n q] : OpN C ⟨dst, .binOp .shl t x y yt, ty, pos, aft, gd⟩ L H (.int k ((a <<< q).toNat : Int)) :=
  OpN_binS (.inl rfl) hx hy fun w => by
    have hq := hn.eq
    have h0 : ¬ n < 0 := by omega
    simp only [Op.shift, h0, if_false, Sem.run_pure, wrap_u (h := h), h.bits]
    have e : BitVec.ofInt s (m * 2 ^ min n.toNat s) = a <<< q := by
      rw [BitVec.ofInt_mul, ha.eq]
      have e2 : (2 : Int) ^ min n.toNat s = ((2 ^ min n.toNat s : Nat) : Int) := by simp
      rw [e2, BitVec.ofInt_natCast]
      have hq' : n.toNat = q := by omega
      rw [hq']
      apply BitVec.eq_of_toNat_eq
      simp only [BitVec.toNat_mul, BitVec.toNat_ofNat, BitVec.toNat_shiftLeft, Nat.shiftLeft_eq]
      by_cases hlt : q ≤ s
      · rw [Nat.min_eq_left hlt]
        simp [Nat.mul_mod]
      · rw [Nat.min_eq_right (by omega)]
        have : 2 ^ q = 2 ^ s * 2 ^ (q - s) := by rw [← Nat.pow_add]; congr 1; omega
        rw [this, Nat.mul_left_comm, Nat.mul_mod_right, Nat.mod_self, Nat.mul_zero, Nat.zero_mod]
    rw [e]
theorem OpN_shrU {k' : IntKind} {a : BitVec s} {q : Nat} [h : UK k s] (hx : ev L x = some (.int k (a.toNat : Int))) (hy : ev L y = some (.int k' n)) [hn : NatI n q] : OpN C ⟨dst, .binOp .shr t x y yt, ty, pos, aft, gd⟩ L H (.int k ((a >>> q).toNat : Int)) :=
  OpN_binS (.inr rfl) hx hy fun w => by
    have hq := hn.eq
    have h0 : ¬ n < 0 := by omega
    have hq' : n.toNat = q := by omega
    simp only [Op.shift, h0, if_false, Sem.run_pure, h.bits, hq']
    have e : ((a.toNat : Int)).fdiv (2 ^ min q s) = ((a >>> q).toNat : Int) := by
      rw [Int.fdiv_eq_ediv_of_nonneg _ (Int.le_of_lt (Int.pow_pos (by omega)))]
      have e2 : (2 : Int) ^ min q s = ((2 ^ min q s : Nat) : Int) := by simp
      rw [e2, ← Int.natCast_ediv, BitVec.toNat_ushiftRight, Nat.shiftRight_eq_div_pow]
      by_cases hlt : q ≤ s
      · rw [Nat.min_eq_left hlt]
      · rw [Nat.min_eq_right (by omega)]
        have h1 := a.isLt
        rw [Nat.div_eq_of_lt h1, Nat.div_eq_of_lt (Nat.lt_of_lt_of_le h1 (Nat.pow_le_pow_right (by omega) (by omega)))]
    rw [e]

theorem OpN_shrI {k' : IntKind} {p q : Nat} (hx : ev L x = some (iv m)) (hy : ev L y = some (.int k' n)) [hm : NatI m p] [hn : NatI n q] (hq : q < 64) : OpN C ⟨dst, .binOp .shr t x y yt, ty, pos, aft, gd⟩ L H (iv ((p / 2 ^ q : Nat) : Int)) :=
  OpN_binS (.inr rfl) hx hy fun w => by
    have h1 := hm.eq
    have h2 := hn.eq
    have h0 : ¬ n < 0 := by omega
    have hq' : n.toNat = q := by omega
    simp only [Op.shift, h0, if_false, Sem.run_pure, IntKind.bits, hq', Nat.min_eq_left (Nat.le_of_lt hq)]
    congr 2
    rw [h1, Int.fdiv_eq_ediv_of_nonneg _ (Int.le_of_lt (Int.pow_pos (by omega)))]
    rw [show ((2 : Int) ^ q) = ((2 ^ q : Nat) : Int) by simp, ← Int.natCast_ediv]
theorem OpN_shlI {k' : IntKind} {p q : Nat} (hx : ev L x = some (iv m)) (hy : ev L y = some (.int k' n)) [hm : NatI m p] [hn : NatI n q] (hq : q < 64 ∧ p * 2 ^ q < 9223372036854775808) : OpN C ⟨dst, .binOp .shl t x y yt, ty, pos, aft, gd⟩ L H (iv ((p * 2 ^ q : Nat) : Int)) :=
  OpN_binS (.inl rfl) hx hy fun w => by
    have h1 := hm.eq
    have h2 := hn.eq
    have h0 : ¬ n < 0 := by omega
    have hq' : n.toNat = q := by omega
    simp only [Op.shift, h0, if_false, Sem.run_pure, IntKind.bits, hq', Nat.min_eq_left (Nat.le_of_lt hq.1)]
    have e : m * 2 ^ q = ((p * 2 ^ q : Nat) : Int) := by rw [h1]; simp
    rw [e, wrap_i64 (by omega) (by omega)]
theorem OpN_andI {p q : Nat} (hx : ev L x = some (iv m)) (hy : ev L y = some (iv n)) [hm : NatI m p] [hn : NatI n q] (hp : p < 9223372036854775808 ∧ q < 9223372036854775808) : OpN C ⟨dst, .binOp .and t x y yt, ty, pos, aft, gd⟩ L H (iv ((p &&& q : Nat) : Int)) :=
  OpN_bin hx hy fun w => by
    have h1 := hm.eq
    have h2 := hn.eq
    simp only [binOp, Op.intBits, ne_eq, not_true_eq_false, if_false, Sem.run_pure]
    have e : (BitVec.ofInt IntKind.i64.bits m &&& BitVec.ofInt IntKind.i64.bits n).toNat = p &&& q := by
      rw [h1, h2, BitVec.ofInt_natCast, BitVec.ofInt_natCast, BitVec.toNat_and, BitVec.toNat_ofNat, BitVec.toNat_ofNat]
      simp only [IntKind.bits]
      rw [Nat.mod_eq_of_lt (by omega), Nat.mod_eq_of_lt (by omega)]
    rw [e]
    have hle : p &&& q ≤ p := Nat.and_le_left
    rw [wrap_i64 (by omega) (by omega)]
theorem OpN_not {b : Bool} (hx : ev L x = some (.bool b)) : OpN C ⟨dst, .unOp .not t x, ty, pos, aft, gd⟩ L H (.bool (!b)) :=
  OpN_of fun a w hk _ => by simp only [execOp, hk.eval hx, Op.unary, Sem.run_bind, Sem.run_pure, Result.andThen_ok]
theorem OpN_negI (hx : ev L x = some (iv m)) (h : -9223372036854775808 < m ∧ m < 9223372036854775808) : OpN C ⟨dst, .unOp .neg t x, ty, pos, aft, gd⟩ L H (iv (-m)) :=
  OpN_of fun a w hk _ => by
    simp only [execOp, hk.eval hx, Op.unary, Op.intArith, Sem.run_bind, Sem.run_pure, Result.andThen_ok]
    rw [wrap_i64 (by omega) (by omega), Int.zero_sub]
theorem OpN_comU {a : BitVec s} [h : UK k s] (hx : ev L x = some (.int k m)) [ha : BV s m a] : OpN C ⟨dst, .unOp .xor t x, ty, pos, aft, gd⟩ L H (.int k ((~~~ a).toNat : Int)) :=
  OpN_of fun ac w hk _ => by
    have hbits := h.bits
    subst hbits
    have e : BitVec.ofInt k.bits k.max = BitVec.allOnes k.bits := by
      have hu := h.uns
      cases k <;> first | rfl | (simp [IntKind.signed] at hu)
    simp only [execOp, hk.eval hx, Op.unary, Op.intBits, Sem.run_bind, Sem.run_pure, Result.andThen_ok, h.uns, ha.eq, bits_u h, Bool.false_eq_true, if_false, e, BitVec.allOnes_xor]
theorem OpN_convU {k' : IntKind} {a : BitVec s} [hd : TU C.P yt (.int k)] [hs : TU C.P t (.int k')] [h : UK k s] (hx : ev L x = some (.int k' m)) [ha : BV s m a] : OpN C ⟨dst, .convert t yt x, ty, pos, aft, gd⟩ L H (.int k (a.toNat : Int)) :=
  OpN_of fun ac w hk _ => by
    simp only [execOp, hk.eval hx, convert, Sem.run_bind, run_under hd.eq, run_under hs.eq, Result.andThen_ok, Conv.intToInt, Sem.run_pure, wrap_u (h := h), ha.eq]
theorem OpN_convI {k' : IntKind} [hd : TU C.P yt (.int .i64)] [hs : TU C.P t (.int k')] (hx : ev L x = some (.int k' m)) (h : -9223372036854775808 ≤ m ∧ m < 9223372036854775808) : OpN C ⟨dst, .convert t yt x, ty, pos, aft, gd⟩ L H (iv m) :=
  OpN_of fun ac w hk _ => by
    simp only [execOp, hk.eval hx, convert, Sem.run_bind, run_under hd.eq, run_under hs.eq, Result.andThen_ok, Conv.intToInt, Sem.run_pure, wrap_i64 h.1 h.2]

end
end Go.Sp

/- Equality of arrays; len, min, max; bytes of a constant string. -/
import Derived.Test.YtlopmgjdeinpbaaGreatDoorStep
import Derived.DeepKeys
namespace Go.Sp
open Go Go.RowKit

/-- The type 't' is an array of n integers of kind q. -/
class TArr (P : Program) (t : TypeId) (n : outParam Nat) (q : outParam IntKind) : Prop where
  arr : ∃ e, P.underlying t = some (.array n e) ∧ P.underlying e = some (.int q) ∧ P.cellsOf e = 1 ∧ P.cellsOf t = n
  guard : P.eqGuardType P.depth t = false
  key : P.keyTypeAt 2 t = true

theorem keyLits_arr {P : Program} {t : TypeId} {n : Nat} {q : IntKind} (h : TArr P t n q) (ns : List Int) (hn : ns.length = n) (hw : ∀ m ∈ ns, (Lit.int q m).wf = true) : P.keyLits 2 t (ns.map (Value.int q)) = some (ns.map (Lit.int q)) := by
  obtain ⟨e, hu, he, hs, ht⟩ := h.arr
  have step : ∀ m, (Lit.int q m).wf = true → P.keyLits 1 e [Value.int q m] = some [Lit.int q m] := fun m hm => by
    unfold Program.keyLits
    simp only [he, hm, and_self, if_true]
  have key : (List.range n).mapM (fun i => P.keyLits 1 e (((ns.map (Value.int q)).drop (i * 1)).take 1)) = some (ns.map fun m => [Lit.int q m]) := by
    have : ∀ (l : List Int) (k : Nat), (∀ m ∈ l, (Lit.int q m).wf = true) → (∀ j, l[j]? = ns[k + j]?) → (List.range' k l.length).mapM (fun i => P.keyLits 1 e (((ns.map (Value.int q)).drop (i * 1)).take 1)) = some (l.map fun m => [Lit.int q m]) := by
      intro l
      induction l with
      | nil => intro k _ _; rfl
      | cons m r ih =>
        intro k hw hj
        have h0 := hj 0
        simp only [List.getElem?_cons_zero, Nat.add_zero] at h0
        have hlt : k < ns.length := (List.getElem?_eq_some_iff.1 h0.symm).1
        have hk : ((ns.map (Value.int q)).drop (k * 1)).take 1 = [Value.int q m] := by
          rw [Nat.mul_one, List.drop_eq_getElem_cons (by simpa using hlt), List.take_succ_cons, List.take_zero]
          have := (List.getElem?_eq_some_iff.1 h0.symm).2
          simp [this]
        simp only [List.length_cons, List.range'_succ, List.mapM_cons, hk, step m (hw m (by simp)), List.map_cons]
        rw [ih (k + 1) (fun m' hm => hw m' (by simp [hm])) (fun j => by have := hj (j + 1); simpa [Nat.add_assoc, Nat.add_comm 1 j] using this)]
        rfl
    have := this ns 0 hw (fun j => by simp)
    rw [← hn, List.range_eq_range']
    exact this
  unfold Program.keyLits
  simp only [hu, List.length_map, hn, ht, if_true, hs, key, Option.map_some]
  congr 1
  clear key hw hn step
  induction ns with
  | nil => rfl
  | cons m r ih => simp [ih]

theorem run_eqArr {P : Program} {t : TypeId} {n : Nat} {q : IntKind} (h : TArr P t n q) (w : World) (xs ys : List Int) (hx : xs.length = n) (hy : ys.length = n) (hwx : ∀ m ∈ xs, (Lit.int q m).wf = true) (hwy : ∀ m ∈ ys, (Lit.int q m).wf = true) :
    (Op.equal t (.agg (xs.map (Value.int q)).toArray) (.agg (ys.map (Value.int q)).toArray)).run P w = .ok (decide (xs = ys)) w := by
  obtain ⟨e, hu, _, _, ht⟩ := h.arr
  have hf : ∀ l : List Value, l.length = n → (Value.agg l.toArray).formed P t = true := fun l hl => by simp [Value.formed, hu, hl, ht]
  obtain ⟨r, hr, hiff⟩ := run_equalIn_deep (P := P) 9998 2 t h.key w 2 2 (.agg (xs.map (Value.int q)).toArray) (.agg (ys.map (Value.int q)).toArray) (xs.map (Lit.int q)) (ys.map (Lit.int q)) (hf _ (by simpa using hx)) (hf _ (by simpa using hy)) (keyLits_arr h xs hx hwx) (keyLits_arr h ys hy hwy)
  have e1 : r = decide (xs = ys) := by
    rw [Bool.eq_iff_iff, decide_eq_true_eq, hiff]
    constructor
    · intro he
      have : Function.Injective (Lit.int q) := fun a b hab => by cases hab; rfl
      exact (List.map_inj_right (fun a b hab => this hab)).1 he
    · intro he; rw [he]
  subst e1
  exact hr

/-- Lists of words as integers. -/
theorem wf_u {k : IntKind} {s : Nat} (h : UK k s) (a : BitVec s) : (Lit.int k (a.toNat : Int)).wf = true := by
  have h1 := h.bits
  have h2 := h.uns
  have h3 := a.isLt
  cases k <;> simp [IntKind.signed] at h2 <;> simp [IntKind.bits] at h1 <;> subst h1 <;> simp [Lit.wf, IntKind.min, IntKind.max, IntKind.signed, IntKind.bits] <;> omega

section
variable {C : Cx} {L : Fr} {H : Hp} {dst : Option Tmp} {ty : TypeId} {pos : String} {aft : Array Edge} {gd' : Option (Nat × Bool)} {t yt : TypeId} {x y : Operand}
theorem run_eql_arr {P : Program} {k : IntKind} {s n : Nat} (hk : UK k s) (h : TArr P t n k) (w : World) (l r : List (BitVec s)) (hl : l.length = n) (hr : r.length = n) :
    (do eqGuard .eql t x y (.agg (encL (fun a : BitVec s => Value.int k (a.toNat : Int)) l)) (.agg (encL (fun a : BitVec s => Value.int k (a.toNat : Int)) r)); binOp .eql t (.agg (encL (fun a : BitVec s => Value.int k (a.toNat : Int)) l)) (.agg (encL (fun a : BitVec s => Value.int k (a.toNat : Int)) r)) : Sem Value).run P w = .ok (.bool (decide (l = r))) w := by
  have hg : (eqGuard .eql t x y (.agg (encL (fun a : BitVec s => Value.int k (a.toNat : Int)) l)) (.agg (encL (fun a : BitVec s => Value.int k (a.toNat : Int)) r))).run P w = .ok () w := by
    unfold eqGuard
    simp [h.guard]
  rw [Sem.run_bind, hg, Result.andThen_ok]
  have e : ∀ l : List (BitVec s), encL (fun a : BitVec s => Value.int k (a.toNat : Int)) l = ((l.map fun a => (a.toNat : Int)).map (Value.int k)).toArray := fun l => by simp [encL]
  rw [e, e]
  have := run_eqArr h w (l.map fun a => (a.toNat : Int)) (r.map fun a => (a.toNat : Int)) (by simpa using hl) (by simpa using hr) (by simp only [List.mem_map]; rintro m ⟨a, _, rfl⟩; exact wf_u hk a) (by simp only [List.mem_map]; rintro m ⟨a, _, rfl⟩; exact wf_u hk a)
  simp only [binOp, Sem.run_bind, this, Result.andThen_ok, Sem.run_pure]
  congr 2
  rw [decide_eq_decide]
  constructor
  · intro he
    exact (List.map_inj_right (fun a b hab => BitVec.eq_of_toNat_eq (by exact_mod_cast hab))).1 he
  · intro he; rw [he]
theorem OpN_eqA {k : IntKind} {s n : Nat} {l r : List (BitVec s)} (hk : UK k s) (h : TArr C.P t n k) (hx : ev L x = some (.agg (encL (fun a : BitVec s => Value.int k (a.toNat : Int)) l))) (hy : ev L y = some (.agg (encL (fun a : BitVec s => Value.int k (a.toNat : Int)) r))) (hl : l.length = n) (hr : r.length = n) :
    OpN C ⟨dst, .binOp .eql t x y yt, ty, pos, aft, gd'⟩ L H (.bool (decide (l = r))) :=
  OpN_of fun a w hk' _ => by
    simp only [execOp, hk'.eval hx, hk'.eval hy]
    rw [Sem.run_bind, run_eql_arr hk h w l r hl hr]
    rfl
theorem OpN_eq8 {n : Nat} {l r : List (BitVec 8)} (hx : ev L x = some (.agg (encL u8 l))) (hy : ev L y = some (.agg (encL u8 r))) [h : TArr C.P t n .u8] [hl : Len l n] [hr : Len r n] : OpN C ⟨dst, .binOp .eql t x y yt, ty, pos, aft, gd'⟩ L H (.bool (decide (l = r))) :=
  OpN_eqA (k := .u8) inferInstance h hx hy hl.eq hr.eq
theorem OpN_eq64 {n : Nat} {l r : List (BitVec 64)} (hx : ev L x = some (.agg (encL u64 l))) (hy : ev L y = some (.agg (encL u64 r))) [h : TArr C.P t n .u64] [hl : Len l n] [hr : Len r n] : OpN C ⟨dst, .binOp .eql t x y yt, ty, pos, aft, gd'⟩ L H (.bool (decide (l = r))) :=
  OpN_eqA (k := .u64) inferInstance h hx hy hl.eq hr.eq

/-! ### builtins -/
theorem run_bi {b : Builtin} {xs : List Operand} {ts : Array TypeId} {vs : List Value} {N : Nat} {a : Act} {w : World} {P : Program} (hk : Knows N a L) (hv : evs L xs = some vs) :
    (execOp a.eval ⟨dst, .call ⟨.builtin b, xs.toArray, ts⟩, ty, pos, aft, gd'⟩).run P w = (builtin b ts ty (xs.toArray.map fun | .const _ => true | _ => false) vs.toArray).run P w := by
  simp only [execOp, resolve, Sem.run_bind, Sem.run_pure, Result.andThen_ok, invoke, List.map_toArray, hk.evals hv]
  rfl
theorem OpN_bi {b : Builtin} {xs : List Operand} {ts : Array TypeId} {vs : List Value} {v : Value} (hv : evs L xs = some vs) (h : ∀ cs w, (builtin b ts ty cs vs.toArray).run C.P w = .ok (.value v) w) :
    OpN C ⟨dst, .call ⟨.builtin b, xs.toArray, ts⟩, ty, pos, aft, gd'⟩ L H v := OpN_of fun a w hk _ => by rw [run_bi hk hv, h]
theorem OpN_len {o : Option Addr} {l c : Nat} {t e : TypeId} (hx : ev L x = some (.slice o l c)) [hu : TU C.P t (.slice e)] : OpN C ⟨dst, .call ⟨.builtin .len, #[x], #[t]⟩, ty, pos, aft, gd'⟩ L H (iv l) :=
  OpN_bi (xs := [x]) (vs := [.slice o l c]) (by simp only [evs, hx]) fun cs w => by
    simp only [builtin, Builtin.len_, Sem.run_bind, List.getElem?_toArray, List.getElem?_cons_zero, run_under hu.eq, Result.andThen_ok, Sem.run_pure, goInt]
theorem OpN_lenS {s : ByteArray} {t : TypeId} (hx : ev L x = some (.string s)) [hu : TU C.P t .string] : OpN C ⟨dst, .call ⟨.builtin .len, #[x], #[t]⟩, ty, pos, aft, gd'⟩ L H (iv s.size) :=
  OpN_bi (xs := [x]) (vs := [.string s]) (by simp only [evs, hx]) fun cs w => by
    simp only [builtin, Builtin.len_, Sem.run_bind, List.getElem?_toArray, List.getElem?_cons_zero, run_under hu.eq, Result.andThen_ok, Sem.run_pure, goInt]
theorem OpN_min {m n : Int} {ts : Array TypeId} (hx : ev L x = some (iv m)) (hy : ev L y = some (iv n)) : OpN C ⟨dst, .call ⟨.builtin .min, #[x, y], ts⟩, ty, pos, aft, gd'⟩ L H (iv (min m n)) :=
  OpN_bi (xs := [x, y]) (vs := [iv m, iv n]) (by simp only [evs, hx, hy]) fun cs w => by
    have : (Builtin.min_ ts ty [iv m, iv n].toArray).run C.P w = .ok (iv (min m n)) w := by
      simp only [Builtin.min_, List.foldlM_cons, List.foldlM_nil, Builtin.min2, Sem.run_bind, Sem.run_pure, Result.andThen_ok]
      congr 2
      split <;> omega
    simp only [builtin, Sem.run_bind, this, Result.andThen_ok, Sem.run_pure]
theorem OpN_max {m n : Int} {ts : Array TypeId} (hx : ev L x = some (iv m)) (hy : ev L y = some (iv n)) : OpN C ⟨dst, .call ⟨.builtin .max, #[x, y], ts⟩, ty, pos, aft, gd'⟩ L H (iv (max m n)) :=
  OpN_bi (xs := [x, y]) (vs := [iv m, iv n]) (by simp only [evs, hx, hy]) fun cs w => by
    have : (Builtin.max_ ts ty [iv m, iv n].toArray).run C.P w = .ok (iv (max m n)) w := by
      simp only [Builtin.max_, List.foldlM_cons, List.foldlM_nil, Builtin.max2, Sem.run_bind, Sem.run_pure, Result.andThen_ok]
      congr 2
      split <;> omega
    simp only [builtin, Sem.run_bind, this, Result.andThen_ok, Sem.run_pure]
theorem OpN_indexStr {k : IntKind} {m : Int} {n : Nat} {s : ByteArray} {c : UInt8} (hx : ev L x = some (.string s)) (hy : ev L y = some (.int k m)) [hu : TU C.P t .string] [hm : NatI m n] (hc : s[n]? = some c) : OpN C ⟨dst, .index t x y, ty, pos, aft, gd'⟩ L H (.int .u8 (c.toNat : Int)) :=
  OpN_of fun a w hk _ => by
    have hm := hm.eq
    subst hm
    have h1 : (0 : Int) ≤ (n : Int) := by omega
    simp only [execOp, hk.eval hx, hk.eval hy, Instr.index, asIntOf, Sem.run_bind, Sem.run_pure, Result.andThen_ok, run_under hu.eq, h1, if_true, Int.toNat_natCast, hc]
theorem OpN_build {ps : List (Nat × Operand)} {vs : List Value} {v : Value} (hv : evs L (ps.map (·.2)) = some vs) (h : ∀ w, (Instr.build t ((ps.map (·.1)).zip vs).toArray).run C.P w = .ok v w) : OpN C ⟨dst, .build t ps.toArray, ty, pos, aft, gd'⟩ L H v :=
  OpN_of fun a w hk _ => by
    have e : (ps.toArray.map fun (i, x) => (i, a.eval x)) = ((ps.map (·.1)).zip vs).toArray := by
      have := hk.evals hv
      rw [List.map_toArray]
      congr 1
      rw [← this]
      clear hv h this
      induction ps with
      | nil => rfl
      | cons p r ih => simp [ih]
    simp only [execOp, e, Sem.run_bind, h w, Result.andThen_ok, Sem.run_pure]
/-! ### a slice built in place, of parts of one cell -/
theorem fill_cells : ∀ (vs : List Value) (k : Nat) (c : Array Value), (∀ v ∈ vs, v.oneCell' = true) → k + vs.length ≤ c.size → Instr.fill (fun i => some (i * 1, 1)) c ((List.range' k vs.length).zip vs) = some (splice c k vs)
  | [], k, c, _, _ => rfl
  | v :: r, k, c, hv, hk => by
    have h1 := hv v (by simp)
    have hcl : v.cells = #[v] := by cases v <;> first | rfl | (simp [Value.oneCell'] at h1)
    simp only [List.length_cons] at hk
    simp only [List.length_cons, List.range'_succ, List.zip_cons_cons, Instr.fill, hcl, Nat.mul_one]
    rw [if_neg (by simp; omega)]
    have := fill_cells r (k + 1) (c.setIfInBounds k v) (fun u hu => hv u (by simp [hu])) (by simp; omega)
    simp only [splice]
    simpa using this
theorem OpE_bslice {n e : Nat} {ps : List (Nat × Operand)} {vs : List Value} {z : Value} [hu : TU C.P t (.slice e)] [hs : TS C.P e 1] [hz : TZ C.P e z] (hv : evs L (ps.map (·.2)) = some vs) (hn : vs.length = n) (hi : ps.map (·.1) = List.range' 0 vs.length) (ho' : vs.all Value.oneCell' = true) (hb : Nat.ble n 16777216 = true) (h0 : Nat.blt 0 n = true) :
    OpE C ⟨dst, .buildSlice t n ps.toArray, ty, pos, aft, gd'⟩ L H (fun u H' => ∃ b, u = slv b 0 n n ∧ H' = own (blk b (.cells vs.toArray e (0, 0))) :: H) := fun a w hk hs' => by
  have ho : ∀ v ∈ vs, v.oneCell' = true := fun v hv => List.all_eq_true.1 ho' v hv
  have e1 : (ps.toArray.map fun (i, x) => (i, a.eval x)) = ((ps.map (·.1)).zip vs).toArray := by
    have := hk.evals hv
    rw [List.map_toArray]
    congr 1
    rw [← this]
    clear hv this hi ho ho' hn
    induction ps with
    | nil => rfl
    | cons p r ih => simp [ih]
  have hb' : n ≤ 16777216 := by simpa using hb
  have h0' : 0 < n := by simpa using h0
  have hsz : ∀ z : Array Value, ((Array.range n).map fun i => z[i % z.size]!).size = n := by simp
  have hrun : (execOp a.eval ⟨dst, .buildSlice t n ps.toArray, ty, pos, aft, gd'⟩).run C.P w = .ok (.value (slv w.heap.size 0 n n)) { w with heap := w.heap.push (.cells vs.toArray e (0, 0)) } := by
    simp only [execOp, e1, Instr.buildSlice, Sem.run_bind, run_under hu.eq, Result.andThen_ok, hs.eq, Nat.mul_one]
    rw [if_neg (by omega), if_neg (by omega)]
    simp only [Sem.run_bind, hz.eq, Result.andThen_ok, Sem.run_pure, hi]
    have hf := fill_cells vs 0 ((Array.range n).map fun i => z.cells[i % z.cells.size]!) ho (by rw [hsz]; omega)
    rw [splice_all _ _ (by rw [hsz]; exact hn)] at hf
    simp only [Nat.mul_one] at hf
    simp only [hf, newRow, Sem.run_bind, run_newObj, Result.andThen_ok, Sem.run_pure]
  rw [hrun]
  refine ⟨_, ⟨w.heap.size, rfl, rfl⟩, hs'.push (Keep.push w _) ?_ (fun b hb => Nat.le_of_eq hb.symm)⟩
  show (w.heap.push _)[w.heap.size]? = some _
  simp
end
theorem SG_newS {C : Cx} {ops : Array Oper} {Hs H : Hp} {L : Fr} {k : Fr → Hp → Prop} {d : Tmp} {op : Op} {ty : TypeId} {pos : String} {aft : Array Edge} {gu : Option (Nat × Bool)} {o : Obj} {n c : Nat} (h : OpE C ⟨some d, op, ty, pos, aft, gu⟩ L H (fun u H' => ∃ b, u = slv b 0 n c ∧ H' = own (blk b o) :: H))
    (hg : gdB ops L gu = true) (hd : Nat.blt d C.N = true) [hs : SubL Hs H] (hk : ∀ b, k ((d, slv b 0 n c) :: L) (own (blk b o) :: H)) : SG C ops Hs .eff ⟨some d, op, ty, pos, aft, gu⟩ L H k :=
  SG_E h hg hd fun _ _ ⟨b, hv, hH⟩ => by subst hv; subst hH; exact ⟨fun _ h => h.tail.sublist hs.sub, hk b⟩
end Go.Sp

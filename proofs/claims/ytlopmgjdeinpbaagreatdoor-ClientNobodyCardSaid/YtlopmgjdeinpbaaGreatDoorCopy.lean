/- The calculus: copy; calls that turn one block; calls that make one; slices read in part. -/
import Derived.Test.YtlopmgjdeinpbaaGreatDoorMore
namespace Go.Sp
open Go Go.RowKit

theorem Sees.take {α : Type} {f : α → List Value} {s : Nat} [h : Enc f s] {w : World} {o : Option Addr} {l : List α} (m : Nat) (hs : Sees w o (cat f l)) : Sees w o (cat f (l.take m)) := by
  rcases hs with h0 | ⟨g, off, cur, T, fz, h1, h2, h3⟩
  · left; rw [cat_take, h0]; simp
  · refine .inr ⟨g, off, cur, T, fz, h1, h2, fun j v hj => ?_⟩
    rw [cat_take, List.getElem?_take] at hj
    split at hj
    · exact h3 _ _ hj
    · cases hj
/-- A chunk to read makes room for what it implies. -/
theorem St.implied {G : Nat → Prop} {w₀ w : World} {H : Hp} {c c' : Chunk} (h : St G w₀ (ro c :: H) w) (hp : ∀ w, c.prop w → c'.prop w) (hf : ∀ b, c'.foot b → c.foot b) : St G w₀ (ro c' :: H) w := by
  obtain ⟨h1, h2, h3, h4⟩ := st_iff.1 h
  refine st_iff.2 ⟨h1, fun e he => ?_, fun e he ho b hb => ?_, ?_⟩
  · rcases List.mem_cons.1 he with rfl | he
    · exact hp _ (h2 (ro c) (by simp))
    · exact h2 e (by simp [he])
  · rcases List.mem_cons.1 he with rfl | he
    · cases ho
    · exact h3 e (by simp [he]) ho b hb
  · rw [List.pairwise_cons] at h4 ⊢
    exact ⟨fun e he ho b hb => h4.1 e he (by rcases ho with ho | ho; cases ho; exact .inr ho) b (hf b hb), h4.2⟩
theorem vw_part {α : Type} {f : α → List Value} {s : Nat} [h : Enc f s] {o : Option Addr} {l : List α} {c k : Nat} (hlc : l.length ≤ c) (w : World) (hs : (vw o f l).prop w) : (vw (adv o c k s) f (l.drop k)).prop w := by
  show Sees w (adv o c k s) (cat f (l.drop k))
  by_cases hk : k < c
  · have := Sees.part (m := l.length) (s := s) hs hk
    rwa [List.take_of_length_le (by simp)] at this
  · left
    rw [List.drop_eq_nil_of_le (by omega)]
    rfl
theorem vw_foot {α : Type} {f : α → List Value} {s : Nat} [h : Enc f s] {o : Option Addr} {l : List α} {c k : Nat} (b : Nat) (hb : (vw (adv o c k s) f (l.drop k)).foot b) : (vw o f l).foot b := by
  obtain ⟨hx, a, ha, hb⟩ := hb
  refine ⟨fun e => hx (by rw [cat_drop, e]; simp), ?_⟩
  unfold adv at ha
  split at ha
  · exact ⟨a, ha, hb⟩
  · cases o with
    | none => cases ha
    | some a' =>
      simp only [Option.map_some, Option.some.injEq] at ha
      subst ha
      refine ⟨a', rfl, ?_⟩
      rw [← hb]
      unfold Addr.add
      split <;> rfl

section
variable {C : Cx} {L : Fr} {H H' : Hp} {dst : Option Tmp} {ty : TypeId} {pos : String} {aft : Array Edge} {gd' : Option (Nat × Bool)} {t t' e : TypeId} {x y : Operand} {b o : Nat}
theorem run_copy {P : Program} {w : World} {dn dc n c1 : Nat} {o' : Option Addr} {xs : List Value} {c : Array Value} {T : TypeId} (hu : P.underlying t = some (.slice e)) (hs : ∀ w, (sizeOf e).run P w = .ok 1 w) (hb : w.heap[b]? = some (.cells c T (0, 0)))
    (hsee : Sees w o' xs) (hn : xs.length = n) (h1 : ∀ v ∈ xs, v.oneCell' = true) (hfit : o + min n dn ≤ c.size) :
    ∃ w', (Builtin.copy_ #[t, t'] ty #[slv b o dn dc, .slice o' n c1]).run P w = .ok (iv ((min n dn : Nat) : Int)) w' ∧ Keep (fun k => k = b) w w' ∧ w'.heap[b]? = some (.cells (splice c o (xs.take (min n dn))) T (0, 0)) := by
  have hf : (Builtin.firstCells 1 (min n dn) (.slice o' n c1)).run P w = .ok (xs.take (min n dn)).toArray w := by
    cases o' with
    | none =>
      rcases hsee with h0 | ⟨g, off, cur, T', fz, h0, _⟩
      · simp [Builtin.firstCells, h0]
      · cases h0
    | some a =>
      refine run_firstCells_some (P := P) w 1 (min n dn) a n c1 _ (by simp; omega) fun j v hj => hsee.cells j v ?_
      rw [List.getElem?_take] at hj
      split at hj
      · exact hj
      · cases hj
  obtain ⟨w', h2, h3, h4⟩ := run_storesFrom (P := P) (o := o) (xs.take (min n dn)) 0 c w hb (by simp; omega) (fun v hv => h1 v (List.mem_of_mem_take hv))
  refine ⟨w', ?_, h3, by simpa using h4⟩
  have hmin : Nat.min n dn = min n dn := rfl
  simp only [Builtin.copy_, List.getElem?_toArray, List.getElem?_cons_zero, List.getElem?_cons_succ, Sem.run_bind, run_under hu, Result.andThen_ok, Builtin.lenOf, Sem.run_pure, hs, hmin, hf, h2, goInt]
theorem OpD_copy {α : Type} {f : α → List Value} {r : List α} {dn dc c1 : Nat} {o' : Option Addr} {c c' : Array Value} {T : TypeId} (hx : ev L x = some (slv b o dn dc)) (hy : ev L y = some (.slice o' r.length c1)) [hu : TU C.P t (.slice e)] [hs : TS C.P e 1] [hr : Rd H o' f r] [hE : Enc f 1]
    [hb : Upd H b (.cells c T (0, 0)) (.cells c' T (0, 0)) H'] (hfit : o + min r.length dn ≤ c.size) (hsp : splice c o ((cat f r).take (min r.length dn)) = c') :
    OpD C ⟨dst, .call ⟨.builtin .copy, #[x, y], #[t, t']⟩, ty, pos, aft, gd'⟩ L H (iv ((min r.length dn : Nat) : Int)) H' := fun a w hk hst => by
  have hbk : w.heap[b]? = some (.cells c T (0, 0)) := by
    obtain ⟨i, h, _⟩ := hb.get
    exact hst.props i _ h
  obtain ⟨w', h1, h2, h3⟩ := run_copy (t' := t') (ty := ty) (dc := dc) (c1 := c1) hu.eq hs.eq hbk (hr.get hst) (by rw [cat_length, Nat.mul_one]) (cat_one r) hfit
  rw [run_bi (xs := [x, y]) (vs := [slv b o dn dc, .slice o' r.length c1]) hk (by simp only [evs, hx, hy])]
  simp only [builtin, Sem.run_bind, h1, Result.andThen_ok, Sem.run_pure]
  refine ⟨_, ⟨rfl, rfl⟩, hst.upd hb h2 ?_⟩
  rw [h3, hsp]
/-- A call that turns one block. -/
theorem OpD_turn (b : Nat) {ob ob' : Obj} {v : Value} {fn : FuncId} {xs : List Operand} {ats : Array TypeId} {vs : List Value} [CF C.P fn] (hv : evs L xs = some vs) [hb : Upd H b ob ob' H']
    (h : ∀ w, St C.G C.w₀ H w → Calls C.P fn vs.toArray w (fun e w' => e = .returned v ∧ Keep (fun k => k = b) w w' ∧ w'.heap[b]? = some ob')) :
    OpD C ⟨dst, .call ⟨.value (.func fn), xs.toArray, ats⟩, ty, pos, aft, gd'⟩ L H v H' :=
  OpE_call hv fun w hs => (h w hs).mono fun _ w' ⟨he, hk, hb'⟩ => ⟨v, H', he, ⟨rfl, rfl⟩, hs.upd hb hk hb'⟩
/-- The same, where what the block holds is one of a family. -/
theorem OpE_turnX {X : Type} (b : Nat) {ob : Obj} (obx : X → Obj) (I : X → Prop) {HX : X → Hp} {v : Value} {fn : FuncId} {xs : List Operand} {ats : Array TypeId} {vs : List Value} [CF C.P fn] (hv : evs L xs = some vs) [hb : ∀ x, Upd H b ob (obx x) (HX x)]
    (h : ∀ w, St C.G C.w₀ H w → Calls C.P fn vs.toArray w (fun e w' => e = .returned v ∧ Keep (fun k => k = b) w w' ∧ ∃ x, I x ∧ w'.heap[b]? = some (obx x))) :
    OpE C ⟨dst, .call ⟨.value (.func fn), xs.toArray, ats⟩, ty, pos, aft, gd'⟩ L H (fun u G => ∃ x, I x ∧ u = v ∧ G = HX x) :=
  OpE_call hv fun w hs => (h w hs).mono fun _ _ ⟨he, hk, x, hx, hb'⟩ => ⟨v, HX x, he, ⟨x, hx, rfl, rfl⟩, hs.upd (hb x) hk hb'⟩
theorem SG_X {X : Type} {I : X → Prop} {HX : X → Hp} {v : Value} {ops : Array Oper} {Hs : Hp} {k : Fr → Hp → Prop} {d : Tmp} {op : Op} (h : OpE C ⟨some d, op, ty, pos, aft, gd'⟩ L H (fun u G => ∃ x, I x ∧ u = v ∧ G = HX x))
    (hg : gdB ops L gd' = true) (hd : Nat.blt d C.N = true) [hs : ∀ x, SubL Hs (HX x)] (hk : ∀ x, I x → k ((d, v) :: L) (HX x)) : SG C ops Hs .eff ⟨some d, op, ty, pos, aft, gd'⟩ L H k :=
  SG_E h hg hd fun _ _ ⟨x, hx, hv, hH⟩ => by subst hv; subst hH; exact ⟨fun _ h => h.sublist (hs x).sub, hk x hx⟩
/-- A function that makes one block. -/
def FreshB (P : Program) (fn : FuncId) (vs : List Value) (ob : Obj) (w : World) : Prop :=
  Calls P fn vs.toArray w fun x w' => ∃ b, x = .returned (ptr b 0) ∧ Grow w w' ∧ w'.heap[b]? = some ob ∧ w.heap.size ≤ b
theorem OpE_freshB {ob : Obj} {fn : FuncId} {xs : List Operand} {ats : Array TypeId} {vs : List Value} [CF C.P fn] (hv : evs L xs = some vs) (h : ∀ w, St C.G C.w₀ H w → FreshB C.P fn vs ob w) :
    OpE C ⟨dst, .call ⟨.value (.func fn), xs.toArray, ats⟩, ty, pos, aft, gd'⟩ L H (fun u H' => ∃ b, u = ptr b 0 ∧ H' = own (blk b ob) :: H) :=
  OpE_call hv fun w hs => (h w hs).mono fun _ w' ⟨b, hx, hg, hp, hf⟩ => ⟨_, _, hx, ⟨b, rfl, rfl⟩, hs.push hg hp (fun k hk => by have : k = b := hk; subst this; exact hf)⟩
end
end Go.Sp

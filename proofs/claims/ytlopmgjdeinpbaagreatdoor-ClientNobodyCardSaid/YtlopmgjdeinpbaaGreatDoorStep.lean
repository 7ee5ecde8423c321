/- One step of a walk, in a region of fixed order or in one that draws: the goal 'SG', and the shapes by which a walk finds its rule. -/
import Derived.Test.YtlopmgjdeinpbaaGreatDoorDraw
namespace Go.Sp
open Go Go.RowKit

/-- One operation is to be done; 'k' is what is owed behind it. -/
def SG (C : Cx) (ops : Array Oper) (Hs : Hp) (kd : Kd) (o : Oper) (L : Fr) (H : Hp) (k : Fr → Hp → Prop) : Prop :=
  (gdN ops L o.guard = true ∧ okD C.N o.dst = true ∧ k (putF o.dst undef L) H) ∨ (gdB ops L o.guard = true ∧ okD C.N o.dst = true ∧ match kd with
    | .all => ∃ v, OpN C o L Hs v ∧ k (putF o.dst v L) H
    | .pre => ∃ v, OpN C o L H v ∧ k (putF o.dst v L) H
    | .eff => ∃ post, OpE C o L H post ∧ ∀ v H', post v H' → (∀ w, St C.G C.w₀ H' w → St C.G C.w₀ Hs w) ∧ k (putF o.dst v L) H')

section
variable {C : Cx} {ops : Array Oper} {Q : Exit → Act → World → Prop} {Hs H : Hp} {L : Fr} {kd : Kd} {k : Fr → Hp → Prop}

theorem VL_step {o : Oper} {rest : List Oper} (h : SG C ops [] .eff o L H (fun L' H' => VL C ops Q rest L' H')) : VL C ops Q (o :: rest) L H := fun a w hk hs => by
  obtain ⟨dst, op, ty, pos, aft, gu⟩ := o
  rcases h with ⟨hg, hd, hK⟩ | ⟨hg, hd, post, hE, hK⟩
  · unfold wpList
    rw [if_neg (by rw [hk.unwanted hg]; exact Bool.false_ne_true)]
    exact hK _ w (hk.putF hd) hs
  · unfold wpList
    rw [if_pos (hk.wanted hg)]
    exact .inl ((hE a w hk hs).upon fun v w' ⟨H', hp, hs'⟩ => (hK v H' hp).2 _ _ (hk.putF hd) hs')

theorem VD_step {i : Nat} {o : Oper} {r : List (Nat × Kd)} (hi : ops[i]? = some o) (h : SG C ops Hs kd o L H (fun L' H' => VD C ops Q Hs r L' H')) : VD C ops Q Hs ((i, kd) :: r) L H := fun a hk => by
  obtain ⟨dst, op, ty, pos, aft, gu⟩ := o
  rcases h with ⟨hg, hd, hK⟩ | ⟨hg, hd, hK⟩
  · simp only [wpO, hi, hk.unwanted hg, if_false, Bool.false_eq_true]
    exact hK _ (hk.putF hd)
  · simp only [wpO, hi, hk.wanted hg, if_true]
    cases kd with
    | all => obtain ⟨v, h, hK⟩ := hK; exact ⟨v, fun w hw => h a w hk hw, hK _ (hk.putF hd)⟩
    | pre => obtain ⟨v, h, hK⟩ := hK; exact ⟨v, fun w hw => h a w hk hw, hK _ (hk.putF hd)⟩
    | eff =>
      obtain ⟨post, hE, hK⟩ := hK
      exact fun w hw => (hE a w hk hw).mono fun v w' ⟨H', hp, hs⟩ => ⟨_, hs, ⟨fun _ _ h g => h.grow g, (hK v H' hp).1⟩, (hK v H' hp).2 _ (hk.putF hd)⟩

section
variable {d : Tmp} {dst : Option Tmp} {op : Op} {ty : TypeId} {pos : String} {aft : Array Edge} {gu : Option (Nat × Bool)} {v : Value}
theorem SG_pass (hg : gdN ops L gu = true) (hd : Nat.blt d C.N = true) (h : k ((d, undef) :: L) H) : SG C ops Hs kd ⟨some d, op, ty, pos, aft, gu⟩ L H k := .inl ⟨hg, hd, h⟩
/-- What looks at no memory. -/
theorem SG_N (h : ∀ H, OpN C ⟨some d, op, ty, pos, aft, gu⟩ L H v) (hg : gdB ops L gu = true) (hd : Nat.blt d C.N = true) [hs : SubL Hs H] (hk : k ((d, v) :: L) H) : SG C ops Hs kd ⟨some d, op, ty, pos, aft, gu⟩ L H k :=
  .inr ⟨hg, hd, match kd with
    | .all => ⟨v, h _, hk⟩
    | .pre => ⟨v, h _, hk⟩
    | .eff => ⟨_, (h H).toE, fun _ _ ⟨hv, hH⟩ => by subst hv; subst hH; exact ⟨fun _ h => h.sublist hs.sub, hk⟩⟩⟩
/-- What looks at memory. -/
theorem SG_R (h : OpN C ⟨some d, op, ty, pos, aft, gu⟩ L H v) (hg : gdB ops L gu = true) (hd : Nat.blt d C.N = true) [hs : SubL Hs H] (hk : k ((d, v) :: L) H) : SG C ops Hs .eff ⟨some d, op, ty, pos, aft, gu⟩ L H k :=
  .inr ⟨hg, hd, ⟨_, h.toE, fun _ _ ⟨hv, hH⟩ => by subst hv; subst hH; exact ⟨fun _ h => h.sublist hs.sub, hk⟩⟩⟩
theorem SG_Rp (h : OpN C ⟨some d, op, ty, pos, aft, gu⟩ L H v) (hg : gdB ops L gu = true) (hd : Nat.blt d C.N = true) (hk : k ((d, v) :: L) H) : SG C ops Hs .pre ⟨some d, op, ty, pos, aft, gu⟩ L H k := .inr ⟨hg, hd, v, h, hk⟩
theorem SG_Ra (h : OpN C ⟨some d, op, ty, pos, aft, gu⟩ L Hs v) (hg : gdB ops L gu = true) (hd : Nat.blt d C.N = true) (hk : k ((d, v) :: L) H) : SG C ops Hs .all ⟨some d, op, ty, pos, aft, gu⟩ L H k := .inr ⟨hg, hd, v, h, hk⟩
/-- Effects. -/
theorem SG_E {post : Value → Hp → Prop} (h : OpE C ⟨some d, op, ty, pos, aft, gu⟩ L H post) (hg : gdB ops L gu = true) (hd : Nat.blt d C.N = true) (hk : ∀ v H', post v H' → (∀ w, St C.G C.w₀ H' w → St C.G C.w₀ Hs w) ∧ k ((d, v) :: L) H') :
    SG C ops Hs .eff ⟨some d, op, ty, pos, aft, gu⟩ L H k := .inr ⟨hg, hd, post, h, hk⟩
theorem SG_E0 {post : Value → Hp → Prop} (h : OpE C ⟨none, op, ty, pos, aft, gu⟩ L H post) (hg : gdB ops L gu = true) (hk : ∀ v H', post v H' → (∀ w, St C.G C.w₀ H' w → St C.G C.w₀ Hs w) ∧ k L H') :
    SG C ops Hs .eff ⟨none, op, ty, pos, aft, gu⟩ L H k := .inr ⟨hg, rfl, post, h, hk⟩
theorem SG_D {H' : Hp} (h : OpD C ⟨some d, op, ty, pos, aft, gu⟩ L H v H') (hg : gdB ops L gu = true) (hd : Nat.blt d C.N = true) [hs : SubL Hs H'] (hk : k ((d, v) :: L) H') : SG C ops Hs .eff ⟨some d, op, ty, pos, aft, gu⟩ L H k :=
  SG_E h hg hd fun _ _ ⟨hv, hH⟩ => by subst hv; subst hH; exact ⟨fun _ h => h.sublist hs.sub, hk⟩
theorem SG_D0 {H' : Hp} (h : OpD C ⟨none, op, ty, pos, aft, gu⟩ L H v H') (hg : gdB ops L gu = true) [hs : SubL Hs H'] (hk : k L H') : SG C ops Hs .eff ⟨none, op, ty, pos, aft, gu⟩ L H k :=
  SG_E0 h hg fun _ _ ⟨_, hH⟩ => by subst hH; exact ⟨fun _ h => h.sublist hs.sub, hk⟩
theorem SG_new {o : Obj} (h : OpE C ⟨some d, op, ty, pos, aft, gu⟩ L H (fun u H' => ∃ b, u = ptr b 0 ∧ H' = own (blk b o) :: H)) (hg : gdB ops L gu = true) (hd : Nat.blt d C.N = true) [hs : SubL Hs H] (hk : ∀ b, k ((d, ptr b 0) :: L) (own (blk b o) :: H)) :
    SG C ops Hs .eff ⟨some d, op, ty, pos, aft, gu⟩ L H k :=
  SG_E h hg hd fun _ _ ⟨b, hv, hH⟩ => by subst hv; subst hH; exact ⟨fun _ h => h.tail.sublist hs.sub, hk b⟩
end

/-! ### Shapes -/
section
variable {d : Option Tmp} {ty : TypeId} {pos : String} {aft : Array Edge} {gu : Option (Nat × Bool)} {t u : TypeId} {x y z : Operand} {n : Nat}
theorem sh_move (h : SG C ops Hs kd ⟨d, .move x, ty, pos, aft, gu⟩ L H k) : SG C ops Hs kd ⟨d, .move x, ty, pos, aft, gu⟩ L H k := h
theorem sh_assign (h : SG C ops Hs kd ⟨d, .assign x, ty, pos, aft, gu⟩ L H k) : SG C ops Hs kd ⟨d, .assign x, ty, pos, aft, gu⟩ L H k := h
theorem sh_load (h : SG C ops Hs kd ⟨d, .load t x, ty, pos, aft, gu⟩ L H k) : SG C ops Hs kd ⟨d, .load t x, ty, pos, aft, gu⟩ L H k := h
theorem sh_store (h : SG C ops Hs kd ⟨d, .store t x y, ty, pos, aft, gu⟩ L H k) : SG C ops Hs kd ⟨d, .store t x y, ty, pos, aft, gu⟩ L H k := h
theorem sh_field (h : SG C ops Hs kd ⟨d, .fieldAddr t x n, ty, pos, aft, gu⟩ L H k) : SG C ops Hs kd ⟨d, .fieldAddr t x n, ty, pos, aft, gu⟩ L H k := h
theorem sh_index (h : SG C ops Hs kd ⟨d, .indexAddr t x y, ty, pos, aft, gu⟩ L H k) : SG C ops Hs kd ⟨d, .indexAddr t x y, ty, pos, aft, gu⟩ L H k := h
theorem sh_nil (h : SG C ops Hs kd ⟨d, .nilCheck x, ty, pos, aft, gu⟩ L H k) : SG C ops Hs kd ⟨d, .nilCheck x, ty, pos, aft, gu⟩ L H k := h
theorem sh_extract (h : SG C ops Hs kd ⟨d, .extract x n, ty, pos, aft, gu⟩ L H k) : SG C ops Hs kd ⟨d, .extract x n, ty, pos, aft, gu⟩ L H k := h
theorem sh_pick (h : SG C ops Hs kd ⟨d, .pick x y z, ty, pos, aft, gu⟩ L H k) : SG C ops Hs kd ⟨d, .pick x y z, ty, pos, aft, gu⟩ L H k := h
theorem sh_box (h : SG C ops Hs kd ⟨d, .box t x, ty, pos, aft, gu⟩ L H k) : SG C ops Hs kd ⟨d, .box t x, ty, pos, aft, gu⟩ L H k := h
theorem sh_alloc (h : SG C ops Hs kd ⟨d, .alloc t, ty, pos, aft, gu⟩ L H k) : SG C ops Hs kd ⟨d, .alloc t, ty, pos, aft, gu⟩ L H k := h
theorem sh_conv (h : SG C ops Hs kd ⟨d, .convert t u x, ty, pos, aft, gu⟩ L H k) : SG C ops Hs kd ⟨d, .convert t u x, ty, pos, aft, gu⟩ L H k := h
theorem sh_bin (o : BinOp) (h : SG C ops Hs kd ⟨d, .binOp o t x y u, ty, pos, aft, gu⟩ L H k) : SG C ops Hs kd ⟨d, .binOp o t x y u, ty, pos, aft, gu⟩ L H k := h
theorem sh_un (o : UnOp) (h : SG C ops Hs kd ⟨d, .unOp o t x, ty, pos, aft, gu⟩ L H k) : SG C ops Hs kd ⟨d, .unOp o t x, ty, pos, aft, gu⟩ L H k := h
theorem sh_bi (b : Builtin) {xs : Array Operand} {ts : Array TypeId} (h : SG C ops Hs kd ⟨d, .call ⟨.builtin b, xs, ts⟩, ty, pos, aft, gu⟩ L H k) : SG C ops Hs kd ⟨d, .call ⟨.builtin b, xs, ts⟩, ty, pos, aft, gu⟩ L H k := h
theorem sh_call (f : FuncId) {xs : Array Operand} {ts : Array TypeId} (h : SG C ops Hs kd ⟨d, .call ⟨.value (.func f), xs, ts⟩, ty, pos, aft, gu⟩ L H k) : SG C ops Hs kd ⟨d, .call ⟨.value (.func f), xs, ts⟩, ty, pos, aft, gu⟩ L H k := h
theorem sh_slice {lo hi mx : Option Operand} (h : SG C ops Hs kd ⟨d, .slice t x lo hi mx, ty, pos, aft, gu⟩ L H k) : SG C ops Hs kd ⟨d, .slice t x lo hi mx, ty, pos, aft, gu⟩ L H k := h
theorem sh_indexv (h : SG C ops Hs kd ⟨d, .index t x y, ty, pos, aft, gu⟩ L H k) : SG C ops Hs kd ⟨d, .index t x y, ty, pos, aft, gu⟩ L H k := h
theorem sh_build {ps : Array (Nat × Operand)} (h : SG C ops Hs kd ⟨d, .build t ps, ty, pos, aft, gu⟩ L H k) : SG C ops Hs kd ⟨d, .build t ps, ty, pos, aft, gu⟩ L H k := h
theorem sh_bslice {ps : Array (Nat × Operand)} (h : SG C ops Hs kd ⟨d, .buildSlice t n ps, ty, pos, aft, gu⟩ L H k) : SG C ops Hs kd ⟨d, .buildSlice t n ps, ty, pos, aft, gu⟩ L H k := h
end
end
end Go.Sp

/- The calculus: functions with captured variables. -/
import Derived.Test.YtlopmgjdeinpbaaGreatDoorCopy
namespace Go.Sp
open Go Go.RowKit
section
variable {C : Cx} {L : Fr} {H H' : Hp} {dst : Option Tmp} {ty : TypeId} {pos : String} {aft : Array Edge} {gd' : Option (Nat × Bool)}
abbrev clos (f : FuncId) (caps : List Value) : Value := .func (.func f) #[] caps.toArray
theorem OpN_makeFunc {f : FuncId} {xs : List Operand} {vs : List Value} (hv : evs L xs = some vs) : OpN C ⟨dst, .makeFunc (.func f) #[] xs.toArray, ty, pos, aft, gd'⟩ L H (clos f vs) :=
  OpN_of fun a w hk _ => by
    simp only [execOp, Instr.makeFunc, List.map_toArray, hk.evals hv, Sem.run_bind, Sem.run_pure, Result.andThen_ok]
    rfl
theorem run_callV {P : Program} {f : FuncId} {t : Tmp} {caps : List Value} {xs : List Operand} {ats : Array TypeId} {vs : List Value} {N : Nat} {a : Act} {w : World} [hc : CF P f] (hk : Knows N a L) (ht : look t L = some (clos f caps)) (hv : evs L xs = some vs) :
    (execOp a.eval ⟨dst, .call ⟨.value (.tmp t), xs.toArray, ats⟩, ty, pos, aft, gd'⟩).run P w = .ok (.enter f (vs ++ caps).toArray) w := by
  have h1 : a.eval (.tmp t) = clos f caps := hk.eval (x := .tmp t) ht
  simp only [execOp, resolve, h1, Deferred.ofValue, Sem.run_bind, Sem.run_pure, Result.andThen_ok, invoke, List.map_toArray, hk.evals hv]
  rw [show (#[] ++ vs.toArray ++ caps.toArray : Array Value) = (vs ++ caps).toArray by simp, hc.eq]
theorem OpE_callV {f : FuncId} {t : Tmp} {caps : List Value} {xs : List Operand} {ats : Array TypeId} {vs : List Value} {post : Value → Hp → Prop} [CF C.P f] (ht : look t L = some (clos f caps)) (hv : evs L xs = some vs)
    (h : ∀ w, St C.G C.w₀ H w → Calls C.P f (vs ++ caps).toArray w (fun e w' => ∃ v H', e = .returned v ∧ post v H' ∧ St C.G C.w₀ H' w')) :
    OpE C ⟨dst, .call ⟨.value (.tmp t), xs.toArray, ats⟩, ty, pos, aft, gd'⟩ L H post := fun a w hk hs => by
  rw [run_callV hk ht hv]
  exact (h w hs).mono fun e w' ⟨v, H', he, hp, hs'⟩ => ⟨v, he, H', hp, hs'⟩
theorem OpD_turnV (b : Nat) {ob ob' : Obj} {v : Value} {f : FuncId} {t : Tmp} {caps : List Value} {xs : List Operand} {ats : Array TypeId} {vs : List Value} [CF C.P f] (ht : look t L = some (clos f caps)) (hv : evs L xs = some vs) [hb : Upd H b ob ob' H']
    (h : ∀ w, St C.G C.w₀ H w → Calls C.P f (vs ++ caps).toArray w (fun e w' => e = .returned v ∧ Keep (fun k => k = b) w w' ∧ w'.heap[b]? = some ob')) :
    OpD C ⟨dst, .call ⟨.value (.tmp t), xs.toArray, ats⟩, ty, pos, aft, gd'⟩ L H v H' :=
  OpE_callV ht hv fun w hs => (h w hs).mono fun _ _ ⟨he, hk, hb'⟩ => ⟨v, H', he, ⟨rfl, rfl⟩, hs.upd hb hk hb'⟩
theorem OpN_callV {f : FuncId} {t : Tmp} {caps : List Value} {xs : List Operand} {ats : Array TypeId} {vs : List Value} {v : Value} [CF C.P f] (ht : look t L = some (clos f caps)) (hv : evs L xs = some vs) (h : ∀ w, St C.G C.w₀ H w → Calls C.P f (vs ++ caps).toArray w (fun e w' => e = .returned v ∧ Grow w w')) :
    OpN C ⟨dst, .call ⟨.value (.tmp t), xs.toArray, ats⟩, ty, pos, aft, gd'⟩ L H v := fun a w hk hs => by
  rw [run_callV hk ht hv]
  exact ⟨rfl, h w hs⟩
end
section
variable {C : Cx} {ops : Array Oper} {Hs H : Hp} {L : Fr} {kd : Kd} {k : Fr → Hp → Prop} {d : Option Tmp} {ty : TypeId} {pos : String} {aft : Array Edge} {gu : Option (Nat × Bool)}
theorem sh_make {f : Fn} {xs ys : Array Operand} (h : SG C ops Hs kd ⟨d, .makeFunc f xs ys, ty, pos, aft, gu⟩ L H k) : SG C ops Hs kd ⟨d, .makeFunc f xs ys, ty, pos, aft, gu⟩ L H k := h
theorem sh_callV (t : Tmp) {xs : Array Operand} {ts : Array TypeId} (h : SG C ops Hs kd ⟨d, .call ⟨.value (.tmp t), xs, ts⟩, ty, pos, aft, gu⟩ L H k) : SG C ops Hs kd ⟨d, .call ⟨.value (.tmp t), xs, ts⟩, ty, pos, aft, gu⟩ L H k := h
end
/-- A part of a block, of 32 bytes. -/
instance (priority := 20) {H : Hp} {b k : Nat} {c : Array Value} {T : TypeId} {fr : Nat × Nat} {l : List (BitVec 8)} [h : At H b (.cells c T fr)] [hp : Part c k 32 (encB l)] : Rd H (some ⟨b, k, none⟩) f8 l := ⟨fun hs => by
  refine .inr ⟨b, k, c, T, fr, rfl, h.heap hs, fun j v hj => ?_⟩
  have h1 := hp.eq
  rw [cat_f1] at hj
  have h2 : (encB l)[j]? = some v := by simpa [encL] using hj
  rw [← h1, Array.getElem?_extract] at h2
  split at h2
  · exact h2
  · cases h2⟩
/-- A function that makes a slice in new memory, to be read. -/
def FreshV {α : Type} (P : Program) (fn : FuncId) (vs : List Value) (n c : Nat) (f : α → List Value) (l : List α) (w : World) : Prop :=
  Calls P fn vs.toArray w fun x w' => ∃ o, x = .returned (.slice o n c) ∧ Grow w w' ∧ (vw o f l).prop w' ∧ ∀ b, (vw o f l).foot b → w.heap.size ≤ b
section
variable {C : Cx} {L : Fr} {H : Hp} {dst : Option Tmp} {ty : TypeId} {pos : String} {aft : Array Edge} {gd' : Option (Nat × Bool)} {α : Type} {f : α → List Value} {l : List α} {n c : Nat}
theorem OpE_freshV {fn : FuncId} {xs : List Operand} {ats : Array TypeId} {vs : List Value} [CF C.P fn] (hv : evs L xs = some vs) (h : ∀ w, St C.G C.w₀ H w → FreshV C.P fn vs n c f l w) :
    OpE C ⟨dst, .call ⟨.value (.func fn), xs.toArray, ats⟩, ty, pos, aft, gd'⟩ L H (fun u H' => ∃ o, u = .slice o n c ∧ H' = own (vw o f l) :: H) :=
  OpE_call hv fun w hs => (h w hs).mono fun _ w' ⟨o, hx, hg, hp, hf⟩ => ⟨_, _, hx, ⟨o, rfl, rfl⟩, hs.push hg hp hf⟩
theorem SG_view {ops : Array Oper} {Hs : Hp} {k : Fr → Hp → Prop} {d : Tmp} {op : Op} (h : OpE C ⟨some d, op, ty, pos, aft, gd'⟩ L H (fun u H' => ∃ o, u = .slice o n c ∧ H' = own (vw o f l) :: H))
    (hg : gdB ops L gd' = true) (hd : Nat.blt d C.N = true) [hs : SubL Hs H] (hk : ∀ o, k ((d, .slice o n c) :: L) (own (vw o f l) :: H)) : SG C ops Hs .eff ⟨some d, op, ty, pos, aft, gd'⟩ L H k :=
  SG_E h hg hd fun _ _ ⟨o, hv, hH⟩ => by subst hv; subst hH; exact ⟨fun _ h => h.tail.sublist hs.sub, hk o⟩
end
section
variable {C : Cx} {L : Fr} {H H' H1 : Hp} {dst : Option Tmp} {ty : TypeId} {pos : String} {aft : Array Edge} {gd' : Option (Nat × Bool)} {t t' e : TypeId} {x y : Operand}
theorem OpE_appendN {α : Type} {f : α → List Value} {l r : List α} {o o' : Option Addr} {c c' s bytes m : Nat} (hx : ev L x = some (.slice o l.length c)) (hy : ev L y = some (.slice o' m c')) [hu : TU C.P t (.slice e)] [hi : TI C.P e s bytes] [hR : RowAt H o c e s f l H1] [hr : Rd H o' f r] [hm : Len r m] [hE : Enc f s]
    (hb : l.length + m ≤ maxLen ∧ (l.length + m) * bytes ≤ 140737488355328) :
    OpE C ⟨dst, .call ⟨.builtin .append, #[x, y], #[t, t]⟩, ty, pos, aft, gd'⟩ L H (fun u H' => ∃ o2 c2, u = .slice o2 (l ++ r).length c2 ∧ H' = own (row o2 c2 e s f (l ++ r)) :: H1) := by
  rw [← hm.eq] at hy hb
  exact OpE_append hx hy hb
theorem OpD_copyN {α : Type} {f : α → List Value} {r : List α} {dn dc c1 m b o : Nat} {o' : Option Addr} {c c' : Array Value} {T : TypeId} (hx : ev L x = some (slv b o dn dc)) (hy : ev L y = some (.slice o' m c1)) [hu : TU C.P t (.slice e)] [hs : TS C.P e 1] [hr : Rd H o' f r] [hm : Len r m] [hE : Enc f 1]
    [hb : Upd H b (.cells c T (0, 0)) (.cells c' T (0, 0)) H'] (hfit : o + min m dn ≤ c.size) (hsp : splice c o ((cat f r).take (min m dn)) = c') :
    OpD C ⟨dst, .call ⟨.builtin .copy, #[x, y], #[t, t']⟩, ty, pos, aft, gd'⟩ L H (iv ((min m dn : Nat) : Int)) H' := by
  have hm' := hm.eq
  subst hm'
  exact OpD_copy (T := T) (H' := H') hx hy hfit hsp
end
end Go.Sp

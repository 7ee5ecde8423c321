/- Regions that draw their order: one walk, in an order of ours, serves every order that the tape may pick. -/
import Derived.Test.YtlopmgjdeinpbaaGreatDoorMem
namespace Go.Sp
open Go Go.RowKit

inductive Kd where
  | all | pre | eff

section
variable {P : Program} {ops : Array Oper} {Q : Exit → Act → World → Prop} {isE : Nat → Bool} {𝒢 : (World → Prop) → Prop}

def Closed (D : World → Prop) : Prop := ∀ w w', D w → Grow w w' → D w'

def MOp (P : Program) (ops : Array Oper) (isE : Nat → Bool) (𝒢 : (World → Prop) → Prop) (i : Nat) (K : Act → (World → Prop) → Prop) (a : Act) (D : World → Prop) : Prop :=
  match ops[i]? with
  | none => K a D
  | some o =>
    if Region.wanted o (yielded ops a.tmps) then
      if isE i then ∀ w, D w → Eff P (fun v w' => ∃ D', D' w' ∧ 𝒢 D' ∧ K (a.put o.dst v) D') ((execOp a.eval o).run P w)
      else ∃ v, (∀ w, D w → Quiet P w v ((execOp a.eval o).run P w)) ∧ K (a.put o.dst v) D
    else K (a.put o.dst undef) D

def MAny (P : Program) (ops : Array Oper) (Q : Exit → Act → World → Prop) (isE : Nat → Bool) (𝒢 : (World → Prop) → Prop) : Nat → Array Bool → Act → (World → Prop) → Prop
  | 0, listed, a, D => Region.ready .any ops listed = [] ∧ ∀ w, D w → Q .normal a w
  | fuel + 1, listed, a, D =>
    (Region.ready .any ops listed = [] → ∀ w, D w → Q .normal a w) ∧
    ∀ i ∈ Region.ready .any ops listed, MOp P ops isE 𝒢 i (MAny P ops Q isE 𝒢 fuel (listed.setIfInBounds i true)) a D

theorem MAny_sound (h𝒢 : ∀ D, 𝒢 D → Closed D) : ∀ (fuel : Nat) (listed : Array Bool) (a : Act) (D : World → Prop) (w : World), Closed D → D w → MAny P ops Q isE 𝒢 fuel listed a D → wpAny P .any ops Q fuel listed a w
  | 0, _, _, _, w, _, hw, h => ⟨h.1, h.2 w hw⟩
  | fuel + 1, listed, a, D, w, hD, hw, h => by
    refine ⟨fun h0 => h.1 h0 w hw, fun i hi => ?_⟩
    have h1 := h.2 i hi
    unfold MOp at h1
    unfold wpOp
    split
    · rename_i ho
      simp only [ho] at h1
      exact MAny_sound h𝒢 fuel _ _ _ _ hD hw h1
    · rename_i o ho
      simp only [ho] at h1
      split
      · rename_i hwt
        simp only [hwt, if_true] at h1
        refine .inl ?_
        split at h1
        · exact (h1 w hw).upon fun v w' ⟨D', hw', hg, hK⟩ => MAny_sound h𝒢 fuel _ _ D' w' (h𝒢 _ hg) hw' hK
        · obtain ⟨v, hq, hK⟩ := h1
          exact (hq w hw).eff.upon fun u w' ⟨hu, hg⟩ => by subst hu; exact MAny_sound h𝒢 fuel _ _ D w' hD (hD _ _ hw hg) hK
      · rename_i hwt
        simp only [hwt, if_false, Bool.false_eq_true] at h1
        exact MAny_sound h𝒢 fuel _ _ _ _ hD hw h1

/-- In state 'a', in every world of the class, operation 'o' leaves 'v' in its temporary. -/
def Yld (P : Program) (ops : Array Oper) (D : World → Prop) (o : Oper) (v : Value) (a : Act) : Prop :=
  (Region.wanted o (yielded ops a.tmps) = true ∧ ∀ w, D w → Quiet P w v ((execOp a.eval o).run P w)) ∨ (Region.wanted o (yielded ops a.tmps) = false ∧ v = undef)
theorem Yld.of_same {D : World → Prop} {o : Oper} {v : Value} {a a' : Act} (hy : Yld P ops D o v a) (he : execOp a'.eval o = execOp a.eval o) (hw : Region.wanted o (yielded ops a'.tmps) = Region.wanted o (yielded ops a.tmps)) : Yld P ops D o v a' := by
  unfold Yld at *
  rw [he, hw]
  exact hy
theorem Yld.mop {i : Nat} {o : Oper} {v : Value} {a : Act} {D : World → Prop} {K : Act → (World → Prop) → Prop} (hi : ops[i]? = some o) (hE : isE i = false) (hy : Yld P ops D o v a) (h : K (a.put o.dst v) D) : MOp P ops isE 𝒢 i K a D := by
  unfold MOp
  simp only [hi]
  rcases hy with ⟨hw, hv⟩ | ⟨hw, rfl⟩
  · simp only [hw, if_true, hE, if_false, Bool.false_eq_true]; exact ⟨v, hv, h⟩
  · simp only [hw, Bool.false_eq_true, if_false]; exact h

/-- One operation 'oj', apart from 'oi': whether 'oi' has come up makes no difference to it. -/
theorem MOp_put {j : Nat} {oi oj : Oper} {v : Value} {a : Act} {D : World → Prop} {K K' : Act → (World → Prop) → Prop} (hj : ops[j]? = some oj) (hap : oi.apart ops oj = true)
    (hsi : ∀ cs b, oi.op ≠ .select cs b) (hsj : ∀ cs b, oj.op ≠ .select cs b) (h : MOp P ops isE 𝒢 j K (a.put oi.dst v) D)
    (hK : ∀ u D', (D' = D ∨ (isE j = true ∧ 𝒢 D')) → execOp (a.put oj.dst u).eval oi = execOp a.eval oi → Region.wanted oi (yielded ops (a.put oj.dst u).tmps) = Region.wanted oi (yielded ops a.tmps) → K ((a.put oj.dst u).put oi.dst v) D' → K' (a.put oj.dst u) D') :
    MOp P ops isE 𝒢 j K' a D := by
  obtain ⟨h1, h2, h3⟩ := Oper.apart_spec hap
  have hK' : ∀ u D', (D' = D ∨ (isE j = true ∧ 𝒢 D')) → K ((a.put oi.dst v).put oj.dst u) D' → K' (a.put oj.dst u) D' := fun u D' hD hk =>
    hK u D' hD (execOp_put oi hsi a oj.dst u h3) (wanted_put oi a oj.dst u h3) (by rw [← Act.put_comm a v u h2]; exact hk)
  unfold MOp at *
  simp only [hj] at *
  rw [wanted_put oj a oi.dst v h1, execOp_put oj hsj a oi.dst v h1] at h
  split
  · rename_i hw
    simp only [hw, if_true] at h
    split
    · rename_i hE
      simp only [hE, if_true] at h
      exact fun w hw => (h w hw).mono fun u w' ⟨D', hw', hg, hk⟩ => ⟨D', hw', hg, hK' u D' (.inr ⟨hE, hg⟩) hk⟩
    · rename_i hE
      simp only [hE, if_false, Bool.false_eq_true] at h
      obtain ⟨u, hq, hk⟩ := h
      exact ⟨u, hq, hK' u D (.inl rfl) hk⟩
  · rename_i hw
    simp only [hw, if_false, Bool.false_eq_true] at h
    exact hK' undef D (.inl rfl) h

/-- An operation that may come up now may be taken first: 'T' says which lists may be met before it comes up; where an effect may be met, it must yield the same in every class. -/
theorem MAny_first {i : Nat} {oi : Oper} {v : Value} (hi : ops[i]? = some oi) (hE : isE i = false) (hsel : ∀ (j : Nat) (o : Oper) cs b, ops[j]? = some o → o.op ≠ .select cs b) (T : Array Bool → Prop) :
    ∀ (fuel : Nat) (listed : Array Bool) (a : Act) (D : World → Prop),
      (∀ j oj, ops[j]? = some oj → j ≠ i → listed.getD j true = false → (∀ e ∈ oj.after, Region.binds .any e = true → e.on ≠ i) → oi.apart ops oj = true) →
      i ∈ Region.ready .any ops listed → T listed →
      (∀ l j, T l → j ∈ Region.ready .any ops l → j ≠ i → T (l.setIfInBounds j true) ∧ (isE j = true → ∀ a', execOp a'.eval oi = execOp a.eval oi → Region.wanted oi (yielded ops a'.tmps) = Region.wanted oi (yielded ops a.tmps) → ∀ D', 𝒢 D' → Yld P ops D' oi v a')) →
      Yld P ops D oi v a →
      MAny P ops Q isE 𝒢 fuel (listed.setIfInBounds i true) (a.put oi.dst v) D → MAny P ops Q isE 𝒢 (fuel + 1) listed a D := by
  intro fuel
  induction fuel with
  | zero =>
    intro listed a D _ hr _ _ hy H
    refine ⟨fun h => (by rw [h] at hr; cases hr), fun j hj => ?_⟩
    by_cases hji : j = i
    · subst hji; exact hy.mop hi hE H
    · have := ready_mono hj hji
      rw [H.1] at this
      cases this
  | succ fuel ih =>
    intro listed a D hfree hr hT hTs hy H
    refine ⟨fun h => (by rw [h] at hr; cases hr), fun j hj => ?_⟩
    by_cases hji : j = i
    · subst hji; exact hy.mop hi hE H
    · have h1 := H.2 j (ready_mono hj hji)
      obtain ⟨hjun, oj, hoj, hall⟩ := mem_ready.1 hj
      have hnot : ∀ e ∈ oj.after, Region.binds .any e = true → e.on ≠ i := fun e he hb heq => by
        have h1 := hall e he hb
        have h0 := (mem_ready.1 hr).1
        rw [heq] at h1
        rcases Nat.lt_or_ge i listed.size with h' | h'
        · simp [h'] at h0 h1; rw [h0] at h1; cases h1
        · simp [Array.getElem?_eq_none h'] at h1
      have hfree' : ∀ k ok, ops[k]? = some ok → k ≠ i → (listed.setIfInBounds j true).getD k true = false →
          (∀ e ∈ ok.after, Region.binds .any e = true → e.on ≠ i) → oi.apart ops ok = true := fun k ok hk hki hun hno => by
        refine hfree k ok hk hki ?_ hno
        by_cases hjk : j = k
        · subst hjk; exact hjun
        · rw [getD_set_ne true hjk] at hun; exact hun
      obtain ⟨hT', hEj⟩ := hTs listed j hT hj hji
      refine MOp_put hoj (hfree j oj hoj hji hjun hnot) (fun cs b => hsel i oi cs b hi) (fun cs b => hsel j oj cs b hoj) h1 fun u D' hD he hw hk => ?_
      refine ih (listed.setIfInBounds j true) _ D' hfree' (ready_mono hr (Ne.symm hji)) hT' (fun l j' hl hj' hne => ⟨(hTs l j' hl hj' hne).1, fun hE' a' he' hw' => (hTs l j' hl hj' hne).2 hE' a' (he'.trans he) (hw'.trans hw)⟩) ?_ ?_
      · rcases hD with rfl | ⟨hEj', hg⟩
        · exact hy.of_same he hw
        · exact hEj hEj' _ he hw D' hg
      · rw [Array.setIfInBounds_comm _ _ hji]
        exact hk

/-! ### The walk, in an order of ours -/
variable {Ds : World → Prop}
def wpO (P : Program) (ops : Array Oper) (Q : Exit → Act → World → Prop) (Ds : World → Prop) : List (Nat × Kd) → Act → (World → Prop) → Prop
  | [], a, D => ∀ w, D w → Q .normal a w
  | (i, kd) :: r, a, D =>
    match ops[i]? with
    | none => False
    | some o =>
      if Region.wanted o (yielded ops a.tmps) then
        match kd with
        | .eff => ∀ w, D w → Eff P (fun v w' => ∃ D', D' w' ∧ (Closed D' ∧ ∀ w, D' w → Ds w) ∧ wpO P ops Q Ds r (a.put o.dst v) D') ((execOp a.eval o).run P w)
        | .pre => ∃ v, (∀ w, D w → Quiet P w v ((execOp a.eval o).run P w)) ∧ wpO P ops Q Ds r (a.put o.dst v) D
        | .all => ∃ v, (∀ w, Ds w → Quiet P w v ((execOp a.eval o).run P w)) ∧ wpO P ops Q Ds r (a.put o.dst v) D
      else wpO P ops Q Ds r (a.put o.dst undef) D

/-- All that can come up, from 'listed' on, before 'i' does. -/
def satS (ops : Array Oper) (i : Nat) : Nat → Array Bool → Array Bool
  | 0, l => l
  | n + 1, l =>
    match (Region.ready .any ops l).filter (fun j => !Nat.beq j i) with
    | [] => l
    | js => satS ops i n (js.foldl (fun l j => l.setIfInBounds j true) l)
def closedS (ops : Array Oper) (isE : Nat → Bool) (listed : Array Bool) (i : Nat) (S : Array Bool) : Bool :=
  ((Region.ready .any ops S).all fun j => Nat.beq j i) && !(S.getD i true) && (S.size == listed.size) &&
  (List.range listed.size).all fun j => (!(listed.getD j false) || S.getD j false) && (listed.getD j false || !(S.getD j false) || !(isE j))
def Kd.isEff : Kd → Bool
  | .eff => true
  | _ => false
def chkO (ops : Array Oper) (isE : Nat → Bool) : List (Nat × Kd) → Array Bool → Bool
  | [], l => (Region.ready .any ops l).isEmpty
  | (i, kd) :: r, l =>
    (isE i == kd.isEff) &&
    (match kd with
      | .eff => Region.ready .any ops l == [i]
      | .all => (Region.ready .any ops l).contains i && Region.free .any ops l i
      | .pre => (Region.ready .any ops l).contains i && Region.free .any ops l i && closedS ops isE l i (satS ops i ops.size l)) &&
    chkO ops isE r (l.setIfInBounds i true)

theorem MAny_walk (hsel : Region.noSelect ops = true) : ∀ (ord : List (Nat × Kd)) (listed : Array Bool) (a : Act) (D : World → Prop), Closed D → (∀ w, D w → Ds w) → chkO ops isE ord listed = true → wpO P ops Q Ds ord a D →
    MAny P ops Q isE (fun D => Closed D ∧ ∀ w, D w → Ds w) ord.length listed a D
  | [], listed, a, D, _, _, hc, h => ⟨by simpa [chkO] using hc, h⟩
  | (i, kd) :: r, listed, a, D, hcl, hds, hc, h => by
    have hsp := Region.noSelect_spec hsel
    simp only [chkO, Bool.and_eq_true] at hc
    obtain ⟨⟨hE, hk⟩, hrest⟩ := hc
    simp only [wpO] at h
    cases ho : ops[i]? with
    | none => simp only [ho] at h
    | some o =>
      simp only [ho] at h
      have hE' : isE i = kd.isEff := by simpa using hE
      cases kd with
      | eff =>
        have hready : Region.ready .any ops listed = [i] := by simpa using hk
        refine ⟨fun h0 => absurd (hready.symm.trans h0) (by simp), fun j hj => ?_⟩
        rw [hready] at hj
        obtain rfl : j = i := by simpa using hj
        unfold MOp
        simp only [ho]
        split
        · rename_i hw
          simp only [hw, if_true] at h
          rw [if_pos (by rw [hE']; rfl)]
          exact fun w hw => (h w hw).mono fun v w' ⟨D', h1, h2, h3⟩ => ⟨D', h1, h2, MAny_walk hsel r _ _ D' h2.1 h2.2 hrest h3⟩
        · rename_i hw
          simp only [hw, if_false, Bool.false_eq_true] at h
          exact MAny_walk hsel r _ _ D hcl hds hrest h
      | all =>
        simp only [Bool.and_eq_true] at hk
        have hmem : i ∈ Region.ready .any ops listed := by simpa using hk.1
        have : ∃ v, (∀ D', (∀ w, D' w → Ds w) → Yld P ops D' o v a) ∧ wpO P ops Q Ds r (a.put o.dst v) D := by
          by_cases hw : Region.wanted o (yielded ops a.tmps) = true
          · simp only [hw, if_true] at h
            obtain ⟨v, hq, hr⟩ := h
            exact ⟨v, fun D' hD' => .inl ⟨hw, fun w h => hq w (hD' w h)⟩, hr⟩
          · simp only [hw, if_false, Bool.false_eq_true] at h
            exact ⟨undef, fun D' _ => .inr ⟨by simpa using hw, rfl⟩, h⟩
        obtain ⟨v, hy, hr⟩ := this
        exact MAny_first ho (by rw [hE']; rfl) hsp (fun _ => True) r.length listed a D (Region.free_spec ho hk.2) hmem trivial
          (fun l j _ _ _ => ⟨trivial, fun _ a' he hw D' hg => (hy D' hg.2).of_same he hw⟩) (hy D hds) (MAny_walk hsel r _ _ D hcl hds hrest hr)
      | pre =>
        simp only [Bool.and_eq_true] at hk
        obtain ⟨⟨hmem', hfr⟩, hS⟩ := hk
        have hmem : i ∈ Region.ready .any ops listed := by simpa using hmem'
        have : ∃ v, Yld P ops D o v a ∧ wpO P ops Q Ds r (a.put o.dst v) D := by
          by_cases hw : Region.wanted o (yielded ops a.tmps) = true
          · simp only [hw, if_true] at h
            obtain ⟨v, hq, hr⟩ := h
            exact ⟨v, .inl ⟨hw, hq⟩, hr⟩
          · simp only [hw, if_false, Bool.false_eq_true] at h
            exact ⟨undef, .inr ⟨by simpa using hw, rfl⟩, h⟩
        obtain ⟨v, hy, hr⟩ := this
        generalize satS ops i ops.size listed = S at hS
        simp only [closedS, Bool.and_eq_true, List.all_eq_true, List.mem_range, Bool.or_eq_true, Bool.not_eq_true', beq_iff_eq] at hS
        obtain ⟨⟨⟨hc1, hc2⟩, hc3⟩, hc4⟩ := hS
        refine MAny_first ho (by rw [hE']; rfl) hsp (fun l => l.size = listed.size ∧ (∀ j, l.getD j false = true → S.getD j false = true) ∧ ∀ j, listed.getD j false = true → l.getD j false = true) r.length listed a D (Region.free_spec ho hfr) hmem ⟨rfl, fun j hj => ?_, fun _ h => h⟩ (fun l j hl hj hne => ?_) hy (MAny_walk hsel r _ _ D hcl hds hrest hr)
        · have hlt : j < listed.size := by
            rcases Nat.lt_or_ge j listed.size with h' | h'
            · exact h'
            · simp [Array.getElem?_eq_none h'] at hj
          rcases (hc4 j hlt).1 with h' | h'
          · rw [hj] at h'; cases h'
          · exact h'
        · obtain ⟨hls, hlS, hll⟩ := hl
          obtain ⟨h0, oj, hoj, hall⟩ := mem_ready.1 hj
          have hlt : j < listed.size := by
            rw [← hls]
            rcases Nat.lt_or_ge j l.size with h' | h'
            · exact h'
            · simp [Array.getElem?_eq_none h'] at h0
          have hjS : S.getD j false = true := by
            apply Classical.byContradiction
            intro hn
            have hr : j ∈ Region.ready .any ops S := mem_ready.2 ⟨by
              have : j < S.size := by rw [hc3]; exact hlt
              simp [this] at hn ⊢
              exact hn, oj, hoj, fun e he hb => hlS _ (hall e he hb)⟩
            exact hne (Nat.eq_of_beq_eq_true (hc1 j hr))
          have hlf : listed.getD j false = false := by
            cases hh : listed.getD j false
            · rfl
            · have := hll j hh
              have hlt' : j < l.size := by rw [hls]; exact hlt
              simp [hlt'] at h0 this
              rw [h0] at this; cases this
          have hnE : isE j = false := by
            rcases (hc4 j hlt).2 with (h' | h') | h'
            · rw [hlf] at h'; cases h'
            · rw [hjS] at h'; cases h'
            · exact h'
          refine ⟨⟨by simpa using hls, fun k hk => ?_, fun k hk => getD_set_true (hll k hk)⟩, fun h => by rw [hnE] at h; cases h⟩
          by_cases hkj : j = k
          · subst hkj; exact hjS
          · rw [getD_set_ne false hkj] at hk; exact hlS k hk

theorem wp_region_ord {id : Nat} {a : Act} {w : World} {D : World → Prop} (ord : List (Nat × Kd)) (hm : P.follows .mixedOrders = true) (hn : Region.noSelect ops = true) (hlen : ord.length = ops.size)
    (hc : chkO ops (fun i => ord.any fun p => Nat.beq p.1 i && p.2.isEff) ord (Array.replicate ops.size false) = true) (hcl : Closed D) (hds : ∀ w, D w → Ds w) (hw : D w) (h : wpO P ops Q Ds ord a D) : (Code.region id ops true).wp P Q a w := by
  refine wp_region_any hm ?_
  have := MAny_sound (fun D h => h.1) _ _ _ _ _ hcl (hcl _ _ hw (Keep.drew w)) (MAny_walk hn ord _ a D hcl hds hc h)
  rw [hlen] at this
  exact this
end

/-! ### The same over abstract frames and heaps -/
variable {C : Cx} {L : Fr} {H Hs : Hp} {ops : Array Oper} {Q : Exit → Act → World → Prop} {r : List (Nat × Kd)} {i : Nat}
def VD (C : Cx) (ops : Array Oper) (Q : Exit → Act → World → Prop) (Hs : Hp) (ord : List (Nat × Kd)) (L : Fr) (H : Hp) : Prop :=
  ∀ a, Knows C.N a L → wpO C.P ops Q (St C.G C.w₀ Hs) ord a (St C.G C.w₀ H)

theorem VC_draw {id : Nat} {l : List Oper} (ord : List (Nat × Kd)) (Hs : Hp) (hm : C.P.follows .mixedOrders = true) (hn : Region.noSelect l.toArray = true) (hlen : ord.length = l.length)
    (hc : chkO l.toArray (fun i => ord.any fun p => Nat.beq p.1 i && p.2.isEff) ord (Array.replicate l.toArray.size false) = true) (hH : ∀ w, St C.G C.w₀ H w → St C.G C.w₀ Hs w) (h : VD C l.toArray Q Hs ord L H) : VC C (.region id l.toArray true) Q L H :=
  fun a w hk hs => wp_region_ord ord hm hn (by simpa using hlen) hc (fun _ _ h g => h.grow g) hH hs (h a hk)

theorem VC_draw0 {id : Nat} {l : List Oper} (ord : List (Nat × Kd)) (hm : C.P.follows .mixedOrders = true) (hn : Region.noSelect l.toArray = true) (hlen : ord.length = l.length)
    (hc : chkO l.toArray (fun i => ord.any fun p => Nat.beq p.1 i && p.2.isEff) ord (Array.replicate l.toArray.size false) = true) (h : VD C l.toArray Q H ord L H) : VC C (.region id l.toArray true) Q L H :=
  VC_draw ord H hm hn hlen hc (fun _ h => h) h
theorem VC_draw1 {id b o : Nat} {l : List Oper} (x : Operand) (ord : List (Nat × Kd)) (hm : C.P.follows .mixedOrders = true) (hn : Region.noSelect l.toArray = true) (hlen : ord.length = l.length)
    (hc : chkO l.toArray (fun i => ord.any fun p => Nat.beq p.1 i && p.2.isEff) ord (Array.replicate l.toArray.size false) = true) (_hx : ev L x = some (ptr b o)) [hd : Drop H b Hs] (h : VD C l.toArray Q Hs ord L H) : VC C (.region id l.toArray true) Q L H :=
  VC_draw ord Hs hm hn hlen hc (fun _ h => h.sublist hd.sub) h

theorem VC_draw2 {id b o b' o' : Nat} {l : List Oper} {H1 : Hp} (x x' : Operand) (ord : List (Nat × Kd)) (hm : C.P.follows .mixedOrders = true) (hn : Region.noSelect l.toArray = true) (hlen : ord.length = l.length)
    (hc : chkO l.toArray (fun i => ord.any fun p => Nat.beq p.1 i && p.2.isEff) ord (Array.replicate l.toArray.size false) = true) (_hx : ev L x = some (ptr b o)) (_hx' : ev L x' = some (ptr b' o')) [hd : Drop H b H1] [hd' : Drop H1 b' Hs] (h : VD C l.toArray Q Hs ord L H) : VC C (.region id l.toArray true) Q L H :=
  VC_draw ord Hs hm hn hlen hc (fun _ h => h.sublist (hd'.sub.trans hd.sub)) h

theorem VD_nil (h : VQ C Q .normal L H) : VD C ops Q Hs [] L H := fun a hk w hw => h a w hk hw

section
variable {dst : Option Tmp} {op : Op} {ty : TypeId} {pos : String} {aft : Array Edge} {v : Value}
variable {gu : Option (Nat × Bool)}
theorem VD_pre {d : Tmp} (hi : ops[i]? = some ⟨some d, op, ty, pos, aft, gu⟩) (h : OpN C ⟨some d, op, ty, pos, aft, gu⟩ L H v) (hg : gdB ops L gu = true) (hd : Nat.blt d C.N = true) (k : VD C ops Q Hs r ((d, v) :: L) H) : VD C ops Q Hs ((i, .pre) :: r) L H := fun a hk => by
  simp only [wpO, hi, hk.wanted hg, if_true]
  exact ⟨v, fun w hw => h a w hk hw, k _ (hk.put hd)⟩
theorem VD_all {d : Tmp} (hi : ops[i]? = some ⟨some d, op, ty, pos, aft, gu⟩) (h : OpN C ⟨some d, op, ty, pos, aft, gu⟩ L Hs v) (hg : gdB ops L gu = true) (hd : Nat.blt d C.N = true) (k : VD C ops Q Hs r ((d, v) :: L) H) : VD C ops Q Hs ((i, .all) :: r) L H := fun a hk => by
  simp only [wpO, hi, hk.wanted hg, if_true]
  exact ⟨v, fun w hw => h a w hk hw, k _ (hk.put hd)⟩
theorem VD_eff {post : Value → Hp → Prop} (hi : ops[i]? = some ⟨dst, op, ty, pos, aft, gu⟩) (h : OpE C ⟨dst, op, ty, pos, aft, gu⟩ L H post) (hg : gdB ops L gu = true) (hd : okD C.N dst = true)
    (k : ∀ v H', post v H' → (∀ w, St C.G C.w₀ H' w → St C.G C.w₀ Hs w) ∧ VD C ops Q Hs r (putF dst v L) H') : VD C ops Q Hs ((i, .eff) :: r) L H := fun a hk => by
  simp only [wpO, hi, hk.wanted hg, if_true]
  exact fun w hw => (h a w hk hw).mono fun v w' ⟨H', hp, hs⟩ => ⟨_, hs, ⟨fun _ _ h g => h.grow g, (k v H' hp).1⟩, (k v H' hp).2 _ (hk.putF hd)⟩
theorem VD_pass {kd : Kd} {d : Tmp} (hi : ops[i]? = some ⟨some d, op, ty, pos, aft, gu⟩) (hg : gdN ops L gu = true) (hd : Nat.blt d C.N = true) (k : VD C ops Q Hs r ((d, undef) :: L) H) : VD C ops Q Hs ((i, kd) :: r) L H := fun a hk => by
  simp only [wpO, hi, hk.unwanted hg, if_false, Bool.false_eq_true]
  exact k _ (hk.put hd)
theorem VD_bool (t : Tmp) {ord : List (Nat × Kd)} {b : Bool} (hb : look t L = some (.bool b)) (ht : b = true → VD C ops Q Hs ord ((t, .bool true) :: L) H) (hf : b = false → VD C ops Q Hs ord ((t, .bool false) :: L) H) : VD C ops Q Hs ord L H := fun a hk => by
  cases b
  · exact hf rfl a (hk.again hb)
  · exact ht rfl a (hk.again hb)
/-- An effect that is none: a call with one value. -/
theorem VD_N {d : Tmp} (hi : ops[i]? = some ⟨some d, op, ty, pos, aft, gu⟩) (h : OpN C ⟨some d, op, ty, pos, aft, gu⟩ L H v) (hg : gdB ops L gu = true) (hd : Nat.blt d C.N = true) [hs : SubL Hs H] (k : VD C ops Q Hs r ((d, v) :: L) H) : VD C ops Q Hs ((i, .eff) :: r) L H :=
  VD_eff hi h.toE hg hd fun _ _ ⟨hv, hH⟩ => by subst hv; subst hH; exact ⟨fun _ h => h.sublist hs.sub, k⟩
/-- An effect with one outcome, a store. -/
theorem VD_D0 {H' : Hp} (hi : ops[i]? = some ⟨none, op, ty, pos, aft, gu⟩) (h : OpD C ⟨none, op, ty, pos, aft, gu⟩ L H v H') (hg : gdB ops L gu = true) [hs : SubL Hs H'] (k : VD C ops Q Hs r L H') : VD C ops Q Hs ((i, .eff) :: r) L H :=
  VD_eff hi h hg rfl fun _ _ ⟨_, hH⟩ => by subst hH; exact ⟨fun _ h => h.sublist hs.sub, k⟩
theorem VD_new {d : Tmp} {o : Obj} (hi : ops[i]? = some ⟨some d, op, ty, pos, aft, gu⟩) (h : OpE C ⟨some d, op, ty, pos, aft, gu⟩ L H (fun u H' => ∃ b, u = ptr b 0 ∧ H' = own (blk b o) :: H)) (hg : gdB ops L gu = true) (hd : Nat.blt d C.N = true)
    [hs : SubL Hs H] (k : ∀ b, VD C ops Q Hs r ((d, ptr b 0) :: L) (own (blk b o) :: H)) : VD C ops Q Hs ((i, .eff) :: r) L H :=
  VD_eff hi h hg hd fun _ _ ⟨b, hv, hH⟩ => by subst hv; subst hH; exact ⟨fun _ h => h.tail.sublist hs.sub, k b⟩
end
end Go.Sp

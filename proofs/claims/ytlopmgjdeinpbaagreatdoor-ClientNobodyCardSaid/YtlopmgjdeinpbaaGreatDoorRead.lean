/- What values that can be read as data look like, by their types; and the post of a law that leaves memory as it was. -/
import Derived.Test.YtlopmgjdeinpbaaGreatDoorRow
import Derived.Carry
import Derived.ProofKit
import Derived.OpenShut
namespace Go.Sp
open Go Go.RowKit

def rdd (P : Program) (w : World) : Nat → TypeId → List Value → Prop
  | 0, _, _ => False
  | n + 1, t, cs => match P.underlying t with
    | some .bool => ∃ b, cs = [.bool b]
    | some (.int k) => ∃ m, cs = [.int k m] ∧ (Lit.int k m).wf = true
    | some .string => ∃ s, cs = [.string s] ∧ s.size ≤ maxLen
    | some (.slice e) => ∃ (o : Option Addr) (c : Nat) (xs : List (List Value)), cs = [.slice o xs.length c] ∧ xs.length ≤ c ∧ c ≤ maxLen ∧ Sees w o xs.flatten ∧ ∀ x ∈ xs, x.length = P.cellsOf e ∧ rdd P w n e x
    | some (.struct fs) => cs.length = P.cellsOf t ∧ ∀ f ∈ fs.toList, rdd P w n f.type ((cs.drop f.offset).take (P.cellsOf f.type))
    | some (.array k e) => cs.length = P.cellsOf t ∧ ∀ i, i < k → rdd P w n e ((cs.drop (i * P.cellsOf e)).take (P.cellsOf e))
    | _ => True

theorem mapM_opt {α β : Type} {f : α → Option β} : ∀ {l : List α} {ys : List β}, l.mapM f = some ys → ys.length = l.length ∧ ∀ (i : Nat) (a : α), l[i]? = some a → ∃ y, f a = some y ∧ ys[i]? = some y
  | [], ys, h => by
    simp only [List.mapM_nil, Option.pure_def, Option.some.injEq] at h
    subst h
    exact ⟨rfl, fun i a h => by simp at h⟩
  | a :: r, ys, h => by
    rw [List.mapM_cons] at h
    cases hf : f a with
    | none => rw [hf] at h; simp at h
    | some y =>
      rw [hf] at h
      cases hr : r.mapM f with
      | none => rw [hr] at h; simp at h
      | some zs =>
        rw [hr] at h
        simp only [Option.pure_def, Option.bind_eq_bind, Option.bind_some, Option.some.injEq] at h
        subst h
        obtain ⟨h1, h2⟩ := mapM_opt hr
        refine ⟨by simp [h1], fun i b hb => ?_⟩
        cases i with
        | zero => simp only [List.getElem?_cons_zero, Option.some.injEq] at hb; subst hb; exact ⟨y, hf, rfl⟩
        | succ i => simpa using h2 i b (by simpa using hb)

theorem add_block (a : Addr) (n : Nat) : (a.add n).block = a.block := by unfold Addr.add; split <;> rfl
theorem add_off (b o n : Nat) : ((⟨b, o, none⟩ : Addr).add n) = ⟨b, o + n, none⟩ := addr_add b o n

theorem flat_get {cur : Array Value} {c : Nat} : ∀ (l : List (List Value)) (off : Nat), (∀ (i : Nat) (x : List Value), l[i]? = some x → x.length = c ∧ ∀ (j : Nat) (v : Value), x[j]? = some v → cur[off + i * c + j]? = some v) →
    ∀ (j : Nat) (v : Value), l.flatten[j]? = some v → cur[off + j]? = some v
  | [], off, _, j, v, hj => by simp at hj
  | x :: r, off, h, j, v, hj => by
    obtain ⟨hx, h0⟩ := h 0 x rfl
    rw [List.flatten_cons] at hj
    by_cases hlt : j < x.length
    · rw [List.getElem?_append_left hlt] at hj
      simpa using h0 j v hj
    · rw [List.getElem?_append_right (by omega)] at hj
      have := flat_get (cur := cur) (c := c) r (off + c) (fun i y hy => by
        obtain ⟨h1, h2⟩ := h (i + 1) y (by simpa using hy)
        refine ⟨h1, fun j' v' hv => ?_⟩
        have := h2 j' v' hv
        rw [Nat.add_mul, Nat.one_mul] at this
        rw [show off + c + i * c + j' = off + (i * c + c) + j' by omega]
        exact this) (j - x.length) v hj
      rw [show off + c + (j - x.length) = off + j by omega] at this
      exact this

variable {H : Type} {enc : TypeId × Value → H} {P : Program} {w : World} {base : Nat} {spare : Nat → Bool} {held : Bool}
theorem cells_get {a : Addr} {n : Nat} {xs : List Value} (h : w.cells? base a n = some xs) : xs.length = n ∧ ∀ (j : Nat) (v : Value), xs[j]? = some v → w.cell? (a.add j) = some v := by
  unfold World.cells? at h
  split at h
  · obtain ⟨h1, h2⟩ := mapM_opt h
    rw [List.length_range] at h1
    refine ⟨h1, fun j v hj => ?_⟩
    have hlt : j < n := by rw [← h1]; exact (List.getElem?_eq_some_iff.1 hj).1
    obtain ⟨y, hy, hy2⟩ := h2 j j (by simp [hlt])
    rw [hy2] at hj
    cases hj
    exact hy
  · cases h

theorem rdd_of_trod : ∀ (n : Nat) (t : TypeId) (cs : List Value) (x : DataW H × List MemPlace), DataW.trod enc P w base spare held n t cs = some x → rdd P w n t cs
  | 0, t, cs, x, h => by simp [DataW.trod] at h
  | n + 1, t, cs, x, h => by
    unfold DataW.trod at h
    unfold rdd
    cases hu : P.underlying t with
    | none => trivial
    | some d =>
      cases d with
      | bool =>
        rcases cs with _ | ⟨v, _ | ⟨u, r⟩⟩ <;> simp only [hu] at h <;> try (cases h; done)
        cases v <;> (try simp only [] at h) <;> try (cases h; done)
        exact ⟨_, rfl⟩
      | int k =>
        rcases cs with _ | ⟨v, _ | ⟨u, r⟩⟩ <;> simp only [hu] at h <;> try (cases h; done)
        cases v <;> (try simp only [] at h) <;> try (cases h; done)
        split at h
        · rename_i h2
          obtain ⟨rfl, h3⟩ := h2
          exact ⟨_, rfl, h3⟩
        · cases h
      | string =>
        rcases cs with _ | ⟨v, _ | ⟨u, r⟩⟩ <;> simp only [hu] at h <;> try (cases h; done)
        cases v <;> (try simp only [] at h) <;> try (cases h; done)
        split at h
        · rename_i h2
          exact ⟨_, rfl, h2⟩
        · cases h
      | slice e =>
        rcases cs with _ | ⟨v, _ | ⟨u, r⟩⟩ <;> simp only [hu] at h <;> try (cases h; done)
        cases v <;> (try simp only [] at h) <;> try (cases h; done)
        rename_i ao len cap
        cases ao with
        | none =>
          cases len <;> cases cap <;> (try simp only [] at h) <;> try (cases h; done)
          exact ⟨none, 0, [], rfl, Nat.le_refl _, Nat.zero_le _, .inl rfl, fun x hx => by simp at hx⟩
        | some a =>
          dsimp only at h
          split at h
          · rename_i hb
            obtain ⟨hb1, hb2, hb3⟩ := hb
            rw [Option.bind_eq_some_iff] at h
            obtain ⟨elems, he, hrest⟩ := h
            obtain ⟨h1, h2⟩ := mapM_opt he
            rw [List.length_range] at h1
            have key : ∀ i, i < len → ∃ y, (w.cells? base (a.add (i * P.cellsOf e)) (P.cellsOf e)) = some y ∧ rdd P w n e y := fun i hi => by
              obtain ⟨y, hy, _⟩ := h2 i i (by simp [hi])
              rw [Option.bind_eq_some_iff] at hy
              obtain ⟨z, hz, hz2⟩ := hy
              exact ⟨z, hz, rdd_of_trod n e z _ hz2⟩
            have hx : ∃ xs : List (List Value), xs.length = len ∧ ∀ i z, xs[i]? = some z → w.cells? base (a.add (i * P.cellsOf e)) (P.cellsOf e) = some z ∧ rdd P w n e z := by
              clear h1 h2 he hb2 hrest
              clear hu
              induction len with
              | zero => exact ⟨[], rfl, fun i z h => by simp at h⟩
              | succ m ih =>
                obtain ⟨xs, hl, hg⟩ := ih (fun i hi => key i (by omega))
                obtain ⟨y, hy⟩ := key m (by omega)
                refine ⟨xs ++ [y], by simp [hl], fun i z hz => ?_⟩
                by_cases hi : i < xs.length
                · rw [List.getElem?_append_left hi] at hz; exact hg i z hz
                · rw [List.getElem?_append_right (by omega)] at hz
                  have : i = m := by
                    have := (List.getElem?_eq_some_iff.1 hz).1
                    simp at this
                    omega
                  subst this
                  rw [hl, Nat.sub_self] at hz
                  simp at hz
                  subst hz
                  exact hy
            obtain ⟨xs, hl, hg⟩ := hx
            refine ⟨some a, cap, xs, by rw [hl], by omega, hb3, ?_, fun x hx => ?_⟩
            · by_cases hf : xs.flatten = []
              · exact .inl hf
              · obtain ⟨x0, hx0, hne⟩ : ∃ x0, x0 ∈ xs ∧ x0 ≠ [] := by
                  apply Classical.byContradiction
                  intro hn
                  apply hf
                  rw [List.flatten_eq_nil_iff]
                  intro l hl
                  apply Classical.byContradiction
                  intro hl2
                  exact hn ⟨l, hl, hl2⟩
                obtain ⟨i1, hi1⟩ := List.getElem?_of_mem hx0
                have hpos : 0 < x0.length := List.length_pos_iff.2 hne
                have hlen0 : 0 < xs.length := List.length_pos_of_mem hx0
                obtain ⟨q1, q2⟩ := cells_get (hg 0 xs[0] (by simp [hlen0])).1
                have hpos2 : 0 < xs[0].length := by
                  have := (cells_get (hg i1 x0 hi1).1).1
                  omega
                have hc0 := q2 0 xs[0][0] (by simp [hpos2])
                have ha0 : ((a.add (0 * P.cellsOf e)).add 0) = a := by simp [Addr.add]
                rw [ha0] at hc0
                have hsp : a.spot = none ∧ ∃ cur T fz, w.heap[a.block]? = some (.cells cur T fz) := by
                  unfold World.cell? at hc0
                  split at hc0
                  · rename_i cur T fz hh
                    split at hc0
                    · cases hc0
                    · rename_i hs
                      exact ⟨by simpa using hs, cur, T, fz, hh⟩
                  · cases hc0
                obtain ⟨hs1, cur, T, fz, hh⟩ := hsp
                obtain ⟨b, off, spot⟩ := a
                simp only at hs1 hh
                subst hs1
                refine .inr ⟨b, off, cur, T, fz, rfl, hh, flat_get (c := P.cellsOf e) xs off fun i x hx => ?_⟩
                obtain ⟨p1, p2⟩ := cells_get (hg i x hx).1
                refine ⟨p1, fun j v hv => ?_⟩
                have := p2 j v hv
                rw [addr_add, addr_add, cell_at hh] at this
                exact this
            · obtain ⟨i, hi⟩ := List.getElem?_of_mem hx
              exact ⟨(cells_get (hg i x hi).1).1, (hg i x hi).2⟩
          · cases h
      | struct fs =>
        simp only [hu] at h
        split at h
        · rename_i hl
          rw [Option.map_eq_some_iff] at h
          obtain ⟨xs, hx, _⟩ := h
          obtain ⟨_, h2⟩ := mapM_opt hx
          refine ⟨hl, fun f hf => ?_⟩
          obtain ⟨i, hi⟩ := List.getElem?_of_mem hf
          obtain ⟨y, hy, _⟩ := h2 i f hi
          exact rdd_of_trod n _ _ _ hy
        · cases h
      | array k e =>
        simp only [hu] at h
        split at h
        · rename_i hl
          rw [Option.map_eq_some_iff] at h
          obtain ⟨xs, hx, _⟩ := h
          obtain ⟨_, h2⟩ := mapM_opt hx
          refine ⟨hl, fun i hi => ?_⟩
          obtain ⟨y, hy, _⟩ := h2 i i (by simp [hi])
          exact rdd_of_trod n _ _ _ hy
        · cases h
      | _ => trivial
end Go.Sp

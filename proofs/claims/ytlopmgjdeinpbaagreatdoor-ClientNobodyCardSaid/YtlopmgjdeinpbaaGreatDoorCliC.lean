/- PROVED: of a client that no call made, and of a tape that no call made, the law ClientNobody returns true, whatever its input, and leaves all memory as it was.
   Conditions: none beyond the given card's own (the listed package variables start as the program's text lays them, which the card ties). -/
import Derived.Test.YtlopmgjdeinpbaaGreatDoorCliN
import Derived.Test.YtlopmgjdeinpbaaGreatDoorLaw
import Derived.Test.YtlopmgjdeinpbaaGreatDoorCliJ
import Derived.Test.YtlopmgjdeinpbaaGreatDoorCards
import Derived.Test.YtlopmgjdeinpbaaGreatDoorTie
import Derived.ProofKit
import Derived.LaidMore
import Derived.OpenShut
import Derived.Stop.Joined
namespace Go.Proofs.YtlopmgjdeinpbaaGreatDoor
open Go Go.Sp Go.ChangeShapes Go.WideShapes Go.RowKit

theorem own : ownKnob Tryz.prog.godebug = none := by kernel_rfl
set_option maxRecDepth 100000 in
theorem door_met (os : Os) (args : Array Value) : laidMetH Tryz.prog Rows.clientNobodyRow.laid ((World.doorLaid Tryz.prog 60 os).forCall (fun _ _ => 0) ⟨#[], args, []⟩).memory :=
  laidMetH_of_parts3 (fuel := 8) (laidMet_of_run' 8 (by kernel_rfl) (by kernel_rfl)) (by kernel_rfl) (by kernel_rfl)
theorem agg_of {P : Program} {W : World} {r : Reach} {base : Nat} {t : TypeId} {v : Value} {fs : Array Field} (hu : P.underlying t = some (.struct fs)) (h : Value.okWide P W r base t v) : ∃ cs, v = .agg cs ∧ cs.size = P.cellsOf t := by
  unfold Value.okWide at h
  simp only [hu] at h
  obtain ⟨cs, h1, h2, _⟩ := h
  exact ⟨cs, h1, h2⟩
def wargs : Array Value := #[(.agg ([.int .u32 0] ++ List.replicate 64 (.int .u8 0) ++ [.int .u32 0, .int .u32 0, .int .u32 0] ++ [.slice none 0 0] ++ [.int .u32 0] ++ [.int .i64 0, .int .i64 0] ++ [.slice none 0 0] : List Value).toArray), (.agg ([.int .i64 0, .int .i64 0, .int .i64 0] ++ [.slice none 0 0] ++ [.int .i64 0] ++ [.int .u32 0] ++ [.int .u64 0] ++ List.replicate 64 (.int .u8 0) ++ [.slice none 0 0, .slice none 0 0, .slice none 0 0] ++ [.int .u32 0] ++ List.replicate 64 (.int .u8 0) ++ [.int .u32 0, .int .u32 0, .int .u32 0] ++ [.slice none 0 0] : List Value).toArray)]
theorem noInit : Tryz.checked.prog.inits.idxOf? 3 = none := by kernel_rfl
set_option maxRecDepth 100000 in
theorem shaped (os : Os) : ((World.doorLaid Tryz.prog 60 os).forCall (fun _ _ => 0) ⟨#[], wargs, []⟩).Shaped Tryz.prog := World.shaped_of_RefB (by kernel_rfl) (by kernel_rfl)
set_option maxRecDepth 100000 in
theorem okIn (os : Os) : Input.okWideB Tryz.prog ((World.doorLaid Tryz.prog 60 os).forCall (fun _ _ => 0) ⟨#[], wargs, []⟩) 3 ⟨#[], wargs, []⟩ = true := by kernel_rfl
set_option maxRecDepth 100000 in
theorem preIn (os : Os) (H : Type) (enc : TypeId × Value → H) : Rows.clientNobodySpec.preB enc Tryz.prog Tryz.f3 [] false ((World.doorLaid Tryz.prog 60 os).forCall (fun _ _ => 0) ⟨#[], wargs, []⟩).memory wargs 12 = true := by kernel_rfl
set_option maxRecDepth 100000 in
theorem sizIn (os : Os) (H : Type) (enc : TypeId × Value → H) : Rows.clientNobodySpec.sizedB enc Tryz.prog Tryz.f3 false ((World.doorLaid Tryz.prog 60 os).forCall (fun _ _ => 0) ⟨#[], wargs, []⟩).memory wargs 12 = true := by kernel_rfl
theorem laidOut : laidOutB Tryz.prog = true := by kernel_rfl
theorem readable : Tryz.f3.params.toList.all (fun t => Tryz.prog.readableRec t && decide (t < Tryz.prog.types.size)) = true := by kernel_rfl
theorem named : Tryz.pinned.checked.prog.funcNamed Rows.clientNobodyRow.func = some 3 := by kernel_rfl
theorem instanced : Tryz.f3.isInstance Tryz.pinned.checked.prog Rows.clientNobodyRow.origin Rows.clientNobodyRow.targs := of_decide_eq_true (by kernel_rfl)
theorem wrapper : Tryz.f3.isWrapper Tryz.pinned.checked.prog Rows.clientNobodyRow.wrapper Rows.clientNobodyRow.mainSum := by unfold Func.isWrapper; first | (rw [if_pos (by decide +kernel)]; kernel_rfl) | (rw [if_neg (by decide +kernel)]; exact ⟨rfl, rfl⟩)
set_option maxRecDepth 100000 in
theorem lifted (os : Os) (started : os.Started) (H : Type) (enc : TypeId × Value → H) :
    ReturnsInHanded {} Tryz.checked os 3 .any (fun w args => (Rows.clientNobodySpec.pre enc Tryz.prog Tryz.f3 [] false w args ∧ laidMetH Tryz.prog Rows.clientNobodyRow.laid w) ∧ sizedMet enc Tryz.prog Tryz.f3 (OpenSpec.ofChange Rows.clientNobodySpec) false w args)
      (Rows.clientNobodySpec.post enc Tryz.prog Tryz.f3 false true false false) := by
  refine returnsInHanded_of_change_and (C := Tryz.checked) (X := fun w _ => laidMetH Tryz.prog Rows.clientNobodyRow.laid w) (fun _ _ _ hh h => h.of_heap hh) own started noInit Tryz.func3
    (ChangeSpec.witness_shaped (enc := enc) (C := Tryz.checked) (os := os) (X := fun w _ => laidMetH Tryz.prog Rows.clientNobodyRow.laid w) false (World.doorLaid Tryz.prog 60 os) wargs 12 rfl (shaped os) (okIn os) (preIn os H enc) (sizIn os H enc) (door_met os _)) ?_
  intro W base args ds gs before hval hW _ _ _ _
  have hp : Tryz.f3.params = #[32, 40] := by kernel_rfl
  obtain ⟨p, q, hA, _⟩ := id hW
  rw [hp] at hA
  obtain ⟨v, vs, d, ds', p1, p2, hargs, _, _, _, hA2⟩ := trodAll_cons hA
  obtain ⟨v2, vs2, d2, ds2, p3, p4, hargs2, _, _, _, hA3⟩ := trodAll_cons hA2
  obtain ⟨rfl, _, _⟩ := trodAll_nil hA3
  subst hargs2
  have ha : args = #[v, v2] := Array.ext' (by rw [hargs])
  subst ha
  obtain ⟨cq, rfl, hq⟩ := agg_of Tryz.underlying32 (hval 0 _ v (by rw [hp]; rfl) rfl)
  obtain ⟨ck, rfl, hk⟩ := agg_of Tryz.underlying40 (hval 1 _ v2 (by rw [hp]; rfl) rfl)
  have e1 : Tryz.prog.cellsOf 32 = 73 := by kernel_rfl
  have e2 : Tryz.prog.cellsOf 40 = 143 := by kernel_rfl
  refine (ClientNobody_walk cq ck (hq.trans e1) (hk.trans e2) W).mono fun e W' ⟨he, hk⟩ => ?_
  subst he
  exact ⟨_, rfl, law_post (tb := 4) laidOut readable rfl (fun ds hd => by
    match ds, hd with
    | [_, _], _ => rfl) (by kernel_rfl) Tryz.underlying4 hW hk⟩
theorem row_holds : Rows.ClientNobodySaid :=
  OpenClaim.holds_of_wide 3 Tryz.f3 rfl rfl rfl rfl rfl rfl rfl ⟨rfl, rfl, rfl, rfl, rfl⟩ rfl rfl rfl rfl rfl named Tryz.func3 joined
    instanced wrapper
    (fun os started H enc _ => lifted os started H enc)
theorem mainIs : Tryz.pinned.checked.prog.mainIs = some (Rows.clientNobodyCard.stood.harness.1, Rows.clientNobodyCard.stood.harness.2.toList) := by kernel_rfl
theorem looksIs : Rows.clientNobodyCard.stood.looks = Tryz.pinned.checked.prog.looks [] := by kernel_rfl
theorem goesIs : false = Rows.clientNobodyRow.goesBy Tryz.pinned.checked.prog := by kernel_rfl
theorem textWf : Rows.clientNobodyRow.wfByText (OpenSpec.ofChange Rows.clientNobodySpec) = true := by kernel_rfl
theorem standIns : ([32, 40].all fun u => !Tryz.prog.wantsStandIn u) = true := by kernel_rfl
theorem ClientNobody_holds : Rows.ClientNobodyCardSaid :=
  Claim7.holds_tied_plain_at .later [] Rows.clientNobodyCard.laidKinds true Rows.clientNobodyCard.stood.harness Rows.clientNobodyCard.stood.looks row_holds (fun _ h => by cases h) textWf (fun _ h => by cases h) clientNobody_row_tie rfl ⟨rfl, rfl⟩ mainIs rfl
    (fun f fn hf hfn => by
      obtain rfl : f = 3 := Option.some.inj (hf.symm.trans named)
      obtain rfl : fn = Tryz.f3 := (Option.some.inj (Tryz.func3.symm.trans hfn)).symm
      refine ⟨looksIs, fun j t ht => ?_⟩
      have hp : Tryz.f3.params = #[32, 40] := by kernel_rfl
      rw [hp] at ht
      have hm : t ∈ [32, 40] := by simpa using Array.mem_of_getElem? ht
      exact (show Tryz.prog.wantsStandIn t = false by simpa using List.all_eq_true.1 standIns t hm))
    goesIs
#print axioms ClientNobody_holds
end Go.Proofs.YtlopmgjdeinpbaaGreatDoor

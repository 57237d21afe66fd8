/- The row and the tied card of DirectRuns: the call returns true and leaves its arguments as they were, for every input. -/
import Derived.Test.YtkoachnlimebaaaGreatDoorCX12
import Derived.Test.YtkoachnlimebaaaGreatDoorCY10
import Derived.Test.YtkoachnlimebaaaGreatDoorTie
import Derived.Test.YtkoachnlimebaaaGreatDoorCards
import Derived.OpenShut
import Derived.SevenTiedAt
import Derived.Stop.Joined
set_option linter.unusedSimpArgs false
set_option linter.unusedVariables false
namespace Go.Proofs.YtkoachnlimebaaaGreatDoor
open Go.AL Go.ChangeShapes Go.WideShapes Go.ChangeAt Go.RowKit

section
variable {H : Type} {enc : TypeId × Value → H} {w : World} {base : Nat} {sp : Nat → Bool} {held : Bool}
theorem reads_iW (fuel : Nat) : ReadsAt Tryz.prog enc w base sp held Rows.uptoBulk fuel 3 (fun n : Int => [iv n]) I64 (fun _ => 0) := by
  intro cs x h
  obtain ⟨n, rfl, hw⟩ := reads_intW Tryz.underlying3 h
  exact ⟨n, rfl, ⟨trivial, trivial⟩, fun _ => hw, Nat.zero_le _⟩
theorem reads_intsW {fuel : Nat} {cs : List Value} {x : DataW H × List MemPlace} (h : DataW.trod enc Tryz.prog w base sp held fuel 26 cs = some x) :
    ∃ hd l, cs = [hd] ∧ (intsAV hd l).ok (memOf w) ∧ (Light Tryz.prog 26 x.1 → ∀ n ∈ l, I64 n) := by
  obtain ⟨hd, gs, e, ok, W, b⟩ := reads_sl (sz := 1) (el := iv) (μ := fun _ => 0) Tryz.underlying26 (by kernel_rfl) (by decide) (fun m _ => reads_iW m) (fun g _ => rfl) (fun g h => h.1) h
  exact ⟨hd, gs, e, ok, fun hl => (W hl).2⟩
end
set_option maxRecDepth 100000 in
theorem directRuns_lifted (os : Os) (started : os.Started) (H : Type) (enc : TypeId × Value → H) :
    ReturnsInHanded {} Tryz.checked os 3 .any (fun w args => (Rows.directRunsSpec.pre enc Tryz.prog Tryz.f3 Rows.directRunsRow.domain false w args ∧ laidMetH Tryz.prog Rows.directRunsRow.laid w) ∧ sizedMet enc Tryz.prog Tryz.f3 (OpenSpec.ofChange Rows.directRunsSpec) false w args) (Rows.directRunsSpec.post enc Tryz.prog Tryz.f3 false true false false) := by
  refine returnsInHanded_of_calls (C := Tryz.checked) own started (by kernel_rfl)
    (ChangeSpec.witness_shaped (enc := enc) (C := Tryz.checked) (os := os) (X := fun w _ => laidMetH Tryz.prog Rows.directRunsRow.laid w) false (World.laidAll Tryz.prog os Rows.directRunsRow.laid) #[.agg #[.slice none 0 0, .slice none 0 0], .int .i64 0, .slice none 0 0] 8 (World.laidAll_os _ _ _)
      (World.shaped_of_ZipB (by kernel_rfl) (by kernel_rfl)) (by kernel_rfl) (by kernel_rfl) (by kernel_rfl)
      (by rw [MakeChecks.laidMetH_plain _ _ _ (by kernel_rfl)]; exact laidMet_laidAll _ (by kernel_rfl) (by kernel_rfl))) ?_
  intro w tape i _ hsh _ hok hpre hholds
  obtain ⟨_, _, _, fn', hfn', _, _, _, _, hval⟩ := hok
  have e : fn' = Tryz.f3 := Option.some.inj (hfn'.symm.trans Tryz.func3)
  subst e
  obtain ⟨⟨⟨ds, gs, before, hw, hc⟩, hlaid⟩, hz⟩ := hpre
  have hwt := hz.weights hw
  have hw' := DataW.Whole.of_heap (w' := w.forCall tape i) (by rfl) hw
  have contract : Calls Tryz.prog 3 i.args (w.forCall tape i) fun e W' => ∃ v, e = .returned v ∧ Rows.directRunsSpec.post enc Tryz.prog Tryz.f3 false true false false (w.forCall tape i) i.args v W' := by
    clear hz
    have htab : Lib.TabIs Tryz.prog (w.forCall tape i) "internal/strconv.uint64pow10" .u64 Lib.pow10Tab := tab_of_laid (W := (w.forCall tape i).memory) hlaid
    generalize w.forCall tape i = W at *
    generalize i.args = args at *
    have hsh' : W.ShapedOpen Tryz.checked.prog := hsh
    refine row_true laidOut (by kernel_rfl) (tb := 4) (by kernel_rfl) Tryz.underlying4 rfl (fun l hl => by match l, hl with | [a0, a1, a2], _ => rfl) hw' ?_
    obtain ⟨p, q, hA, hV, -⟩ := hw'
    obtain ⟨rfl, rfl⟩ := trodVars_none hV
    rw [show Tryz.f3.params.toList = [25, 3, 26] from by kernel_rfl] at hA
    obtain ⟨v0, v1, v2, d0, d1, d2, p0, p1, p2, rfl, rfl, rfl, h0, h1, h2⟩ := trodAll_three hA
    obtain ⟨cs0, fu0, rfl, k0⟩ := trod_aggr Tryz.underlying25 (hval 0 _ _ rfl rfl) h0
    obtain ⟨g0, e0, ok0, L0, b0⟩ := reads_prog _ _ _ k0
    obtain rfl : cs0 = (AV.vals g0.cs).toArray := by rw [e0]
    have L0' := L0 (light_at hwt (j := 0) (by kernel_rfl) rfl)
    obtain ⟨n1, rfl, rfl, rfl, w1⟩ := open_int Tryz.underlying3 (hval 1 3 v1 rfl rfl) h1
    obtain ⟨fu3, k3⟩ := trod_slice Tryz.underlying26 (hval 2 _ _ rfl rfl) h2
    obtain ⟨hd3, l3, e3, ok3, W3⟩ := reads_intsW k3
    have W3' := W3 (light_at hwt (j := 2) (by kernel_rfl) rfl)
    obtain rfl : v2 = hd3 := by simpa using e3
    obtain ⟨m, hm⟩ := Tryz.laysM144.s1_3 W hsh
    exact calls_of_rowT (args := [g0.av, .v (.int .i64 n1), intsAV v2 l3]) W hm htab ⟨ok0, trivial, ok3, trivial⟩ (directRuns_calls g0 L0' (pfit_of L0') n1 v2 l3 W3' _ (gok_hpT m) (tab_hpT m))
  refine contract.mono fun e W' ⟨v, he, hp⟩ => ?_
  subst he
  exact ChangeSpec.post_blind hp

theorem directRuns_holds : Rows.DirectRunsSaid := by
  refine OpenClaim.holds_of_wide 3 Tryz.f3 rfl rfl rfl rfl rfl rfl rfl ⟨rfl, rfl, rfl, rfl, rfl⟩ rfl rfl rfl rfl rfl (by kernel_rfl) Tryz.func3 (by kernel_rfl) (of_decide_eq_true (by kernel_rfl))
    (by unfold Func.isWrapper; rw [if_neg (by decide +kernel)]; exact ⟨rfl, rfl⟩) (fun os started H enc _ => directRuns_lifted os started H enc)
theorem directRuns_card_holds : Rows.DirectRunsCardSaid :=
  Claim7.holds_tied_plain_at .later [] [.data, .data, .data] true (true, "6bbddaabd54a97d2a507970ca65b0dff358673e4f919eb94734f76216390dc8d") true directRuns_holds (fun _ h => by cases h) (by kernel_rfl) (fun _ h => by cases h) directRuns_row_tie rfl ⟨rfl, rfl⟩ (by kernel_rfl) rfl
    (fun f fn hf hfn => by
      obtain rfl : f = 3 := Option.some.inj ((show Tryz.prog.funcNamed "chiasmus/chiasmuslaw05.DirectRuns" = some 3 by kernel_rfl).symm.trans hf) |>.symm
      obtain rfl : fn = Tryz.f3 := (Option.some.inj (Tryz.func3.symm.trans hfn)).symm
      exact ⟨by kernel_rfl, fun j t ht => by
        rw [show Tryz.f3.params = #[25, 3, 26] from by kernel_rfl] at ht
        have hm : t ∈ [25, 3, 26] := by simpa using Array.mem_of_getElem? ht
        have hall : ([25, 3, 26].all fun u => !Tryz.prog.wantsStandIn u) = true := by kernel_rfl
        exact (show Tryz.prog.wantsStandIn t = false by simpa using List.all_eq_true.1 hall t hm)⟩)
    (by kernel_rfl)
#print axioms directRuns_holds
#print axioms directRuns_card_holds
end Go.Proofs.YtkoachnlimebaaaGreatDoor

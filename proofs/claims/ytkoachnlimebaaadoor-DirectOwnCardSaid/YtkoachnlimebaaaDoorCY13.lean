/- The row and the tied card of DirectOwn: the call returns true and leaves its arguments as they were, for every input. -/
import Derived.Test.YtkoachnlimebaaaDoorCY12
import Derived.Test.YtkoachnlimebaaaDoorCY10
import Derived.Test.YtkoachnlimebaaaDoorTie
import Derived.Test.YtkoachnlimebaaaDoorCards
import Derived.OpenShut
import Derived.SevenTiedAt
import Derived.Stop.Joined
set_option linter.unusedSimpArgs false
set_option linter.unusedVariables false
namespace Go.Proofs.YtkoachnlimebaaaDoor
open Go.AL Go.ChangeShapes Go.WideShapes Go.ChangeAt Go.RowKit

section
variable {H : Type} {enc : TypeId × Value → H} {w : World} {base : Nat} {sp : Nat → Bool} {held : Bool}
theorem reads_iW (fuel : Nat) : ReadsAt Tryd.prog enc w base sp held Rows.uptoBulk fuel 3 (fun n : Int => [iv n]) I64 (fun _ => 0) := by
  intro cs x h
  obtain ⟨n, rfl, hw⟩ := reads_intW Tryd.underlying3 h
  exact ⟨n, rfl, ⟨trivial, trivial⟩, fun _ => hw, Nat.zero_le _⟩
theorem reads_intsW {fuel : Nat} {cs : List Value} {x : DataW H × List MemPlace} (h : DataW.trod enc Tryd.prog w base sp held fuel 26 cs = some x) :
    ∃ hd l, cs = [hd] ∧ (intsAV hd l).ok (memOf w) ∧ (Light Tryd.prog 26 x.1 → ∀ n ∈ l, I64 n) := by
  obtain ⟨hd, gs, e, ok, W, b⟩ := reads_sl (sz := 1) (el := iv) (μ := fun _ => 0) Tryd.underlying26 (by kernel_rfl) (by decide) (fun m _ => reads_iW m) (fun g _ => rfl) (fun g h => h.1) h
  exact ⟨hd, gs, e, ok, fun hl => (W hl).2⟩
end
set_option maxRecDepth 100000 in
theorem directOwn_lifted (os : Os) (started : os.Started) (H : Type) (enc : TypeId × Value → H) :
    ReturnsInHanded {} Tryd.checked os 4 .any (fun w args => (Rows.directOwnSpec.pre enc Tryd.prog Tryd.f4 Rows.directOwnRow.domain false w args ∧ laidMetH Tryd.prog Rows.directOwnRow.laid w) ∧ sizedMet enc Tryd.prog Tryd.f4 (OpenSpec.ofChange Rows.directOwnSpec) false w args) (Rows.directOwnSpec.post enc Tryd.prog Tryd.f4 false true false false) := by
  refine returnsInHanded_of_calls (C := Tryd.checked) own started (by kernel_rfl)
    (ChangeSpec.witness_shaped (enc := enc) (C := Tryd.checked) (os := os) (X := fun w _ => laidMetH Tryd.prog Rows.directOwnRow.laid w) false (World.laidAll Tryd.prog os Rows.directOwnRow.laid) #[.agg #[.slice none 0 0, .slice none 0 0], .int .i64 0, .slice none 0 0] 8 (World.laidAll_os _ _ _)
      (World.shaped_of_ZipB (by kernel_rfl) (by kernel_rfl)) (by kernel_rfl) (by kernel_rfl) (by kernel_rfl)
      (by rw [MakeChecks.laidMetH_plain _ _ _ (by kernel_rfl)]; exact laidMet_laidAll _ (by kernel_rfl) (by kernel_rfl))) ?_
  intro w tape i _ hsh _ hok hpre hholds
  obtain ⟨_, _, _, fn', hfn', _, _, _, _, hval⟩ := hok
  have e : fn' = Tryd.f4 := Option.some.inj (hfn'.symm.trans Tryd.func4)
  subst e
  obtain ⟨⟨⟨ds, gs, before, hw, hc⟩, hlaid⟩, hz⟩ := hpre
  have hwt := hz.weights hw
  have hw' := DataW.Whole.of_heap (w' := w.forCall tape i) (by rfl) hw
  have contract : Calls Tryd.prog 4 i.args (w.forCall tape i) fun e W' => ∃ v, e = .returned v ∧ Rows.directOwnSpec.post enc Tryd.prog Tryd.f4 false true false false (w.forCall tape i) i.args v W' := by
    clear hz
    have htab : Lib.TabIs Tryd.prog (w.forCall tape i) "internal/strconv.uint64pow10" .u64 Lib.pow10Tab := tab_of_laid (W := (w.forCall tape i).memory) hlaid
    generalize w.forCall tape i = W at *
    generalize i.args = args at *
    have hsh' : W.ShapedOpen Tryd.checked.prog := hsh
    refine row_true laidOut (by kernel_rfl) (tb := 4) (by kernel_rfl) Tryd.underlying4 rfl (fun l hl => by match l, hl with | [a0, a1, a2], _ => rfl) hw' ?_
    obtain ⟨p, q, hA, hV, -⟩ := hw'
    obtain ⟨rfl, rfl⟩ := trodVars_none hV
    rw [show Tryd.f4.params.toList = [25, 3, 26] from by kernel_rfl] at hA
    obtain ⟨v0, v1, v2, d0, d1, d2, p0, p1, p2, rfl, rfl, rfl, h0, h1, h2⟩ := trodAll_three hA
    obtain ⟨cs0, fu0, rfl, k0⟩ := trod_aggr Tryd.underlying25 (hval 0 _ _ rfl rfl) h0
    obtain ⟨g0, e0, ok0, L0, b0⟩ := reads_prog _ _ _ k0
    obtain rfl : cs0 = (AV.vals g0.cs).toArray := by rw [e0]
    have L0' := L0 (light_at hwt (j := 0) (by kernel_rfl) rfl)
    obtain ⟨n1, rfl, rfl, rfl, w1⟩ := open_int Tryd.underlying3 (hval 1 3 v1 rfl rfl) h1
    obtain ⟨fu3, k3⟩ := trod_slice Tryd.underlying26 (hval 2 _ _ rfl rfl) h2
    obtain ⟨hd3, l3, e3, ok3, W3⟩ := reads_intsW k3
    have W3' := W3 (light_at hwt (j := 2) (by kernel_rfl) rfl)
    obtain rfl : v2 = hd3 := by simpa using e3
    obtain ⟨m, hm⟩ := Tryd.laysM144.s1_3 W hsh
    exact calls_of_rowT (args := [g0.av, .v (.int .i64 n1), intsAV v2 l3]) W hm htab ⟨ok0, trivial, ok3, trivial⟩ (directOwn_calls g0 L0' (pfit_of L0') n1 v2 l3 W3' _ (gok_hpT m) (tab_hpT m))
  refine contract.mono fun e W' ⟨v, he, hp⟩ => ?_
  subst he
  exact ChangeSpec.post_blind hp

theorem directOwn_holds : Rows.DirectOwnSaid := by
  refine OpenClaim.holds_of_wide 4 Tryd.f4 rfl rfl rfl rfl rfl rfl rfl ⟨rfl, rfl, rfl, rfl, rfl⟩ rfl rfl rfl rfl rfl (by kernel_rfl) Tryd.func4 (by kernel_rfl) (of_decide_eq_true (by kernel_rfl))
    (by unfold Func.isWrapper; rw [if_neg (by decide +kernel)]; exact ⟨rfl, rfl⟩) (fun os started H enc _ => directOwn_lifted os started H enc)
theorem directOwn_card_holds : Rows.DirectOwnCardSaid :=
  Claim7.holds_tied_plain_at .later [] [.data, .data, .data] true (true, "def5be3f254d4556f50bdbe8d59a4abc5a9e0783d9a37172dc65d90a2677cfa8") true directOwn_holds (fun _ h => by cases h) (by kernel_rfl) (fun _ h => by cases h) directOwn_row_tie rfl ⟨rfl, rfl⟩ (by kernel_rfl) rfl
    (fun f fn hf hfn => by
      obtain rfl : f = 4 := Option.some.inj ((show Tryd.prog.funcNamed "chiasmus/chiasmuslaw05.DirectOwn" = some 4 by kernel_rfl).symm.trans hf) |>.symm
      obtain rfl : fn = Tryd.f4 := (Option.some.inj (Tryd.func4.symm.trans hfn)).symm
      exact ⟨by kernel_rfl, fun j t ht => by
        rw [show Tryd.f4.params = #[25, 3, 26] from by kernel_rfl] at ht
        have hm : t ∈ [25, 3, 26] := by simpa using Array.mem_of_getElem? ht
        have hall : ([25, 3, 26].all fun u => !Tryd.prog.wantsStandIn u) = true := by kernel_rfl
        exact (show Tryd.prog.wantsStandIn t = false by simpa using List.all_eq_true.1 hall t hm)⟩)
    (by kernel_rfl)
#print axioms directOwn_holds
#print axioms directOwn_card_holds
end Go.Proofs.YtkoachnlimebaaaDoor

/- The row of DeclFinds. -/
import Derived.Test.YtfdlfcafcjhpmaaCD16
import Derived.Test.YtfdlfcafcjhpmaaCAL22
import Derived.Test.YtfdlfcafcjhpmaaCShelfM
import Derived.Test.YtfdlfcafcjhpmaaRows
import Derived.ProofKit
set_option linter.unusedSimpArgs false
set_option linter.unusedVariables false
namespace Go.Proofs.Ytfdlfcafcjhpmaa
open Go.AL Go.ChangeShapes Go.WideShapes Go.ChangeAt Go.RowKit

theorem own : ownKnob Try.prog.godebug = none := by kernel_rfl
theorem laidOut : laidOutB Try.prog = true := by kernel_rfl

theorem trod_slice {H : Type} {enc : TypeId × Value → H} {P : Program} {w : World} {base : Nat} {spare : Nat → Bool} {held : Bool} {r : Reach} {b0 : Nat} {t e : TypeId} {v : Value} {d : DataW H} {ps : List MemPlace} (ht : P.underlying t = some (.slice e))
    (hval : Value.okWide P w r b0 t v) (hd : DataW.Trod enc P w base spare held t v d ps) : ∃ fuel, DataW.trod enc P w base spare held fuel t [v] = some (d, ps) := by
  obtain ⟨a0, n, c, rfl⟩ := okWide_slice ht hval
  exact hd
theorem trod_string {H : Type} {enc : TypeId × Value → H} {P : Program} {w : World} {base : Nat} {spare : Nat → Bool} {held : Bool} {r : Reach} {b0 : Nat} {t : TypeId} {v : Value} {d : DataW H} {ps : List MemPlace} (ht : P.underlying t = some .string)
    (hval : Value.okWide P w r b0 t v) (hd : DataW.Trod enc P w base spare held t v d ps) : ∃ fuel, DataW.trod enc P w base spare held fuel t [v] = some (d, ps) := by
  obtain ⟨s, rfl⟩ := okWide_string ht hval
  exact hd

theorem gok_hp0 (m : Int) : GOk (hp0 m) := ⟨m, List.mem_singleton.2 rfl⟩

set_option maxRecDepth 100000 in
theorem declFinds_lifted (os : Os) (started : os.Started) (H : Type) (enc : TypeId × Value → H) :
    ReturnsInHanded {} Try.checked os 10 .any (Rows.declFindsSpec.pre6 enc Try.prog Try.f10 Rows.declFindsRow.domain false) (Rows.declFindsSpec.post enc Try.prog Try.f10 false true false false) := by
  refine returnsInHanded_of_calls (C := Try.checked) own started (by kernel_rfl)
    (ChangeSpec.witness6 (enc := enc) (C := Try.checked) false ⟨#[], #[.slice none 0 0, .string .empty], []⟩ 8 (by kernel_rfl) (by kernel_rfl) (by kernel_rfl) (by kernel_rfl)) ?_
  intro w tape i _ hsh _ hok hpre hholds
  obtain ⟨_, _, _, fn', hfn', _, _, _, _, hval⟩ := hok
  have e : fn' = Try.f10 := Option.some.inj (hfn'.symm.trans Try.func10)
  subst e
  obtain ⟨⟨ds, gs, before, hw, hc⟩, _⟩ := hpre
  have hw' := DataW.Whole.of_heap (w' := w.forCall tape i) (by rfl) hw
  have contract : Calls Try.prog 10 i.args (w.forCall tape i) fun e W' => ∃ v, e = .returned v ∧ Rows.declFindsSpec.post enc Try.prog Try.f10 false true false false (w.forCall tape i) i.args v W' := by
    generalize w.forCall tape i = W at *
    generalize i.args = args at *
    have hsh' : W.ShapedOpen Try.checked.prog := hsh
    refine row_true laidOut (by kernel_rfl) (tb := 4) (by kernel_rfl) Try.underlying4 rfl (fun l hl => by match l, hl with | [a, b], _ => rfl) hw' ?_
    obtain ⟨p, q, hA, -⟩ := hw'
    rw [show Try.f10.params.toList = [69, 9] from by kernel_rfl] at hA
    obtain ⟨v0, v1, d0, d1, p0, p1, rfl, rfl, rfl, h0, h1⟩ := trodAll_two hA
    obtain ⟨fu0, k0⟩ := trod_slice Try.underlying69 (hval 0 _ _ rfl rfl) h0
    obtain ⟨fu1, k1⟩ := trod_string Try.underlying9 (hval 1 _ _ rfl rfl) h1
    obtain ⟨hd, l, e0, hl, hL⟩ := reads_decls k0
    obtain ⟨s, e1, hs⟩ := reads_string Try.underlying9 k1
    obtain rfl := List.cons.inj e0 |>.1
    obtain rfl := List.cons.inj e1 |>.1
    obtain ⟨m, hm⟩ := Try.laysM144.s1_3 W hsh
    exact calls_of_row (args := [declsAV v0 l, .v (.string (bs s))]) W hm ⟨hl, trivial, trivial⟩ (declFinds_calls v0 l s _ (gok_hp0 m))
  refine contract.mono fun e W' ⟨v, he, hp⟩ => ?_
  subst he
  exact ChangeSpec.post_blind hp

theorem declFinds_holds : Rows.DeclFindsSaid := by
  refine OpenClaim.holds_of_wide 10 Try.f10 rfl rfl rfl rfl rfl rfl rfl ⟨rfl, rfl, rfl, rfl, rfl⟩ rfl rfl rfl rfl rfl (by kernel_rfl) Try.func10 (by kernel_rfl) (of_decide_eq_true (by kernel_rfl))
    (by unfold Func.isWrapper; rw [if_neg (by decide +kernel)]; exact ⟨rfl, rfl⟩) (fun os started H enc _ => declFinds_lifted os started H enc)
#print axioms declFinds_holds
end Go.Proofs.Ytfdlfcafcjhpmaa

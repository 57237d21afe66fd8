/- The row of DeclOwn: the call returns true and leaves its arguments as they were, for every input. -/
import Derived.Test.YtfdlfcafcjhpmaaCD25
import Derived.Test.YtfdlfcafcjhpmaaCD21
set_option linter.unusedSimpArgs false
set_option linter.unusedVariables false
namespace Go.Proofs.Ytfdlfcafcjhpmaa
open Go.AL Go.ChangeShapes Go.WideShapes Go.ChangeAt Go.RowKit

theorem copyFit_of {l : List DeclG} (h : l.length * 48 ≤ reachBytes ∧ ∀ d ∈ l, d.small) : CopyFit l := by
  have hR : reachBytes = 140737488351232 := rfl
  refine ⟨by have := h.1; omega, fun d hd => ?_, fun d hd x hx => ?_⟩
  · have := (h.2 d hd).1; omega
  · have : x.args.length * 16 ≤ reachBytes := (h.2 d hd).2 x hx
    omega

set_option maxRecDepth 100000 in
theorem declOwn_lifted (os : Os) (started : os.Started) (H : Type) (enc : TypeId × Value → H) :
    ReturnsInHanded {} Try.checked os 12 .any (Rows.declOwnSpec.pre6 enc Try.prog Try.f12 Rows.declOwnRow.domain false) (Rows.declOwnSpec.post enc Try.prog Try.f12 false true false false) := by
  refine returnsInHanded_of_calls (C := Try.checked) own started (by kernel_rfl)
    (ChangeSpec.witness6 (enc := enc) (C := Try.checked) false ⟨#[], #[.slice none 0 0, .int .i64 0, .int .i64 0, .string .empty], []⟩ 8 (by kernel_rfl) (by kernel_rfl) (by kernel_rfl) (by kernel_rfl)) ?_
  intro w tape i _ hsh _ hok hpre hholds
  obtain ⟨_, _, _, fn', hfn', _, _, _, _, hval⟩ := hok
  have e : fn' = Try.f12 := Option.some.inj (hfn'.symm.trans Try.func12)
  subst e
  obtain ⟨⟨ds, gs, before, hw, hc⟩, hz⟩ := hpre
  have hwt := hz.weights hw
  have hw' := DataW.Whole.of_heap (w' := w.forCall tape i) (by rfl) hw
  have contract : Calls Try.prog 12 i.args (w.forCall tape i) fun e W' => ∃ v, e = .returned v ∧ Rows.declOwnSpec.post enc Try.prog Try.f12 false true false false (w.forCall tape i) i.args v W' := by
    clear hz
    generalize w.forCall tape i = W at *
    generalize i.args = args at *
    have hsh' : W.ShapedOpen Try.checked.prog := hsh
    refine row_true laidOut (by kernel_rfl) (tb := 4) (by kernel_rfl) Try.underlying4 rfl (fun l hl => by match l, hl with | [a0, a1, a2, a3], _ => rfl) hw' ?_
    obtain ⟨p, q, hA, hV, -⟩ := hw'
    obtain ⟨rfl, rfl⟩ := trodVars_none hV
    rw [show Try.f12.params.toList = [69, 3, 3, 9] from by kernel_rfl] at hA
    obtain ⟨v0, v1, v2, v3, d0, d1, d2, d3, p0, p1, p2, p3, rfl, rfl, rfl, h0, h1, h2, h3⟩ := trodAll_four hA
    obtain ⟨fu0, k0⟩ := trod_slice Try.underlying69 (hval 0 _ _ rfl rfl) h0
    obtain ⟨hd0, l0, e0, hl0, hL0⟩ := reads_decls k0
    obtain rfl := List.cons.inj e0 |>.1
    have hL0' := hL0 (light_at hwt (j := 0) (by kernel_rfl) rfl)
    obtain ⟨n1, rfl, rfl, rfl, w1⟩ := open_int Try.underlying3 (hval 1 3 v1 rfl rfl) h1
    obtain ⟨n2, rfl, rfl, rfl, w2⟩ := open_int Try.underlying3 (hval 2 3 v2 rfl rfl) h2
    obtain ⟨fu3, k3⟩ := trod_string Try.underlying9 (hval 3 _ _ rfl rfl) h3
    obtain ⟨s3, e3, hs3⟩ := reads_string Try.underlying9 k3
    obtain rfl := List.cons.inj e3 |>.1
    obtain ⟨m, hm⟩ := Try.laysM144.s1_3 W hsh
    exact calls_of_row (args := [declsAV v0 l0, .v (.int .i64 n1), .v (.int .i64 n2), .v (.string (bs s3))]) W hm ⟨hl0, trivial, trivial, trivial, trivial⟩ (declOwn_calls v0 l0 n1 n2 s3 (copyFit_of hL0') _ (gok_hp0 m))
  refine contract.mono fun e W' ⟨v, he, hp⟩ => ?_
  subst he
  exact ChangeSpec.post_blind hp

theorem declOwn_holds : Rows.DeclOwnSaid := by
  refine OpenClaim.holds_of_wide 12 Try.f12 rfl rfl rfl rfl rfl rfl rfl ⟨rfl, rfl, rfl, rfl, rfl⟩ rfl rfl rfl rfl rfl (by kernel_rfl) Try.func12 (by kernel_rfl) (of_decide_eq_true (by kernel_rfl))
    (by unfold Func.isWrapper; rw [if_neg (by decide +kernel)]; exact ⟨rfl, rfl⟩) (fun os started H enc _ => declOwn_lifted os started H enc)
#print axioms declOwn_holds
end Go.Proofs.Ytfdlfcafcjhpmaa

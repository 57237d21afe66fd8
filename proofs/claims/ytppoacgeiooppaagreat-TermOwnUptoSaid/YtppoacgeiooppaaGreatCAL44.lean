/- Rows handed back that the caller writes: out of a contract that keeps them. -/
import Derived.Test.YtppoacgeiooppaaGreatCAL43
import Derived.Test.YtppoacgeiooppaaGreatCAL36
set_option linter.unusedVariables false
set_option linter.unusedSimpArgs false
namespace Go.AL
section
variable {P : Program}
/-- A call whose results are own rows: the caller has them tracked. -/
theorem acalls_rowsOf {f : FuncId} {args : List AV} {hp : Hp} {T : TypeId} {R : AV → List Value → Prop} {R0 : AV → Hp → Prop} (h : ACalls P f args (bareHp hp) R0)
    (hres : ∀ r hp', R0 r hp' → ∃ r2 hs, R r2 hs ∧ r2.val = r.val ∧ (∀ v ∈ hs, (T, 1, v) ∈ hp'.sp) ∧ ∀ m, r2.ok m) :
    ACalls P f args hp (fun r hp' => ∃ hs, R r hs ∧ AllRows T hp hs hp') := by
  refine acalls_rows h.1 fun base m w hh ho => ?_
  have ho' : AV.oks (memOf w) args := AV.oks_mono (le_memOf hh) _ ho
  refine (h.2 ⟨memOf w, w, w.heap.size⟩ w ⟨Lo.self _ _ _ (Nat.le_refl _), memOf w, Mem.le_refl _, bare_ok hh, ho'⟩).mono ?_
  rintro e w' ⟨r, hp', hR, rfl, hlo', m', hle', hhp', hr, _⟩
  obtain ⟨r2, hs, h1, h2, h3, h4⟩ := hres r hp' hR
  refine ⟨⟨hlo'.os, hlo'.tape, hlo'.output, hlo'.size, hlo'.low⟩, r2, hs, h1, by rw [h2], fun v hv => own_rowAt hhp' (h3 v hv), fun m' _ _ => h4 m'⟩
/-- What a call hands back stands in a memory. -/
theorem acalls_okR {f : FuncId} {args : List AV} {hp : Hp} {R : AV → Hp → Prop} (h : ACalls P f args hp R) : ACalls P f args hp (fun r hp' => R r hp' ∧ ∃ m, r.ok m) :=
  ⟨h.1, fun F w hr => (h.2 F w hr).mono fun _ _ ⟨r, hp', h1, h2, h3, m, h4, h5, h6, h7⟩ => ⟨r, hp', ⟨h1, m, h6⟩, h2, h3, m, h4, h5, h6, h7⟩⟩
/-- A result told in other words. -/
theorem acalls_val {f : FuncId} {args : List AV} {hp : Hp} {R R' : AV → Hp → Prop} (h : ACalls P f args hp R) (hR : ∀ r hp', R r hp' → ∃ r', R' r' hp' ∧ r'.val = r.val ∧ ∀ m, r.ok m → r'.ok m) : ACalls P f args hp R' :=
  ⟨h.1, fun F w hr => (h.2 F w hr).mono fun _ _ ⟨r, hp', h1, h2, h3, m, h4, h5, h6, h7⟩ => by
    obtain ⟨r', g1, g2, g3⟩ := hR r hp' h1
    exact ⟨r', hp', g1, by rw [g2]; exact h2, h3, m, h4, h5, g3 m h6, h7⟩⟩
/-- A row that is kept apart stands on. -/
theorem AllRows.mono {T : TypeId} {hp hp' : Hp} {hs ks : List Value} (r : AllRows T hp hs hp') (h : ∀ v ∈ ks, v ∈ hs) : AllRows T hp ks hp' := ⟨r.le, fun v hv => r.row v (h v hv)⟩
end
end Go.AL

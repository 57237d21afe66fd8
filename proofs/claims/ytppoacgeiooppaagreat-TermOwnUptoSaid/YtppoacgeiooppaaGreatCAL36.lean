/- A call that is lent all memory: what was there stays as it was. -/
import Derived.Test.YtppoacgeiooppaaGreatCAL34
import Derived.Test.YtppoacgeiooppaaGreatCAL22
import Derived.Test.YtppoacgeiooppaaGreatCAL25
import Derived.Test.YtppoacgeiooppaaGreatCAL28
set_option linter.unusedVariables false
set_option linter.unusedSimpArgs false
namespace Go.AL
section
variable {P : Program}
/-- Nothing tracked but what is known of the globals. -/
def bareHp (hp : Hp) : Hp := ⟨fun _ => none, fun _ => none, [], hp.gl⟩
theorem le_memOf {base : Nat} {hp : Hp} {m : Mem} {w : World} (h : HpOk base hp m w) : m.le (memOf w) := fun b o x hx => h.mem b o x hx
theorem bare_ok {base : Nat} {hp : Hp} {m : Mem} {w : World} (h : HpOk base hp m w) : HpOk w.heap.size (bareHp hp) (memOf w) w :=
  ⟨fun b o x hx => hx, fun b T cs hb => by simp [bareHp] at hb, fun b es hb => by simp [bareHp] at hb, fun e sz hd hi => by simp [bareHp] at hi, by simp [bareHp],
    fun g cs hg => ⟨(h.gl g cs hg).1.mono (le_memOf h), AV.oks_mono (le_memOf h) _ (h.gl g cs hg).2⟩⟩
theorem acalls_frame {f : FuncId} {args args' : List AV} {hp : Hp} {R0 R : AV → Hp → Prop} (hv : AV.vals args' = AV.vals args)
    (hok : ∀ base m w, HpOk base hp m w → AV.oks m args → AV.oks (memOf w) args') (h : ACalls P f args' (bareHp hp) R0)
    (hres : ∀ base m m' w w' r hp', R0 r hp' → base ≤ w.heap.size → HpOk base hp m w → HpOk base hp m w' → HpOk w.heap.size hp' m' w' → (memOf w).le m' → r.ok m' → (∀ k, k < w.heap.size → w'.heap[k]? = w.heap[k]?) → ∃ r2 hp2 m2, R r2 hp2 ∧ r2.val = r.val ∧ m.le m2 ∧ HpOk base hp2 m2 w' ∧ r2.ok m2) :
    ACalls P f args hp R := by
  refine ⟨h.1, fun F w hrv => ?_⟩
  obtain ⟨hlo, m, hle, hhp, ho⟩ := hrv
  rw [← hv]
  refine (h.2 ⟨memOf w, w, w.heap.size⟩ w ⟨Lo.self _ _ _ (Nat.le_refl _), memOf w, Mem.le_refl _, bare_ok hhp, hok _ m w hhp ho⟩).mono ?_
  rintro e w' ⟨r, hp', hR, rfl, hlo', m', hle', hhp', hr, _⟩
  have hold : ∀ k, k < w.heap.size → w'.heap[k]? = w.heap[k]? := hlo'.low
  obtain ⟨r2, hp2, m2, h1, h2, h3, h4, h5⟩ := hres F.base m m' w w' r hp' hR hlo.bs hhp (hhp.world hold) hhp' hle' hr hold
  exact ⟨r2, hp2, h1, by rw [h2], hlo.grow hlo'.os hlo'.tape hlo'.output hlo'.size (fun k hk => hold k (Nat.lt_of_lt_of_le hk hlo.bs)), m2, Mem.le_trans hle h3, h4, h5, trivial⟩
/-- A result without memory. -/
theorem acalls_lend {f : FuncId} {args args' : List AV} {hp : Hp} {R : AV → Prop} (hv : AV.vals args' = AV.vals args)
    (hok : ∀ base m w, HpOk base hp m w → AV.oks m args → AV.oks (memOf w) args') (hr : ∀ r, R r → ∀ m, r.ok m)
    (h : ACalls P f args' (bareHp hp) (fun r _ => R r)) : ACalls P f args hp (fun r hp' => R r ∧ hp' = hp) :=
  acalls_frame hv hok h fun base m m' w w' r hp' hR hb h1 h2 h3 h4 h5 h6 => ⟨r, hp, m, ⟨hR, rfl⟩, rfl, Mem.le_refl _, h2, hr r hR m⟩
/-- A tracked row, read as a list. -/
theorem lend_row {base : Nat} {hp : Hp} {m : Mem} {w : World} (h : HpOk base hp m w) {b n cap sz : Nat} {T : TypeId} {cs xs rest : List AV} (hb : hp.blk b = some (T, cs)) (hcs : AV.vals cs = AV.vals (xs.flatMap AV.cells ++ rest)) (hone : ∀ x ∈ xs, x.cells.length = sz) (hn : xs.length = n) (hcap : n ≤ cap) (hmax : cap ≤ maxLen)
    (hx : AV.oks (memOf w) xs) : (AV.lst sz (.slice (some ⟨b, 0, none⟩) n cap) xs).ok (memOf w) := by
  obtain ⟨hbase, hheap, hoks, hmn⟩ := h.blk b T cs hb
  have hfl : AV.vals cs = ((AV.vals xs).flatMap fun v => v.cells.toList) ++ AV.vals rest := by rw [hcs, AV.vals_append, flat_vals xs hx]
  refine hdr_blkT hx hone hn hcap hmax (fun k x hk => ?_)
  have h1 : (AV.vals cs)[k]? = some x := by rw [hfl, List.getElem?_append_left (List.getElem?_eq_some_iff.1 hk).1]; exact hk
  have hk2 : k < (AV.vals cs).length := (List.getElem?_eq_some_iff.1 h1).1
  show w.cell? ⟨b, k, none⟩ = some x
  simp [World.cell?, hheap, h1]
end
end Go.AL
/- A call that is lent all memory and returns a list of its own: the row is tracked afterwards. -/
set_option linter.unusedVariables false
set_option linter.unusedSimpArgs false
namespace Go.AL
section
variable {P : Program}
theorem HpOk.freshB {base : Nat} {hp : Hp} {m : Mem} {w : World} (h : HpOk base hp m w) {b : Nat} (hb : w.heap.size ≤ b) : Fresh hp b ∧ ∀ o, m b o = none := by
  refine ⟨⟨?_, ?_, ?_⟩, ?_⟩
  · cases hx : hp.blk b with
    | none => rfl
    | some x => have := heap_lt (h.blk b x.1 x.2 (by rw [hx])).2.1; omega
  · cases hx : hp.mp b with
    | none => rfl
    | some es =>
      obtain ⟨_, ⟨en, cl, h1, _⟩, _⟩ := h.mp b es hx
      have := heap_lt h1; omega
  · rintro ⟨e, sz, hd⟩ hi hbo
    rcases (h.sp e sz hd hi).1 with h1 | ⟨b', n, cap, cur, e1, e2, e3, r⟩
    · subst h1; cases hbo
    · subst e1
      simp only [blockOf, Option.some.injEq] at hbo
      have := heap_lt e3; omega
  · intro o
    cases hx : m b o with
    | none => rfl
    | some x => have := h.memLt hx; omega
theorem HpOk.setFresh {base : Nat} {hp : Hp} {m : Mem} {w w' : World} (h : HpOk base hp m w) (h' : HpOk base hp m w') {b : Nat} {e : TypeId} {cs : List AV} (hb : w.heap.size ≤ b) (hbb : base ≤ b) (hw : w'.heap[b]? = some (.cells (AV.vals cs).toArray e (0, 0))) (hok : AV.oks m cs) : HpOk base (hp.setBlk b e cs) m w' := by
  obtain ⟨hf, hm⟩ := h.freshB hb
  refine ⟨h'.mem, fun b' T' cs' hx => ?_, h'.mp, fun e' sz hd hi => ⟨(h'.sp e' sz hd hi).1, fun b' hb' => ?_⟩, h'.spd, h'.gl⟩
  · rw [Hp.setBlk_blk] at hx
    split at hx
    · rename_i e; subst e
      simp only [Option.some.injEq, Prod.mk.injEq] at hx
      obtain ⟨rfl, rfl⟩ := hx
      exact ⟨hbb, hw, hok, hm⟩
    · exact h'.blk b' T' cs' hx
  · rw [Hp.setBlk_blk]
    split
    · rename_i e; subst e; exact absurd hb' (hf.2.2 _ hi)
    · exact (h'.sp e' sz hd hi).2 b' hb'
end
end Go.AL

/- A call that is lent all memory: what was there stays as it was. -/
import Derived.Test.YtkoachnlimebaaaDoorCAL34
import Derived.Test.YtkoachnlimebaaaDoorCAL22
import Derived.Test.YtkoachnlimebaaaDoorCAL25
import Derived.Test.YtkoachnlimebaaaDoorCAL28
set_option linter.unusedVariables false
set_option linter.unusedSimpArgs false
namespace Go.AL
section
variable {P : Program}
/-- Nothing tracked but what is known of the globals. -/
def bareHp (hp : Hp) : Hp := ⟨fun _ => none, fun _ => none, [], hp.gl⟩
theorem le_memOf {base : Nat} {hp : Hp} {m : Mem} {w : World} (h : HpOk base hp m w) : m.le (memOf w) := fun b o x hx => h.mem b o x hx
theorem bare_ok {base : Nat} {hp : Hp} {m : Mem} {w : World} (h : HpOk base hp m w) : HpOk w.heap.size (bareHp hp) (memOf w) w :=
  ⟨fun b o x hx => hx, fun b T cs hb => by simp [bareHp] at hb, fun b es hb => by simp [bareHp] at hb, fun e sz hd hi => by simp [bareHp] at hi, by simp [bareHp],
    fun g cs hg => (h.gl g cs hg).mono (le_memOf h) (fun _ h2 => ⟨h2, rfl⟩)⟩
theorem acalls_frame {f : FuncId} {args args' : List AV} {hp : Hp} {R0 R : AV → Hp → Prop} (hv : AV.vals args' = AV.vals args)
    (hok : ∀ base m w, HpOk base hp m w → AV.oks m args → AV.oks (memOf w) args') (h : ACalls P f args' (bareHp hp) R0)
    (hres : ∀ base m m' w w' r hp', R0 r hp' → base ≤ w.heap.size → HpOk base hp m w → HpOk base hp m w' → HpOk w.heap.size hp' m' w' → (memOf w).le m' → r.ok m' → (∀ k, k < w.heap.size → w'.heap[k]? = w.heap[k]?) → ∃ r2 hp2 m2, R r2 hp2 ∧ r2.val = r.val ∧ m.le m2 ∧ HpOk base hp2 m2 w' ∧ r2.ok m2) :
    ACalls P f args hp R := by
  refine ⟨h.1, fun F w hrv => ?_⟩
  obtain ⟨hlo, m, hle, hhp, ho⟩ := hrv
  rw [← hv]
  refine (h.2 ⟨memOf w, w, w.heap.size⟩ w ⟨Lo.self _ _ _ (Nat.le_refl _), memOf w, Mem.le_refl _, bare_ok hhp, hok _ m w hhp ho⟩).mono ?_
  rintro e w' ⟨r, hp', hR, rfl, hlo', m', hle', hhp', hr, _⟩
  have hold : ∀ k, k < w.heap.size → w'.heap[k]? = w.heap[k]? := hlo'.low
  obtain ⟨r2, hp2, m2, h1, h2, h3, h4, h5⟩ := hres F.base m m' w w' r hp' hR hlo.bs hhp (hhp.world hold) hhp' hle' hr hold
  exact ⟨r2, hp2, h1, by rw [h2], hlo.grow hlo'.os hlo'.tape hlo'.output hlo'.size (fun k hk => hold k (Nat.lt_of_lt_of_le hk hlo.bs)), m2, Mem.le_trans hle h3, h4, h5, trivial⟩
end
end Go.AL
/- A call that is lent all memory and returns a list of its own: the row is tracked afterwards. -/
set_option linter.unusedVariables false
set_option linter.unusedSimpArgs false
namespace Go.AL
section
variable {P : Program}
theorem HpOk.freshB {base : Nat} {hp : Hp} {m : Mem} {w : World} (h : HpOk base hp m w) {b : Nat} (hb : w.heap.size ≤ b) : Fresh hp b ∧ ∀ o, m b o = none := by
  refine ⟨⟨?_, ?_, ?_⟩, ?_⟩
  · cases hx : hp.blk b with
    | none => rfl
    | some x => have := heap_lt (h.blk b x.1 x.2 (by rw [hx])).2.1; omega
  · cases hx : hp.mp b with
    | none => rfl
    | some es =>
      have := (h.mp b es hx).2.1.lt; omega
  · rintro ⟨e, sz, hd⟩ hi hbo
    rcases (h.sp e sz hd hi).1 with h1 | ⟨b', n, cap, cur, e1, e2, e3, r⟩
    · subst h1; cases hbo
    · subst e1
      simp only [blockOf, Option.some.injEq] at hbo
      have := heap_lt e3; omega
  · intro o
    cases hx : m b o with
    | none => rfl
    | some x => have := h.memLt hx; omega
theorem HpOk.setFresh {base : Nat} {hp : Hp} {m : Mem} {w w' : World} (h : HpOk base hp m w) (h' : HpOk base hp m w') {b : Nat} {e : TypeId} {cs : List AV} (hb : w.heap.size ≤ b) (hbb : base ≤ b) (hw : w'.heap[b]? = some (.cells (AV.vals cs).toArray e (0, 0))) (hok : AV.oks m cs) : HpOk base (hp.setBlk b e cs) m w' := by
  obtain ⟨hf, hm⟩ := h.freshB hb
  refine ⟨h'.mem, fun b' T' cs' hx => ?_, h'.mp, fun e' sz hd hi => ⟨(h'.sp e' sz hd hi).1, fun b' hb' => ?_⟩, h'.spd, h'.gl⟩
  · rw [Hp.setBlk_blk] at hx
    split at hx
    · rename_i e; subst e
      simp only [Option.some.injEq, Prod.mk.injEq] at hx
      obtain ⟨rfl, rfl⟩ := hx
      exact ⟨hbb, hw, hok, hm⟩
    · exact h'.blk b' T' cs' hx
  · rw [Hp.setBlk_blk]
    split
    · rename_i e; subst e; exact absurd hb' (hf.2.2 _ hi)
    · exact (h'.sp e' sz hd hi).2 b' hb'
/-- An own row that is read as a list: its cells. -/
theorem own_cells {base : Nat} {hp : Hp} {m : Mem} {w : World} (h : HpOk base hp m w) {e : TypeId} {sz : Nat} {hd : Value} {xs : List AV} (hi : (e, sz, hd) ∈ hp.sp) (hl : (AV.lst sz hd xs).ok m) :
    (hd = .slice none 0 0 ∧ xs = []) ∨ ∃ (b cap : Nat) (rest : List AV), hd = .slice (some ⟨b, 0, none⟩) xs.length cap ∧ base ≤ b ∧ xs.length ≤ cap ∧ cap ≤ maxLen ∧ w.heap[b]? = some (.cells (AV.vals (xs.flatMap AV.cells ++ rest)).toArray e (0, 0)) ∧ ∀ m', AV.oks m' rest := by
  obtain ⟨⟨a, cap', e1, e2, e3, e4, e5⟩, hxs⟩ := hl
  rcases (h.sp e sz hd hi).1 with h1 | ⟨b, n, cap, cur, f1, f2, f3, f4, f5, f6, f7⟩
  · rw [h1] at e1
    injection e1 with q1 q2 q3
    exact .inl ⟨h1, by rw [AV.vals_length] at q2; exact List.eq_nil_of_length_eq_zero q2.symm⟩
  · rw [f1] at e1
    injection e1 with q1 q2 q3
    rw [AV.vals_length] at q2
    subst q2
    refine .inr ⟨b, cap, (cur.toList.drop (xs.length * sz)).map AV.v, f1, f2, f5, f6, ?_, fun m' => map_v_oks m' _⟩
    rw [f3]
    have hcs : ∀ v ∈ AV.vals xs, v.cells.size = sz := e4
    have hfl := flat_vals xs hxs
    have hlen : (AV.vals (xs.flatMap AV.cells)).length = xs.length * sz := by rw [hfl, flat_length _ hcs, AV.vals_length]
    have htake : cur.toList.take (xs.length * sz) = AV.vals (xs.flatMap AV.cells) := by
      apply List.ext_getElem?
      intro j
      rcases Nat.lt_or_ge j (xs.length * sz) with hj | hj
      · rw [List.getElem?_take, if_pos hj]
        have hx0 : xs ≠ [] := by rintro rfl; simp at hj
        obtain ⟨b', off, g1, g2⟩ := e5 (by intro h0; apply hx0; have := congrArg List.length h0; rw [AV.vals_length] at this; exact List.eq_nil_of_length_eq_zero this)
        rw [← q1] at g1
        simp only [Option.some.injEq, Addr.mk.injEq] at g1
        obtain ⟨rfl, rfl, -⟩ := g1
        obtain ⟨u, hu⟩ : ∃ u, (AV.vals (xs.flatMap AV.cells))[j]? = some u := ⟨_, List.getElem?_eq_getElem (by rw [hlen]; exact hj)⟩
        rw [hu]
        rw [hfl] at hu
        obtain ⟨i, v, k, hv, hk, rfl⟩ := getflat _ hcs j u hu
        have hm := g2 i v hv k u hk
        rw [Nat.zero_add] at hm
        have hc := h.mem _ _ _ hm
        simp only [World.cell?, f3] at hc
        simpa using hc
      · rw [List.getElem?_eq_none (by rw [List.length_take]; omega), List.getElem?_eq_none (by rw [hlen]; exact hj)]
    congr 2
    rw [AV.vals_append, ← htake, map_v_vals, List.take_append_drop]
end
end Go.AL

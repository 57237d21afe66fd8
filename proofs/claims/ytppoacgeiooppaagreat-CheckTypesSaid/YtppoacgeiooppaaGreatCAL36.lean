/- A call that is lent all memory: what was there stays as it was. -/
import Derived.Test.YtppoacgeiooppaaGreatCAL34
import Derived.Test.YtppoacgeiooppaaGreatCAL22
import Derived.Test.YtppoacgeiooppaaGreatCAL25
import Derived.Test.YtppoacgeiooppaaGreatCAL28
set_option linter.unusedVariables false
set_option linter.unusedSimpArgs false
namespace Go.AL
section
variable {P : Program}
/-- Nothing tracked but what is known of the globals. -/
def bareHp (hp : Hp) : Hp := ⟨fun _ => none, fun _ => none, [], hp.gl⟩
theorem le_memOf {base : Nat} {hp : Hp} {m : Mem} {w : World} (h : HpOk base hp m w) : m.le (memOf w) := fun b o x hx => h.mem b o x hx
theorem bare_ok {base : Nat} {hp : Hp} {m : Mem} {w : World} (h : HpOk base hp m w) : HpOk w.heap.size (bareHp hp) (memOf w) w :=
  ⟨fun b o x hx => hx, fun b T cs hb => by simp [bareHp] at hb, fun b es hb => by simp [bareHp] at hb, fun e sz hd hi => by simp [bareHp] at hi, by simp [bareHp],
    fun g cs hg => ⟨(h.gl g cs hg).1.mono (le_memOf h), AV.oks_mono (le_memOf h) _ (h.gl g cs hg).2⟩⟩
theorem acalls_frame {f : FuncId} {args args' : List AV} {hp : Hp} {R0 R : AV → Hp → Prop} (hv : AV.vals args' = AV.vals args)
    (hok : ∀ base m w, HpOk base hp m w → AV.oks m args → AV.oks (memOf w) args') (h : ACalls P f args' (bareHp hp) R0)
    (hres : ∀ base m m' w w' r hp', R0 r hp' → base ≤ w.heap.size → HpOk base hp m w → HpOk base hp m w' → HpOk w.heap.size hp' m' w' → (memOf w).le m' → r.ok m' → (∀ k, k < w.heap.size → w'.heap[k]? = w.heap[k]?) → ∃ r2 hp2 m2, R r2 hp2 ∧ r2.val = r.val ∧ m.le m2 ∧ HpOk base hp2 m2 w' ∧ r2.ok m2) :
    ACalls P f args hp R := by
  refine ⟨h.1, fun F w hrv => ?_⟩
  obtain ⟨hlo, m, hle, hhp, ho⟩ := hrv
  rw [← hv]
  refine (h.2 ⟨memOf w, w, w.heap.size⟩ w ⟨Lo.self _ _ _ (Nat.le_refl _), memOf w, Mem.le_refl _, bare_ok hhp, hok _ m w hhp ho⟩).mono ?_
  rintro e w' ⟨r, hp', hR, rfl, hlo', m', hle', hhp', hr, _⟩
  have hold : ∀ k, k < w.heap.size → w'.heap[k]? = w.heap[k]? := hlo'.low
  obtain ⟨r2, hp2, m2, h1, h2, h3, h4, h5⟩ := hres F.base m m' w w' r hp' hR hlo.bs hhp (hhp.world hold) hhp' hle' hr hold
  exact ⟨r2, hp2, h1, by rw [h2], hlo.grow hlo'.os hlo'.tape hlo'.output hlo'.size (fun k hk => hold k (Nat.lt_of_lt_of_le hk hlo.bs)), m2, Mem.le_trans hle h3, h4, h5, trivial⟩
/-- A result without memory. -/
theorem acalls_lend {f : FuncId} {args args' : List AV} {hp : Hp} {R : AV → Prop} (hv : AV.vals args' = AV.vals args)
    (hok : ∀ base m w, HpOk base hp m w → AV.oks m args → AV.oks (memOf w) args') (hr : ∀ r, R r → ∀ m, r.ok m)
    (h : ACalls P f args' (bareHp hp) (fun r _ => R r)) : ACalls P f args hp (fun r hp' => R r ∧ hp' = hp) :=
  acalls_frame hv hok h fun base m m' w w' r hp' hR hb h1 h2 h3 h4 h5 h6 => ⟨r, hp, m, ⟨hR, rfl⟩, rfl, Mem.le_refl _, h2, hr r hR m⟩
/-- A tracked row, read as a list. -/
theorem lend_row {base : Nat} {hp : Hp} {m : Mem} {w : World} (h : HpOk base hp m w) {b n cap sz : Nat} {T : TypeId} {cs xs rest : List AV} (hb : hp.blk b = some (T, cs)) (hcs : AV.vals cs = AV.vals (xs.flatMap AV.cells ++ rest)) (hone : ∀ x ∈ xs, x.cells.length = sz) (hn : xs.length = n) (hcap : n ≤ cap) (hmax : cap ≤ maxLen)
    (hx : AV.oks (memOf w) xs) : (AV.lst sz (.slice (some ⟨b, 0, none⟩) n cap) xs).ok (memOf w) := by
  obtain ⟨hbase, hheap, hoks, hmn⟩ := h.blk b T cs hb
  have hfl : AV.vals cs = ((AV.vals xs).flatMap fun v => v.cells.toList) ++ AV.vals rest := by rw [hcs, AV.vals_append, flat_vals xs hx]
  refine hdr_blkT hx hone hn hcap hmax (fun k x hk => ?_)
  have h1 : (AV.vals cs)[k]? = some x := by rw [hfl, List.getElem?_append_left (List.getElem?_eq_some_iff.1 hk).1]; exact hk
  have hk2 : k < (AV.vals cs).length := (List.getElem?_eq_some_iff.1 h1).1
  show w.cell? ⟨b, k, none⟩ = some x
  simp [World.cell?, hheap, h1]
end
end Go.AL
/- A call that is lent all memory and returns a list of its own: the row is tracked afterwards. -/
set_option linter.unusedVariables false
set_option linter.unusedSimpArgs false
namespace Go.AL
section
variable {P : Program}
theorem HpOk.freshB {base : Nat} {hp : Hp} {m : Mem} {w : World} (h : HpOk base hp m w) {b : Nat} (hb : w.heap.size ≤ b) : Fresh hp b ∧ ∀ o, m b o = none := by
  refine ⟨⟨?_, ?_, ?_⟩, ?_⟩
  · cases hx : hp.blk b with
    | none => rfl
    | some x => have := heap_lt (h.blk b x.1 x.2 (by rw [hx])).2.1; omega
  · cases hx : hp.mp b with
    | none => rfl
    | some es =>
      obtain ⟨_, ⟨en, cl, h1, _⟩, _⟩ := h.mp b es hx
      have := heap_lt h1; omega
  · rintro ⟨e, sz, hd⟩ hi hbo
    rcases (h.sp e sz hd hi).1 with h1 | ⟨b', n, cap, cur, e1, e2, e3, r⟩
    · subst h1; cases hbo
    · subst e1
      simp only [blockOf, Option.some.injEq] at hbo
      have := heap_lt e3; omega
  · intro o
    cases hx : m b o with
    | none => rfl
    | some x => have := h.memLt hx; omega
theorem HpOk.setFresh {base : Nat} {hp : Hp} {m : Mem} {w w' : World} (h : HpOk base hp m w) (h' : HpOk base hp m w') {b : Nat} {e : TypeId} {cs : List AV} (hb : w.heap.size ≤ b) (hbb : base ≤ b) (hw : w'.heap[b]? = some (.cells (AV.vals cs).toArray e (0, 0))) (hok : AV.oks m cs) : HpOk base (hp.setBlk b e cs) m w' := by
  obtain ⟨hf, hm⟩ := h.freshB hb
  refine ⟨h'.mem, fun b' T' cs' hx => ?_, h'.mp, fun e' sz hd hi => ⟨(h'.sp e' sz hd hi).1, fun b' hb' => ?_⟩, h'.spd, h'.gl⟩
  · rw [Hp.setBlk_blk] at hx
    split at hx
    · rename_i e; subst e
      simp only [Option.some.injEq, Prod.mk.injEq] at hx
      obtain ⟨rfl, rfl⟩ := hx
      exact ⟨hbb, hw, hok, hm⟩
    · exact h'.blk b' T' cs' hx
  · rw [Hp.setBlk_blk]
    split
    · rename_i e; subst e; exact absurd hb' (hf.2.2 _ hi)
    · exact (h'.sp e' sz hd hi).2 b' hb'
/-- An own row that is read as a list: its cells. -/
theorem own_cells {base : Nat} {hp : Hp} {m : Mem} {w : World} (h : HpOk base hp m w) {e : TypeId} {sz : Nat} {hd : Value} {xs : List AV} (hi : (e, sz, hd) ∈ hp.sp) (hl : (AV.lst sz hd xs).ok m) :
    (hd = .slice none 0 0 ∧ xs = []) ∨ ∃ (b cap : Nat) (rest : List AV), hd = .slice (some ⟨b, 0, none⟩) xs.length cap ∧ base ≤ b ∧ xs.length ≤ cap ∧ cap ≤ maxLen ∧ w.heap[b]? = some (.cells (AV.vals (xs.flatMap AV.cells ++ rest)).toArray e (0, 0)) ∧ ∀ m', AV.oks m' rest := by
  obtain ⟨⟨a, cap', e1, e2, e3, e4, e5⟩, hxs⟩ := hl
  rcases (h.sp e sz hd hi).1 with h1 | ⟨b, n, cap, cur, f1, f2, f3, f4, f5, f6, f7⟩
  · rw [h1] at e1
    injection e1 with q1 q2 q3
    exact .inl ⟨h1, by rw [AV.vals_length] at q2; exact List.eq_nil_of_length_eq_zero q2.symm⟩
  · rw [f1] at e1
    injection e1 with q1 q2 q3
    rw [AV.vals_length] at q2
    subst q2
    refine .inr ⟨b, cap, (cur.toList.drop (xs.length * sz)).map AV.v, f1, f2, f5, f6, ?_, fun m' => map_v_oks m' _⟩
    rw [f3]
    have hcs : ∀ v ∈ AV.vals xs, v.cells.size = sz := e4
    have hfl := flat_vals xs hxs
    have hlen : (AV.vals (xs.flatMap AV.cells)).length = xs.length * sz := by rw [hfl, flat_length _ hcs, AV.vals_length]
    have htake : cur.toList.take (xs.length * sz) = AV.vals (xs.flatMap AV.cells) := by
      apply List.ext_getElem?
      intro j
      rcases Nat.lt_or_ge j (xs.length * sz) with hj | hj
      · rw [List.getElem?_take, if_pos hj]
        have hx0 : xs ≠ [] := by rintro rfl; simp at hj
        obtain ⟨b', off, g1, g2⟩ := e5 (by intro h0; apply hx0; have := congrArg List.length h0; rw [AV.vals_length] at this; exact List.eq_nil_of_length_eq_zero this)
        rw [← q1] at g1
        simp only [Option.some.injEq, Addr.mk.injEq] at g1
        obtain ⟨rfl, rfl, -⟩ := g1
        obtain ⟨u, hu⟩ : ∃ u, (AV.vals (xs.flatMap AV.cells))[j]? = some u := ⟨_, List.getElem?_eq_getElem (by rw [hlen]; exact hj)⟩
        rw [hu]
        rw [hfl] at hu
        obtain ⟨i, v, k, hv, hk, rfl⟩ := getflat _ hcs j u hu
        have hm := g2 i v hv k u hk
        rw [Nat.zero_add] at hm
        have hc := h.mem _ _ _ hm
        simp only [World.cell?, f3] at hc
        simpa using hc
      · rw [List.getElem?_eq_none (by rw [List.length_take]; omega), List.getElem?_eq_none (by rw [hlen]; exact hj)]
    congr 2
    rw [AV.vals_append, ← htake, map_v_vals, List.take_append_drop]
/-- The results of a call that is lent all memory, one of them a list of its own. -/
theorem acalls_own {f : FuncId} {args args' : List AV} {hp : Hp} {e : TypeId} {sz : Nat} {C : List AV → List AV → List AV → Prop} (hv : AV.vals args' = AV.vals args)
    (hok : ∀ base m w, HpOk base hp m w → AV.oks m args → AV.oks (memOf w) args') (hC : ∀ pre xs post, C pre xs post → ∀ m, AV.oks m pre ∧ AV.oks m (xs.flatMap AV.cells) ∧ AV.oks m post)
    (h : ACalls P f args' (bareHp hp) (fun r hp' => ∃ pre hd xs post, C pre xs post ∧ r = .tup (pre ++ .lst sz hd xs :: post) ∧ (e, sz, hd) ∈ hp'.sp)) :
    ACalls P f args hp (fun r hp2 => ∃ pre hd xs post, C pre xs post ∧ r = .tup (pre ++ .v hd :: post) ∧ ((hd = .slice none 0 0 ∧ xs = [] ∧ hp2 = hp) ∨
      ∃ (b cap : Nat) (rest : List AV), hd = .slice (some ⟨b, 0, none⟩) xs.length cap ∧ xs.length ≤ cap ∧ cap ≤ maxLen ∧ Fresh hp b ∧ hp2 = hp.setBlk b e (xs.flatMap AV.cells ++ rest))) := by
  refine acalls_frame hv hok h fun base m m' w w' r hp' hR hb h1 h2 h3 h4 h5 h6 => ?_
  obtain ⟨pre, hd, xs, post, hc, rfl, hi⟩ := hR
  have hpl := hC _ _ _ hc m
  have hlst : (AV.lst sz hd xs).ok m' := by
    have := h5
    simp only [AV.ok, AV.oks_iff] at this
    exact this _ (List.mem_append_right _ List.mem_cons_self)
  have hres : (AV.tup (pre ++ .v hd :: post)).ok m := by
    show AV.oks m _
    rw [AV.oks_iff]
    intro a ha
    rcases List.mem_append.1 ha with ha | ha
    · exact (AV.oks_iff m pre).1 hpl.1 a ha
    · rcases List.mem_cons.1 ha with rfl | ha
      · trivial
      · exact (AV.oks_iff m post).1 hpl.2.2 a ha
  have hval : (AV.tup (pre ++ .v hd :: post)).val = (AV.tup (pre ++ .lst sz hd xs :: post)).val := by
    simp only [AV.val, AV.vals_append]; rfl
  rcases own_cells h3 hi hlst with ⟨rfl, rfl⟩ | ⟨b, cap, rest, g1, g2, g3, g4, g5, g6⟩
  · exact ⟨_, hp, m, ⟨pre, _, [], post, hc, rfl, .inl ⟨rfl, rfl, rfl⟩⟩, hval, Mem.le_refl _, h2, hres⟩
  · refine ⟨_, hp.setBlk b e (xs.flatMap AV.cells ++ rest), m, ⟨pre, _, xs, post, hc, rfl, .inr ⟨b, cap, rest, g1, g3, g4, (h1.freshB g2).1, rfl⟩⟩, hval, Mem.le_refl _, ?_, hres⟩
    exact h1.setFresh h2 g2 (Nat.le_trans hb g2) g5 (AV.oks_append hpl.2.1 (g6 m))
end
end Go.AL

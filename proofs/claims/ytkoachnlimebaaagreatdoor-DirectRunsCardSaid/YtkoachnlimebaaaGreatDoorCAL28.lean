/- Rows that are tracked as a whole: the rules. -/
import Derived.Test.YtkoachnlimebaaaGreatDoorCAL25
import Derived.Test.YtkoachnlimebaaaGreatDoorCAL25
import Derived.Laws.CopyRow
set_option linter.unusedVariables false
set_option linter.unusedSimpArgs false
namespace Go.AL
section
variable {P : Program}

/-- A raw slice that is nil, or begins a tracked row; its first n items' cells. -/
def RowB (hp : Hp) (e : TypeId) (sz : Nat) (h : Value) (n : Nat) (xs : List AV) : Prop :=
  (h = .slice none 0 0 ∧ n = 0 ∧ xs = []) ∨
  ∃ b cap rest, h = .slice (some ⟨b, 0, none⟩) n cap ∧ n ≤ cap ∧ cap ≤ maxLen ∧ xs.length = n * sz ∧ (xs ++ rest).length = cap * sz ∧ hp.blk b = some (e, xs ++ rest)

/-- A row has been turned, or another has taken its place; nothing else. -/
structure RowTo (hp : Hp) (h : Value) (hp' : Hp) (h' : Value) : Prop where
  mp : hp'.mp = hp.mp
  sp : hp'.sp = hp.sp
  gl : hp'.gl = hp.gl
  own : ∀ b, blockOf h' = some b → blockOf h = some b ∨ Fresh hp b
  blk : ∀ j, blockOf h' ≠ some j → hp'.blk j = hp.blk j
theorem RowTo.refl (hp : Hp) (h : Value) : RowTo hp h hp h := ⟨rfl, rfl, rfl, fun _ hb => .inl hb, fun _ _ => rfl⟩
end
end Go.AL
/- Rows that are tracked as a whole: copying, cloning, handing out; the order in which spares are told. -/
set_option linter.unusedVariables false
set_option linter.unusedSimpArgs false
namespace Go.AL
section
variable {P : Program}

/-! ### The order of the spares -/
/-! ### Copying into a tracked row -/
theorem getflat {sz : Nat} : ∀ (vs : List Value), (∀ v ∈ vs, v.cells.size = sz) → ∀ (j : Nat) (u : Value), (vs.flatMap fun v => v.cells.toList)[j]? = some u → ∃ i v k, vs[i]? = some v ∧ v.cells[k]? = some u ∧ j = i * sz + k := by
  intro vs
  induction vs with
  | nil => intro _ j u h; cases h
  | cons v vs ih =>
    intro hs j u hj
    rw [List.flatMap_cons] at hj
    by_cases hlt : j < v.cells.toList.length
    · rw [List.getElem?_append_left hlt] at hj
      exact ⟨0, v, j, rfl, by simpa using hj, by omega⟩
    · rw [List.getElem?_append_right (by omega)] at hj
      obtain ⟨i, v', k, h1, h2, h3⟩ := ih (fun x hx => hs x (by simp [hx])) _ u hj
      have hv := hs v (by simp)
      refine ⟨i + 1, v', k, by simpa using h1, h2, ?_⟩
      simp [hv] at hlt h3
      rw [Nat.add_mul]; omega

end
end Go.AL
/- Nil spares, and variables told otherwise, at calls and returns. -/
set_option linter.unusedVariables false
namespace Go.AL
section
variable {P : Program}
theorem acalls_addNil {f : FuncId} {args : List AV} {hp : Hp} {R : AV → Hp → Prop} (e : TypeId) (sz : Nat) (h : ACalls P f args (hp.setSp ((e, sz, .slice none 0 0) :: hp.sp)) R) : ACalls P f args hp R :=
  ⟨h.1, fun F w ⟨hlo, m, hle, hhp, ho⟩ => h.2 F w ⟨hlo, m, hle, hhp.addSp (.inl rfl) (fun b hb => by cases hb), ho⟩⟩
theorem Gives.addNil (hp : Hp) (a : AV) (e : TypeId) (sz : Nat) : Gives hp a (hp.setSp ((e, sz, .slice none 0 0) :: hp.sp)) a :=
  ⟨rfl, fun base m w h ha => ⟨m, Mem.le_refl m, h.addSp (.inl rfl) (fun b hb => by cases hb), ha⟩⟩
theorem HpOk.castBlk {base : Nat} {hp : Hp} {m : Mem} {w : World} (h : HpOk base hp m w) {b : Nat} {T : TypeId} {cs cs' : List AV} (hb : hp.blk b = some (T, cs)) (hv : AV.vals cs' = AV.vals cs) (hok : AV.oks m cs → AV.oks m cs') :
    HpOk base (hp.setBlk b T cs') m w := by
  obtain ⟨h1, h2, h3, h4⟩ := h.blk b T cs hb
  refine ⟨h.mem, fun b' T' cs'' hx => ?_, h.mp, fun e sz hd hi => ⟨(h.sp e sz hd hi).1, fun b' hb' => ?_⟩, h.spd, h.gl⟩
  · rw [Hp.setBlk_blk] at hx
    split at hx
    · rename_i e; subst e
      simp only [Option.some.injEq, Prod.mk.injEq] at hx
      obtain ⟨rfl, rfl⟩ := hx
      exact ⟨h1, by rw [hv]; exact h2, hok h3, h4⟩
    · exact h.blk b' T' cs'' hx
  · rw [Hp.setBlk_blk]
    split
    · rename_i e; subst e
      have := (h.sp e sz hd hi).2 b' hb'
      rw [hb] at this; cases this
    · exact (h.sp e sz hd hi).2 b' hb'
theorem Gives.castBlk {hp : Hp} {a : AV} {b : Nat} {T : TypeId} {cs cs' : List AV} (hb : hp.blk b = some (T, cs)) (hv : AV.vals cs' = AV.vals cs) (hok : ∀ m, AV.oks m cs → AV.oks m cs') : Gives hp a (hp.setBlk b T cs') a :=
  ⟨rfl, fun base m w h ha => ⟨m, Mem.le_refl m, h.castBlk hb hv (hok m), ha⟩⟩
end
end Go.AL

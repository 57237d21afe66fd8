/- Plain laws for DeclMore and DeclOwn. -/
import Derived.Test.YtfdlfcafcjhpmaaCD18
set_option linter.unusedSimpArgs false
set_option linter.unusedVariables false
set_option maxRecDepth 20000
namespace Go.Proofs.Ytfdlfcafcjhpmaa
open Go.AL

/-! ### Xtors are found -/
theorem hasB_false {l : List (List UInt8)} {s : List UInt8} (h : hasB l s = false) : s ∉ l := by
  intro hm
  have : hasB l s = true := by simp only [hasB, List.any_eq_true]; exact ⟨s, hm, by simp⟩
  rw [this] at h; cases h
theorem findX_none {name : List UInt8} : ∀ {xs : List XtorG} {j : Nat}, name ∉ xs.map XtorG.name → findX name xs j = none
  | [], _, _ => rfl
  | x :: r, j, h => by
    simp only [List.map_cons, List.mem_cons, not_or] at h
    have : ¬ (x.name = name) := fun e => h.1 e.symm
    simp only [findX, this, decide_false, Bool.false_eq_true, if_false]
    exact findX_none h.2
theorem fitsAll_find (n : Nat) : ∀ (xs : List XtorG) (seen seen' : List (List UInt8)) (j : Nat), fitsAll n seen xs = some seen' →
    seen' = seen ++ xs.map XtorG.name ∧ ∀ (k : Nat) (x : XtorG), xs[k]? = some x → x.name ∉ seen ∧ findX x.name xs j = some (j + k)
  | [], seen, seen', j, h => by
    simp only [fitsAll, Option.some.injEq] at h
    subst h
    exact ⟨by simp, fun k x hx => by simp at hx⟩
  | y :: r, seen, seen', j, h => by
    simp only [fitsAll] at h
    split at h
    · rename_i hy
      obtain ⟨h1, h2⟩ := fitsAll_find n r _ _ (j + 1) h
      refine ⟨by rw [h1]; simp, fun k x hx => ?_⟩
      have hn : y.name ∉ seen := hasB_false (by simp only [xtorB, Bool.and_eq_true, Bool.not_eq_true'] at hy; exact hy.1.1.2)
      cases k with
      | zero =>
        simp only [List.getElem?_cons_zero, Option.some.injEq] at hx
        subst hx
        exact ⟨hn, by simp [findX]⟩
      | succ k =>
        simp only [List.getElem?_cons_succ] at hx
        obtain ⟨h3, h4⟩ := h2 k x hx
        simp only [List.mem_append, List.mem_singleton, not_or] at h3
        have : ¬ (y.name = x.name) := fun e => h3.2 e.symm
        refine ⟨h3.1, ?_⟩
        simp only [findX, this, decide_false, Bool.false_eq_true, if_false, h4]
        congr 1; omega
    · cases h
theorem valid_find (n : Nat) : ∀ (l : List DeclG) (names seen : List (List UInt8)) (j : Nat), validFrom n names seen l = true →
    ∀ (i : Nat) (d : DeclG) (k : Nat) (x : XtorG), l[i]? = some d → d.xtors[k]? = some x → x.name ∉ seen ∧ findD x.name l j = some (j + i + 1, k)
  | [], _, _, _, _, i, d, k, x, hd, _ => by simp at hd
  | e :: r, names, seen, j, h, i, d, k, x, hd, hx => by
    simp only [validFrom, Bool.and_eq_true] at h
    obtain ⟨_, h⟩ := h
    split at h
    · rename_i seen' hf
      obtain ⟨h1, h2⟩ := fitsAll_find n e.xtors seen seen' 0 hf
      cases i with
      | zero =>
        simp only [List.getElem?_cons_zero, Option.some.injEq] at hd
        subst hd
        obtain ⟨h3, h4⟩ := h2 k x hx
        exact ⟨h3, by simp only [findD, h4]; congr 2; omega⟩
      | succ i =>
        simp only [List.getElem?_cons_succ] at hd
        obtain ⟨h3, h4⟩ := valid_find n r _ seen' (j + 1) h i d k x hd hx
        rw [h1, List.mem_append, not_or] at h3
        refine ⟨h3.1, ?_⟩
        simp only [findD, findX_none h3.2, h4]
        congr 2; omega
    · cases h
theorem find_own {l : List DeclG} (h : validB l = true) {i : Nat} {d : DeclG} {k : Nat} {x : XtorG} (hd : l[i]? = some d) (hx : d.xtors[k]? = some x) : findD x.name l 0 = some (i + 1, k) := by
  simp only [validB, Bool.and_eq_true] at h
  have := (valid_find l.length l [] [] 0 h.2 i d k x hd hx).2
  rw [this]; congr 2; omega

/-! ### What declarations are without their places -/
def XtorG.bare (x : XtorG) : List UInt8 × List ArgG := (x.name, x.args)
def DeclG.bare (d : DeclG) : List UInt8 × Bool × List (List UInt8 × List ArgG) := (d.name, d.codata, d.xtors.map XtorG.bare)
theorem bare_at {l l' : List DeclG} (h : l.map DeclG.bare = l'.map DeclG.bare) {i : Nat} {d : DeclG} (hd : l[i]? = some d) : ∃ d', l'[i]? = some d' ∧ d.bare = d'.bare := by
  have h1 : (l'.map DeclG.bare)[i]? = some d.bare := by rw [← h, List.getElem?_map, hd]; rfl
  rw [List.getElem?_map] at h1
  cases hl : l'[i]? with
  | none => rw [hl] at h1; cases h1
  | some d' => rw [hl] at h1; exact ⟨d', rfl, (Option.some.inj h1).symm⟩
theorem bare_len {l l' : List DeclG} (h : l.map DeclG.bare = l'.map DeclG.bare) : l.length = l'.length := by
  have := congrArg List.length h; simpa using this
theorem bare_x {d d' : DeclG} (h : d.bare = d'.bare) {x : XtorG} (hx : x ∈ d.xtors) : ∃ x' ∈ d'.xtors, x'.args = x.args := by
  simp only [DeclG.bare, Prod.mk.injEq] at h
  have : x.bare ∈ d'.xtors.map XtorG.bare := by rw [← h.2.2]; exact List.mem_map_of_mem hx
  obtain ⟨x', hx', e⟩ := List.mem_map.1 this
  exact ⟨x', hx', congrArg Prod.snd e⟩
theorem bare_typed {l l' : List DeclG} (h : l.map DeclG.bare = l'.map DeclG.bare) (ht : Typed l) : Typed l' := by
  intro d hd x hx a ha
  obtain ⟨i, hi⟩ := List.getElem?_of_mem hd
  obtain ⟨d', hd', e⟩ := bare_at h.symm hi
  obtain ⟨x', hx', e'⟩ := bare_x e hx
  have := ht d' (List.mem_of_getElem? hd') x' hx' a (by rw [e']; exact ha)
  rw [bare_len h] at this; exact this
theorem bare_sm {l l' : List DeclG} (h : l.map DeclG.bare = l'.map DeclG.bare) {i : Nat} (hs : Sm l i) : Sm l' i := by
  induction hs with
  | mk i d x h1 h2 h3 h4 h5 ih =>
    obtain ⟨d', hd', e⟩ := bare_at h h1
    obtain ⟨x', hx', e'⟩ := bare_x e h3
    simp only [DeclG.bare, Prod.mk.injEq] at e
    exact .mk i d' x' hd' (by rw [← e.2.1]; exact h2) hx' (by rw [e']; exact h4) (by rw [e']; exact ih)
theorem bare_isSmall {l l' : List DeclG} (h : l.map DeclG.bare = l'.map DeclG.bare) {s : List Bool} (hs : IsSmall l s) : IsSmall l' s :=
  ⟨by rw [hs.1, bare_len h], fun i => (hs.2 i).trans ⟨bare_sm h, bare_sm h.symm⟩⟩

/-! ### More declarations -/
theorem sm_more {l m : List DeclG} {i : Nat} (h : Sm l i) : Sm (l ++ m) i := by
  induction h with
  | mk i d x h1 h2 h3 h4 h5 ih =>
    have hi : i < l.length := by
      rcases Nat.lt_or_ge i l.length with h | h
      · exact h
      · rw [List.getElem?_eq_none h] at h1; cases h1
    exact .mk i d x (by rw [List.getElem?_append_left hi]; exact h1) h2 h3 h4 ih
theorem sm_less {l m : List DeclG} (ht : Typed l) {i : Nat} (h : Sm (l ++ m) i) : i < l.length → Sm l i := by
  induction h with
  | mk i d x h1 h2 h3 h4 h5 ih =>
    intro hi
    rw [List.getElem?_append_left hi] at h1
    refine .mk i d x h1 h2 h3 h4 fun a ha h0 => ih a ha h0 ?_
    have := ht d (List.mem_of_getElem? h1) x h3 a ha
    omega
theorem isSmall_more {l m : List DeclG} (ht : Typed l) {s : List Bool} (h : IsSmall (l ++ m) s) : IsSmall l (s.take l.length) := by
  refine ⟨by simp [h.1], fun i => ?_⟩
  by_cases hi : i < l.length
  · rw [List.getElem?_take_of_lt hi, h.2 i]
    exact ⟨fun h => sm_less ht h hi, sm_more⟩
  · rw [List.getElem?_eq_none (by simp [h.1]; omega)]
    refine ⟨fun h => (by cases h), fun hs => ?_⟩
    cases hs with
    | mk _ d x h1 => rw [List.getElem?_eq_none (by omega)] at h1; cases h1
end Go.Proofs.Ytfdlfcafcjhpmaa

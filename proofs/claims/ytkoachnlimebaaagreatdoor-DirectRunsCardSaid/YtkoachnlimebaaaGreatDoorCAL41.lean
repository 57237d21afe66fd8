/- Readings at a given depth, with bounds on what is read. -/
import Derived.Test.YtkoachnlimebaaaGreatDoorCAL22
import Derived.Test.YtkoachnlimebaaaGreatDoorCAL17
import Derived.Test.YtkoachnlimebaaaGreatDoorCAL36
import Derived.Test.YtkoachnlimebaaaGreatDoorCAL34
import Derived.Sort.KeysCollected
import Derived.Lib.SlKeysI
set_option linter.unusedVariables false
set_option linter.unusedSimpArgs false
namespace Go.AL
section
variable {P : Program} {H : Type} {enc : TypeId × Value → H} {w : World} {base : Nat} {sp : Nat → Bool} {held : Bool}
def ReadsAt (P : Program) (enc : TypeId × Value → H) (w : World) (base : Nat) (sp : Nat → Bool) (held : Bool) (B : DataW H → Nat) (fuel : Nat) (t : TypeId) {α : Type} (el : α → List AV) (Wt : α → Prop) (μ : α → Nat) : Prop :=
  ∀ cs x, DataW.trod enc P w base sp held fuel t cs = some x → ∃ g : α, AV.vals (el g) = cs ∧ AV.oks (memOf w) (el g) ∧ (Light P t x.1 → Wt g) ∧ μ g ≤ B x.1
theorem mapM_len {α β : Type} {f : α → Option β} : ∀ {l : List α} {r : List β}, l.mapM f = some r → l.length = r.length
  | [], r, h => by simp at h; subst h; rfl
  | a :: l, r, h => by
    rw [List.mapM_cons] at h
    cases h0 : f a with
    | none => rw [h0] at h; cases h
    | some b0 =>
      cases h1 : l.mapM f with
      | none => rw [h0, h1] at h; cases h
      | some r0 =>
        rw [h0, h1] at h
        obtain rfl : b0 :: r0 = r := by simpa using h
        rw [List.length_cons, List.length_cons, mapM_len h1]
theorem sum_le : ∀ {l r : List Nat}, l.length = r.length → (∀ (i a b : Nat), l[i]? = some a → r[i]? = some b → a ≤ b) → l.sum ≤ r.sum
  | [], [], _, _ => Nat.le_refl _
  | [], _ :: _, h, _ => by cases h
  | _ :: _, [], h, _ => by cases h
  | a :: l, b :: r, h, hh => by
    rw [List.sum_cons, List.sum_cons]
    have h1 := hh 0 a b rfl rfl
    have h2 := sum_le (l := l) (r := r) (by simpa using h) fun i x y hx hy => hh (i + 1) x y (by simpa using hx) (by simpa using hy)
    omega
theorem reads_slice_at {fuel t e : Nat} {sz : Nat} {α : Type} {el : α → AV} {B : DataW H → Nat} {μ : α → Nat} (hB : ∀ es sp, (es.map B).sum ≤ B (.slice es sp)) (ht : P.underlying t = some (.slice e)) (hsz : P.cellsOf e = sz) (hp0 : 0 < sz)
    {Wt : α → Prop} (he : ReadsAt P enc w base sp held B fuel e (fun g => (el g).cells) Wt μ) (hval : ∀ g, (el g).ok (memOf w) → (el g).cells.length = sz)
    (hcell : ∀ g, AV.oks (memOf w) (el g).cells → (el g).ok (memOf w)) :
    ∀ cs x, DataW.trod enc P w base sp held (fuel + 1) t cs = some x → ∃ (h : Value) (gs : List α), cs = [h] ∧ (AV.lst sz h (gs.map el)).ok (memOf w) ∧ (Light P t x.1 → gs.length * P.bytesOf e ≤ reachBytes ∧ ∀ g ∈ gs, Wt g) ∧ (gs.map μ).sum ≤ B x.1 := by
    intro cs x h
    unfold DataW.trod at h
    rw [ht] at h
    split at h <;> simp only [reduceCtorEq, Option.some.injEq, TypeDesc.slice.injEq] at *
    · refine ⟨_, [], rfl, ⟨⟨none, 0, rfl, Nat.le_refl _, by simp [maxLen], by simp [AV.vals], by simp [AV.vals]⟩, trivial⟩, fun _ => ⟨by simp, fun g hg => by cases hg⟩, by simp⟩
    · rename_i e' a len cap he'
      subst he'
      split at h
      · rename_i hc
        obtain ⟨hb, hlc, hcm⟩ := hc
        cases hm : (List.range len).mapM (fun i => (w.cells? base (a.add (i * P.cellsOf e)) (P.cellsOf e)).bind (DataW.trod enc P w base sp held fuel e)) with
        | none => rw [hm] at h; cases h
        | some elems =>
        have hex : ∀ i : Nat, i < len → ∃ g : α, (el g).ok (memOf w) ∧ (∃ y, elems[i]? = some y ∧ (Light P e y.1 → Wt g) ∧ μ g ≤ B y.1) ∧ ∀ (j : Nat) (v : Value), (AV.vals (el g).cells)[j]? = some v → w.cell? ((a.add (i * sz)).add j) = some v := by
          intro i hi
          obtain ⟨y, hy, hy2⟩ := mapM_get hm i i (by simp [hi])
          rw [hsz] at hy
          cases hcs : w.cells? base (a.add (i * sz)) sz with
          | none => rw [hcs] at hy; cases hy
          | some cs =>
            rw [hcs] at hy
            obtain ⟨g, hg1, hg2, hg3, hg4⟩ := he cs y hy
            obtain ⟨_, hl, hcell'⟩ := World.cells?_some hcs
            refine ⟨g, hcell g hg2, ⟨y, hy2, hg3, hg4⟩, fun j v hv => ?_⟩
            rw [hg1] at hv
            have hj : j < sz := by have := (List.getElem?_eq_some_iff.1 hv).1; omega
            rw [hcell' j hj]; exact hv
        let gs : List α := List.ofFn fun i : Fin len => Classical.choose (hex i.1 i.2)
        have hgs : ∀ (i : Nat) (hi : i < len), gs[i]? = some (Classical.choose (hex i hi)) := by
          intro i hi
          simp [gs, List.getElem?_ofFn, hi]
        have hgl : gs.length = len := by simp [gs]
        have hmem : ∀ g ∈ gs, (el g).ok (memOf w) := by
          intro g hg
          obtain ⟨i, hi⟩ := List.getElem?_of_mem hg
          have hlt : i < len := by have := (List.getElem?_eq_some_iff.1 hi).1; omega
          rw [hgs i hlt] at hi
          obtain rfl := Option.some.inj hi
          exact (Classical.choose_spec (hex i hlt)).1
        have hoks : AV.oks (memOf w) (gs.map el) := by
          rw [AV.oks_iff]; intro b hb'; obtain ⟨g, hg, rfl⟩ := List.mem_map.1 hb'; exact hmem g hg
        have hlight : Light P t x.1 → gs.length * P.bytesOf e ≤ reachBytes ∧ ∀ g ∈ gs, Wt g := by
          intro hL
          rw [hm] at h
          simp only [Option.bind_some, Option.map_eq_some_iff] at h
          obtain ⟨rest, _, rfl⟩ := h
          have hw : DataW.weights P t (.slice (elems.map (·.1)) (rest.map (·.1))) = ((elems.map (·.1)).length + (rest.map (·.1)).length) * P.bytesOf e :: (DataW.weightsAll P e (elems.map (·.1)) ++ DataW.weightsAll P e (rest.map (·.1))) := by
            rw [DataW.weights, ht]
          have hL1 : ∀ n ∈ DataW.weights P t (.slice (elems.map (·.1)) (rest.map (·.1))), n ≤ reachBytes := hL
          rw [hw] at hL1
          refine ⟨?_, fun g hg => ?_⟩
          · have h1 := hL1 _ (List.mem_cons_self)
            refine Nat.le_trans (Nat.mul_le_mul_right _ ?_) h1
            rw [hgl]
            rcases Nat.eq_zero_or_pos len with h0 | h0
            · omega
            · obtain ⟨_, _, ⟨y, hy, _⟩, _⟩ := hex (len - 1) (by omega)
              have := (List.getElem?_eq_some_iff.1 hy).1
              simp only [List.length_map]; omega
          · obtain ⟨i, hi⟩ := List.getElem?_of_mem hg
            have hlt : i < len := by have := (List.getElem?_eq_some_iff.1 hi).1; omega
            rw [hgs i hlt] at hi
            obtain rfl := Option.some.inj hi
            obtain ⟨y, hy, hy2, _⟩ := (Classical.choose_spec (hex i hlt)).2.1
            exact hy2 fun n hn => hL1 n (List.mem_cons_of_mem _ (List.mem_append_left _ (weightsAll_mem (List.mem_map_of_mem (List.mem_of_getElem? hy)) hn)))
        have hlen2 : elems.length = len := by
          have h1 : ∀ i : Nat, i < len → i < elems.length := fun i hi => by
            obtain ⟨_, _, ⟨y, hy, _⟩, _⟩ := hex i hi
            exact (List.getElem?_eq_some_iff.1 hy).1
          have h2 := mapM_len hm
          simpa using h2.symm
        have hsum : (gs.map μ).sum ≤ ((elems.map (·.1)).map B).sum := by
          rw [List.map_map]
          refine sum_le (by rw [List.length_map, List.length_map, hgl, hlen2]) fun i a b ha hb => ?_
          rw [List.getElem?_map] at ha hb
          have hi : i < len := by
            cases e1 : gs[i]? with
            | none => rw [e1] at ha; cases ha
            | some g => have := (List.getElem?_eq_some_iff.1 e1).1; omega
          rw [hgs i hi] at ha
          obtain ⟨y, hy, _, hy3⟩ := (Classical.choose_spec (hex i hi)).2.1
          rw [hy] at hb
          simp only [Option.map_some, Option.some.injEq, Function.comp] at ha hb
          rw [← ha, ← hb]; exact hy3
        have hbulk : (gs.map μ).sum ≤ B x.1 := by
          rw [hm] at h
          simp only [Option.bind_some, Option.map_eq_some_iff] at h
          obtain ⟨rest, _, rfl⟩ := h
          exact Nat.le_trans hsum (hB _ _)
        refine ⟨_, gs, rfl, ⟨⟨a, cap, by rw [AV.vals_length, List.length_map, hgl], by rw [AV.vals_length, List.length_map, hgl]; exact hlc, hcm, fun v hv => ?_, fun hne => ?_⟩, hoks⟩, hlight, hbulk⟩
        · rw [AV.vals_eq, List.map_map] at hv
          obtain ⟨g, hg, rfl⟩ := List.mem_map.1 hv
          rw [Function.comp, cells_len (hmem g hg)]
          exact hval g (hmem g hg)
        · have hrow : ∀ (i : Nat) (v : Value), (AV.vals (gs.map el))[i]? = some v → ∀ (j : Nat) (y : Value), v.cells[j]? = some y → w.cell? ((a.add (i * sz)).add j) = some y := by
            intro i v hv j y hy
            rw [AV.vals_getElem?, List.getElem?_map] at hv
            cases hgi : gs[i]? with
            | none => rw [hgi] at hv; cases hv
            | some g =>
              rw [hgi] at hv
              obtain rfl := Option.some.inj hv
              have hlt : i < len := by have := (List.getElem?_eq_some_iff.1 hgi).1; omega
              have hg0 := hgi
              rw [hgs i hlt] at hgi
              obtain rfl := Option.some.inj hgi
              refine (Classical.choose_spec (hex i hlt)).2.2 j y ?_
              rw [AV.cells_of _ (hmem _ (List.mem_of_getElem? hg0))]
              simpa using hy
          have hpos : 0 < len := by
            rcases Nat.eq_zero_or_pos len with h0 | h0
            · exact absurd (List.eq_nil_of_length_eq_zero (by rw [AV.vals_length, List.length_map, hgl, h0])) hne
            · exact h0
          obtain ⟨b, off, spot⟩ := a
          have hsp : spot = none := by
            cases spot with
            | none => rfl
            | some s =>
              obtain ⟨g, hg1, _, hg2⟩ := hex 0 hpos
              have hl := hval g hg1
              have hv : (AV.vals (el g).cells)[0]? = some ((AV.vals (el g).cells)[0]'(by rw [AV.vals_length]; omega)) := List.getElem?_eq_getElem _
              have := hg2 0 _ hv
              simp [Addr.add, World.cell?] at this
              split at this <;> simp at this
          subst hsp
          refine ⟨b, off, rfl, fun i v hv j y hy => ?_⟩
          have := hrow i v hv j y hy
          rw [addr_add, addr_add] at this
          exact this
      · cases h
end
end Go.AL
/- A code's first part leads to a state that a ghost names; from there its second part goes on. -/
namespace Go.AL
variable {P : Program}
end Go.AL
/- The contracts of maps.Keys and slices.Sorted, lifted. -/
set_option linter.unusedVariables false
set_option linter.unusedSimpArgs false
namespace Go.AL
open Go.Maps Go.WideElems Go.MapKept
open Go.Proofs (encStr)
end Go.AL
/- A raw contract whose results lie in new memory: all new memory is published, frozen. -/
set_option linter.unusedVariables false
set_option linter.unusedSimpArgs false
namespace Go.AL
section
variable {P : Program}
/-- The published places, and all of a world's from a block on. -/
def Mem.from (m : Mem) (B : Nat) (w' : World) : Mem := fun b o => if b < B then m b o else w'.cell? ⟨b, o, none⟩
end
end Go.AL
/- Regions that draw their order, by what each operation leaves: one obligation an operation, none an order. -/
set_option linter.unusedVariables false
set_option linter.unusedSimpArgs false
namespace Go.AL
section
variable {P : Program}
theorem AOp.mono {o : Oper} {K K' : St → Prop} {st : St} (h : AOp P o K st) (hk : ∀ st', K st' → K' st') : AOp P o K' st :=
  fun F a w hr K1 Q hK1 => h F a w hr K1 Q fun a' w' ⟨st', k, r⟩ => hK1 a' w' ⟨st', hk _ k, r⟩

/-- A state keeps what another says but for one slot. -/
structure Keeps (d : Nat) (st st' : St) : Prop where
  n : st'.n = st.n
  sl : ∀ s x, s ≠ d → st.sl s = some x → st'.sl s = some x
  hp : st.hp.le st'.hp

end
end Go.AL

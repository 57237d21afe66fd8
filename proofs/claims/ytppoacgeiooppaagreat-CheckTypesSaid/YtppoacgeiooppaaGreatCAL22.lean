/- From a row's reading of its arguments to values with contents. -/
import Derived.Test.YtppoacgeiooppaaGreatCAL20
import Derived.ChangeShapes
import Derived.SizedLaws
import Derived.Carry
import Derived.ChangeSame
import Derived.ProofKit
set_option linter.unusedVariables false
set_option linter.unusedSimpArgs false
namespace Go.AL
section
variable {P : Program} {H : Type} {enc : TypeId × Value → H} {w : World} {base : Nat} {sp : Nat → Bool} {held : Bool}

def memOf (w : World) : Mem := fun b o => w.cell? ⟨b, o, none⟩

/-- What is read takes no more than a process has. -/
def Light (P : Program) (t : TypeId) (d : DataW H) : Prop := ∀ n ∈ d.weights P t, n ≤ reachBytes
theorem weightsAll_mem {e : TypeId} {d : DataW H} {n : Nat} : ∀ {ds : List (DataW H)}, d ∈ ds → n ∈ d.weights P e → n ∈ DataW.weightsAll P e ds
  | [], h, _ => by cases h
  | a :: r, h, hn => by
    rw [DataW.weightsAll, List.mem_append]
    rcases List.mem_cons.1 h with rfl | h
    · exact .inl hn
    · exact .inr (weightsAll_mem h hn)
/-- Every reading of cells at this type is of this shape. -/
def Reads (P : Program) (enc : TypeId × Value → H) (w : World) (base : Nat) (sp : Nat → Bool) (held : Bool) (t : TypeId) {α : Type} (el : α → List AV) (Wt : α → Prop) : Prop :=
  ∀ fuel cs x, DataW.trod enc P w base sp held fuel t cs = some x → ∃ g : α, AV.vals (el g) = cs ∧ AV.oks (memOf w) (el g) ∧ (Light P t x.1 → Wt g)

theorem mapM_get {α β : Type} {f : α → Option β} : ∀ {l : List α} {r : List β}, l.mapM f = some r → ∀ i : Nat, (∀ a, l[i]? = some a → ∃ b, f a = some b ∧ r[i]? = some b)
  | [], r, h, i, a, ha => by simp at ha
  | a0 :: l, r, h, i, a, ha => by
    rw [List.mapM_cons] at h
    cases h0 : f a0 with
    | none => rw [h0] at h; cases h
    | some b0 =>
      cases h1 : l.mapM f with
      | none => rw [h0, h1] at h; cases h
      | some r0 =>
        rw [h0, h1] at h
        obtain rfl : b0 :: r0 = r := by simpa using h
        cases i with
        | zero => simp at ha; subst ha; exact ⟨b0, h0, rfl⟩
        | succ i => exact mapM_get h1 i a (by simpa using ha)

theorem reads_slice {t e : TypeId} {sz : Nat} {α : Type} {el : α → AV} (ht : P.underlying t = some (.slice e)) (hsz : P.cellsOf e = sz) (hp0 : 0 < sz)
    {Wt : α → Prop} (he : Reads P enc w base sp held e (fun g => (el g).cells) Wt) (hval : ∀ g, (el g).ok (memOf w) → (el g).cells.length = sz)
    (hcell : ∀ g, AV.oks (memOf w) (el g).cells → (el g).ok (memOf w)) :
    ∀ fuel cs x, DataW.trod enc P w base sp held fuel t cs = some x → ∃ (h : Value) (gs : List α), cs = [h] ∧ (AV.lst sz h (gs.map el)).ok (memOf w) ∧ (Light P t x.1 → gs.length * P.bytesOf e ≤ reachBytes ∧ ∀ g ∈ gs, Wt g)
  | 0, cs, x, h => by simp [DataW.trod] at h
  | fuel + 1, cs, x, h => by
    unfold DataW.trod at h
    rw [ht] at h
    split at h <;> simp only [reduceCtorEq, Option.some.injEq, TypeDesc.slice.injEq] at *
    · refine ⟨_, [], rfl, ⟨⟨none, 0, rfl, Nat.le_refl _, by simp [maxLen], by simp [AV.vals], by simp [AV.vals]⟩, trivial⟩, fun _ => ⟨by simp, fun g hg => by cases hg⟩⟩
    · rename_i e' a len cap he'
      subst he'
      split at h
      · rename_i hc
        obtain ⟨hb, hlc, hcm⟩ := hc
        cases hm : (List.range len).mapM (fun i => (w.cells? base (a.add (i * P.cellsOf e)) (P.cellsOf e)).bind (DataW.trod enc P w base sp held fuel e)) with
        | none => rw [hm] at h; cases h
        | some elems =>
        have hex : ∀ i : Nat, i < len → ∃ g : α, (el g).ok (memOf w) ∧ (∃ y, elems[i]? = some y ∧ (Light P e y.1 → Wt g)) ∧ ∀ (j : Nat) (v : Value), (AV.vals (el g).cells)[j]? = some v → w.cell? ((a.add (i * sz)).add j) = some v := by
          intro i hi
          obtain ⟨y, hy, hy2⟩ := mapM_get hm i i (by simp [hi])
          rw [hsz] at hy
          cases hcs : w.cells? base (a.add (i * sz)) sz with
          | none => rw [hcs] at hy; cases hy
          | some cs =>
            rw [hcs] at hy
            obtain ⟨g, hg1, hg2, hg3⟩ := he fuel cs y hy
            obtain ⟨_, hl, hcell'⟩ := World.cells?_some hcs
            refine ⟨g, hcell g hg2, ⟨y, hy2, hg3⟩, fun j v hv => ?_⟩
            rw [hg1] at hv
            have hj : j < sz := by have := (List.getElem?_eq_some_iff.1 hv).1; omega
            rw [hcell' j hj]; exact hv
        let gs : List α := List.ofFn fun i : Fin len => Classical.choose (hex i.1 i.2)
        have hgs : ∀ (i : Nat) (hi : i < len), gs[i]? = some (Classical.choose (hex i hi)) := by
          intro i hi
          simp [gs, List.getElem?_ofFn, hi]
        have hgl : gs.length = len := by simp [gs]
        have hmem : ∀ g ∈ gs, (el g).ok (memOf w) := by
          intro g hg
          obtain ⟨i, hi⟩ := List.getElem?_of_mem hg
          have hlt : i < len := by have := (List.getElem?_eq_some_iff.1 hi).1; omega
          rw [hgs i hlt] at hi
          obtain rfl := Option.some.inj hi
          exact (Classical.choose_spec (hex i hlt)).1
        have hoks : AV.oks (memOf w) (gs.map el) := by
          rw [AV.oks_iff]; intro b hb'; obtain ⟨g, hg, rfl⟩ := List.mem_map.1 hb'; exact hmem g hg
        have hlight : Light P t x.1 → gs.length * P.bytesOf e ≤ reachBytes ∧ ∀ g ∈ gs, Wt g := by
          intro hL
          rw [hm] at h
          simp only [Option.bind_some, Option.map_eq_some_iff] at h
          obtain ⟨rest, _, rfl⟩ := h
          have hw : DataW.weights P t (.slice (elems.map (·.1)) (rest.map (·.1))) = ((elems.map (·.1)).length + (rest.map (·.1)).length) * P.bytesOf e :: (DataW.weightsAll P e (elems.map (·.1)) ++ DataW.weightsAll P e (rest.map (·.1))) := by
            rw [DataW.weights, ht]
          have hL1 : ∀ n ∈ DataW.weights P t (.slice (elems.map (·.1)) (rest.map (·.1))), n ≤ reachBytes := hL
          rw [hw] at hL1
          refine ⟨?_, fun g hg => ?_⟩
          · have h1 := hL1 _ (List.mem_cons_self)
            refine Nat.le_trans (Nat.mul_le_mul_right _ ?_) h1
            rw [hgl]
            rcases Nat.eq_zero_or_pos len with h0 | h0
            · omega
            · obtain ⟨_, _, ⟨y, hy, _⟩, _⟩ := hex (len - 1) (by omega)
              have := (List.getElem?_eq_some_iff.1 hy).1
              simp only [List.length_map]; omega
          · obtain ⟨i, hi⟩ := List.getElem?_of_mem hg
            have hlt : i < len := by have := (List.getElem?_eq_some_iff.1 hi).1; omega
            rw [hgs i hlt] at hi
            obtain rfl := Option.some.inj hi
            obtain ⟨y, hy, hy2⟩ := (Classical.choose_spec (hex i hlt)).2.1
            exact hy2 fun n hn => hL1 n (List.mem_cons_of_mem _ (List.mem_append_left _ (weightsAll_mem (List.mem_map_of_mem (List.mem_of_getElem? hy)) hn)))
        refine ⟨_, gs, rfl, ⟨⟨a, cap, by rw [AV.vals_length, List.length_map, hgl], by rw [AV.vals_length, List.length_map, hgl]; exact hlc, hcm, fun v hv => ?_, fun hne => ?_⟩, hoks⟩, hlight⟩
        · rw [AV.vals_eq, List.map_map] at hv
          obtain ⟨g, hg, rfl⟩ := List.mem_map.1 hv
          rw [Function.comp, cells_len (hmem g hg)]
          exact hval g (hmem g hg)
        · have hrow : ∀ (i : Nat) (v : Value), (AV.vals (gs.map el))[i]? = some v → ∀ (j : Nat) (y : Value), v.cells[j]? = some y → w.cell? ((a.add (i * sz)).add j) = some y := by
            intro i v hv j y hy
            rw [AV.vals_getElem?, List.getElem?_map] at hv
            cases hgi : gs[i]? with
            | none => rw [hgi] at hv; cases hv
            | some g =>
              rw [hgi] at hv
              obtain rfl := Option.some.inj hv
              have hlt : i < len := by have := (List.getElem?_eq_some_iff.1 hgi).1; omega
              have hg0 := hgi
              rw [hgs i hlt] at hgi
              obtain rfl := Option.some.inj hgi
              refine (Classical.choose_spec (hex i hlt)).2.2 j y ?_
              rw [AV.cells_of _ (hmem _ (List.mem_of_getElem? hg0))]
              simpa using hy
          have hpos : 0 < len := by
            rcases Nat.eq_zero_or_pos len with h0 | h0
            · exact absurd (List.eq_nil_of_length_eq_zero (by rw [AV.vals_length, List.length_map, hgl, h0])) hne
            · exact h0
          obtain ⟨b, off, spot⟩ := a
          have hsp : spot = none := by
            cases spot with
            | none => rfl
            | some s =>
              obtain ⟨g, hg1, _, hg2⟩ := hex 0 hpos
              have hl := hval g hg1
              have hv : (AV.vals (el g).cells)[0]? = some ((AV.vals (el g).cells)[0]'(by rw [AV.vals_length]; omega)) := List.getElem?_eq_getElem _
              have := hg2 0 _ hv
              simp [Addr.add, World.cell?] at this
              split at this <;> simp at this
          subst hsp
          refine ⟨b, off, rfl, fun i v hv j y hy => ?_⟩
          have := hrow i v hv j y hy
          rw [addr_add, addr_add] at this
          exact this
      · cases h
end
end Go.AL
/- Rows whose answer is 'true' and whose arguments stay as they are. -/
set_option linter.unusedSimpArgs false
set_option linter.unusedVariables false
namespace Go.AL
open Go.ChangeShapes Go.WideShapes Go.RowKit

theorem trodAll_len {H : Type} {enc : TypeId × Value → H} {P : Program} {w : World} {base : Nat} {spare : Nat → Bool} {held : Bool} : ∀ {ts : List TypeId} {vs : List Value} {ds : List (DataW H)} {ps : List MemPlace},
    DataW.TrodAll enc P w base spare held ts vs ds ps → ds.length = ts.length
  | [], vs, ds, ps, h => by obtain ⟨_, rfl, _⟩ := trodAll_nil h; rfl
  | t :: ts, vs, ds, ps, h => by
    obtain ⟨v, vs', d, ds', p, q, rfl, rfl, rfl, _, hr⟩ := trodAll_cons h
    simp [trodAll_len hr]

theorem below_trodAll {H : Type} {enc : TypeId × Value → H} {P : Program} (hl : laidOutB P = true) {W W' : World} (hb : Below W.heap.size W W') : ∀ {ts : List TypeId} {vs : List Value} {ds : List (DataW H)} {ps : List MemPlace},
    (∀ t ∈ ts, P.readableRec t = true ∧ t < P.types.size) → DataW.TrodAll enc P W 0 (fun _ => true) true ts vs ds ps → (∀ x ∈ ps, x.block < W.heap.size) →
    DataW.TrodAll enc P W' 0 (fun b => decide (b < W.heap.size)) true ts vs ds ps
  | [], vs, ds, ps, _, h, _ => by obtain ⟨rfl, rfl, rfl⟩ := trodAll_nil h; exact trodAll_mk0
  | t :: ts, vs, ds, ps, hr, h, hlt => by
    obtain ⟨v, vs', d, ds', p, q, rfl, rfl, rfl, hd, hq⟩ := trodAll_cons h
    have ht := hr t (by simp)
    exact ⟨p, q, Below.trod hl ht.1 ht.2 hd hb (fun x hx => hlt x (by simp [hx])), below_trodAll hl hb (fun t h => hr t (by simp [h])) hq (fun x hx => hlt x (by simp [hx])), rfl⟩

/-- The row says 'true' and nothing has turned. -/
theorem row_true {H : Type} {enc : TypeId × Value → H} {P : Program} {f : Func} {s : ChangeSpec} {apart fresh handsOn : Bool} {n : FuncId} {tb : TypeId} {W : World} {args : Array Value} {ds gs : List (DataW H)} {before : List MemPlace}
    (hl : laidOutB P = true) (hr : f.params.toList.all (fun t => P.readableRec t && decide (t < P.types.size)) = true) (hres : f.resultTypes = #[tb]) (htb : P.underlying tb = some .bool) (hvars : s.vars = [])
    (hfn : ∀ (l : List (DataW H)), l.length = f.params.toList.length → s.fn H l = { results := [.lit (.bool true)], args := l })
    (hw : DataW.Whole enc P f.params.toList s.vars apart W args.toList ds gs before)
    (hc : Calls P n args W fun e W' => e = .returned (.bool true) ∧ Below W.heap.size W W') :
    Calls P n args W fun e W' => ∃ v, e = .returned v ∧ s.post enc P f apart fresh handsOn false W args v W' := by
  refine hc.mono fun e W' ⟨he, hb⟩ => ⟨_, he, ?_⟩
  have hw0 := hw
  obtain ⟨p, q, hA, hV, hpq, hfz, hnd⟩ := hw
  rw [hvars] at hV
  obtain ⟨rfl, rfl⟩ := trodVars_none hV
  have hlt : ∀ x ∈ p, x.block < W.heap.size := fun x hx => by simpa using hw0.lt x (by rw [hpq]; simp [hx])
  have hf : s.fn H (ds ++ []) = { results := [.lit (.bool true)], args := ds } := by rw [List.append_nil]; exact hfn ds (trodAll_len hA)
  have hr' : ∀ t ∈ f.params.toList, P.readableRec t = true ∧ t < P.types.size := fun t ht => by
    have := List.all_eq_true.1 hr t ht
    simpa using this
  refine ⟨ds, [], before, [], p, [], hw0, ?_, ?_, ?_, hb.frame _, fun h => by cases h⟩
  · rw [hf, hres]
    exact trodAll_mk1 (shut_bool htb true)
  · rw [hf]
    exact below_trodAll hl hb hr' hA hlt
  · rw [hf, hvars]
    rfl
end Go.AL

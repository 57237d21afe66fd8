/- Readings at a given depth, with bounds on what is read. -/
import Derived.Test.YtppoacgeiooppaaGreatCAL22
import Derived.Test.YtppoacgeiooppaaGreatCAL17
import Derived.Test.YtppoacgeiooppaaGreatCAL36
import Derived.Test.YtppoacgeiooppaaGreatCAL34
import Derived.Sort.KeysCollected
import Derived.Lib.SlKeysI
set_option linter.unusedVariables false
set_option linter.unusedSimpArgs false
namespace Go.AL
section
variable {P : Program} {H : Type} {enc : TypeId × Value → H} {w : World} {base : Nat} {sp : Nat → Bool} {held : Bool}
def ReadsAt (P : Program) (enc : TypeId × Value → H) (w : World) (base : Nat) (sp : Nat → Bool) (held : Bool) (B : DataW H → Nat) (fuel : Nat) (t : TypeId) {α : Type} (el : α → List AV) (Wt : α → Prop) (μ : α → Nat) : Prop :=
  ∀ cs x, DataW.trod enc P w base sp held fuel t cs = some x → ∃ g : α, AV.vals (el g) = cs ∧ AV.oks (memOf w) (el g) ∧ (Light P t x.1 → Wt g) ∧ μ g ≤ B x.1
theorem mapM_len {α β : Type} {f : α → Option β} : ∀ {l : List α} {r : List β}, l.mapM f = some r → l.length = r.length
  | [], r, h => by simp at h; subst h; rfl
  | a :: l, r, h => by
    rw [List.mapM_cons] at h
    cases h0 : f a with
    | none => rw [h0] at h; cases h
    | some b0 =>
      cases h1 : l.mapM f with
      | none => rw [h0, h1] at h; cases h
      | some r0 =>
        rw [h0, h1] at h
        obtain rfl : b0 :: r0 = r := by simpa using h
        rw [List.length_cons, List.length_cons, mapM_len h1]
theorem sum_le : ∀ {l r : List Nat}, l.length = r.length → (∀ (i a b : Nat), l[i]? = some a → r[i]? = some b → a ≤ b) → l.sum ≤ r.sum
  | [], [], _, _ => Nat.le_refl _
  | [], _ :: _, h, _ => by cases h
  | _ :: _, [], h, _ => by cases h
  | a :: l, b :: r, h, hh => by
    rw [List.sum_cons, List.sum_cons]
    have h1 := hh 0 a b rfl rfl
    have h2 := sum_le (l := l) (r := r) (by simpa using h) fun i x y hx hy => hh (i + 1) x y (by simpa using hx) (by simpa using hy)
    omega
theorem reads_slice_at {fuel t e : Nat} {sz : Nat} {α : Type} {el : α → AV} {B : DataW H → Nat} {μ : α → Nat} (hB : ∀ es sp, (es.map B).sum ≤ B (.slice es sp)) (ht : P.underlying t = some (.slice e)) (hsz : P.cellsOf e = sz) (hp0 : 0 < sz)
    {Wt : α → Prop} (he : ReadsAt P enc w base sp held B fuel e (fun g => (el g).cells) Wt μ) (hval : ∀ g, (el g).ok (memOf w) → (el g).cells.length = sz)
    (hcell : ∀ g, AV.oks (memOf w) (el g).cells → (el g).ok (memOf w)) :
    ∀ cs x, DataW.trod enc P w base sp held (fuel + 1) t cs = some x → ∃ (h : Value) (gs : List α), cs = [h] ∧ (AV.lst sz h (gs.map el)).ok (memOf w) ∧ (Light P t x.1 → gs.length * P.bytesOf e ≤ reachBytes ∧ ∀ g ∈ gs, Wt g) ∧ (gs.map μ).sum ≤ B x.1 := by
    intro cs x h
    unfold DataW.trod at h
    rw [ht] at h
    split at h <;> simp only [reduceCtorEq, Option.some.injEq, TypeDesc.slice.injEq] at *
    · refine ⟨_, [], rfl, ⟨⟨none, 0, rfl, Nat.le_refl _, by simp [maxLen], by simp [AV.vals], by simp [AV.vals]⟩, trivial⟩, fun _ => ⟨by simp, fun g hg => by cases hg⟩, by simp⟩
    · rename_i e' a len cap he'
      subst he'
      split at h
      · rename_i hc
        obtain ⟨hb, hlc, hcm⟩ := hc
        cases hm : (List.range len).mapM (fun i => (w.cells? base (a.add (i * P.cellsOf e)) (P.cellsOf e)).bind (DataW.trod enc P w base sp held fuel e)) with
        | none => rw [hm] at h; cases h
        | some elems =>
        have hex : ∀ i : Nat, i < len → ∃ g : α, (el g).ok (memOf w) ∧ (∃ y, elems[i]? = some y ∧ (Light P e y.1 → Wt g) ∧ μ g ≤ B y.1) ∧ ∀ (j : Nat) (v : Value), (AV.vals (el g).cells)[j]? = some v → w.cell? ((a.add (i * sz)).add j) = some v := by
          intro i hi
          obtain ⟨y, hy, hy2⟩ := mapM_get hm i i (by simp [hi])
          rw [hsz] at hy
          cases hcs : w.cells? base (a.add (i * sz)) sz with
          | none => rw [hcs] at hy; cases hy
          | some cs =>
            rw [hcs] at hy
            obtain ⟨g, hg1, hg2, hg3, hg4⟩ := he cs y hy
            obtain ⟨_, hl, hcell'⟩ := World.cells?_some hcs
            refine ⟨g, hcell g hg2, ⟨y, hy2, hg3, hg4⟩, fun j v hv => ?_⟩
            rw [hg1] at hv
            have hj : j < sz := by have := (List.getElem?_eq_some_iff.1 hv).1; omega
            rw [hcell' j hj]; exact hv
        let gs : List α := List.ofFn fun i : Fin len => Classical.choose (hex i.1 i.2)
        have hgs : ∀ (i : Nat) (hi : i < len), gs[i]? = some (Classical.choose (hex i hi)) := by
          intro i hi
          simp [gs, List.getElem?_ofFn, hi]
        have hgl : gs.length = len := by simp [gs]
        have hmem : ∀ g ∈ gs, (el g).ok (memOf w) := by
          intro g hg
          obtain ⟨i, hi⟩ := List.getElem?_of_mem hg
          have hlt : i < len := by have := (List.getElem?_eq_some_iff.1 hi).1; omega
          rw [hgs i hlt] at hi
          obtain rfl := Option.some.inj hi
          exact (Classical.choose_spec (hex i hlt)).1
        have hoks : AV.oks (memOf w) (gs.map el) := by
          rw [AV.oks_iff]; intro b hb'; obtain ⟨g, hg, rfl⟩ := List.mem_map.1 hb'; exact hmem g hg
        have hlight : Light P t x.1 → gs.length * P.bytesOf e ≤ reachBytes ∧ ∀ g ∈ gs, Wt g := by
          intro hL
          rw [hm] at h
          simp only [Option.bind_some, Option.map_eq_some_iff] at h
          obtain ⟨rest, _, rfl⟩ := h
          have hw : DataW.weights P t (.slice (elems.map (·.1)) (rest.map (·.1))) = ((elems.map (·.1)).length + (rest.map (·.1)).length) * P.bytesOf e :: (DataW.weightsAll P e (elems.map (·.1)) ++ DataW.weightsAll P e (rest.map (·.1))) := by
            rw [DataW.weights, ht]
          have hL1 : ∀ n ∈ DataW.weights P t (.slice (elems.map (·.1)) (rest.map (·.1))), n ≤ reachBytes := hL
          rw [hw] at hL1
          refine ⟨?_, fun g hg => ?_⟩
          · have h1 := hL1 _ (List.mem_cons_self)
            refine Nat.le_trans (Nat.mul_le_mul_right _ ?_) h1
            rw [hgl]
            rcases Nat.eq_zero_or_pos len with h0 | h0
            · omega
            · obtain ⟨_, _, ⟨y, hy, _⟩, _⟩ := hex (len - 1) (by omega)
              have := (List.getElem?_eq_some_iff.1 hy).1
              simp only [List.length_map]; omega
          · obtain ⟨i, hi⟩ := List.getElem?_of_mem hg
            have hlt : i < len := by have := (List.getElem?_eq_some_iff.1 hi).1; omega
            rw [hgs i hlt] at hi
            obtain rfl := Option.some.inj hi
            obtain ⟨y, hy, hy2, _⟩ := (Classical.choose_spec (hex i hlt)).2.1
            exact hy2 fun n hn => hL1 n (List.mem_cons_of_mem _ (List.mem_append_left _ (weightsAll_mem (List.mem_map_of_mem (List.mem_of_getElem? hy)) hn)))
        have hlen2 : elems.length = len := by
          have h1 : ∀ i : Nat, i < len → i < elems.length := fun i hi => by
            obtain ⟨_, _, ⟨y, hy, _⟩, _⟩ := hex i hi
            exact (List.getElem?_eq_some_iff.1 hy).1
          have h2 := mapM_len hm
          simpa using h2.symm
        have hsum : (gs.map μ).sum ≤ ((elems.map (·.1)).map B).sum := by
          rw [List.map_map]
          refine sum_le (by rw [List.length_map, List.length_map, hgl, hlen2]) fun i a b ha hb => ?_
          rw [List.getElem?_map] at ha hb
          have hi : i < len := by
            cases e1 : gs[i]? with
            | none => rw [e1] at ha; cases ha
            | some g => have := (List.getElem?_eq_some_iff.1 e1).1; omega
          rw [hgs i hi] at ha
          obtain ⟨y, hy, _, hy3⟩ := (Classical.choose_spec (hex i hi)).2.1
          rw [hy] at hb
          simp only [Option.map_some, Option.some.injEq, Function.comp] at ha hb
          rw [← ha, ← hb]; exact hy3
        have hbulk : (gs.map μ).sum ≤ B x.1 := by
          rw [hm] at h
          simp only [Option.bind_some, Option.map_eq_some_iff] at h
          obtain ⟨rest, _, rfl⟩ := h
          exact Nat.le_trans hsum (hB _ _)
        refine ⟨_, gs, rfl, ⟨⟨a, cap, by rw [AV.vals_length, List.length_map, hgl], by rw [AV.vals_length, List.length_map, hgl]; exact hlc, hcm, fun v hv => ?_, fun hne => ?_⟩, hoks⟩, hlight, hbulk⟩
        · rw [AV.vals_eq, List.map_map] at hv
          obtain ⟨g, hg, rfl⟩ := List.mem_map.1 hv
          rw [Function.comp, cells_len (hmem g hg)]
          exact hval g (hmem g hg)
        · have hrow : ∀ (i : Nat) (v : Value), (AV.vals (gs.map el))[i]? = some v → ∀ (j : Nat) (y : Value), v.cells[j]? = some y → w.cell? ((a.add (i * sz)).add j) = some y := by
            intro i v hv j y hy
            rw [AV.vals_getElem?, List.getElem?_map] at hv
            cases hgi : gs[i]? with
            | none => rw [hgi] at hv; cases hv
            | some g =>
              rw [hgi] at hv
              obtain rfl := Option.some.inj hv
              have hlt : i < len := by have := (List.getElem?_eq_some_iff.1 hgi).1; omega
              have hg0 := hgi
              rw [hgs i hlt] at hgi
              obtain rfl := Option.some.inj hgi
              refine (Classical.choose_spec (hex i hlt)).2.2 j y ?_
              rw [AV.cells_of _ (hmem _ (List.mem_of_getElem? hg0))]
              simpa using hy
          have hpos : 0 < len := by
            rcases Nat.eq_zero_or_pos len with h0 | h0
            · exact absurd (List.eq_nil_of_length_eq_zero (by rw [AV.vals_length, List.length_map, hgl, h0])) hne
            · exact h0
          obtain ⟨b, off, spot⟩ := a
          have hsp : spot = none := by
            cases spot with
            | none => rfl
            | some s =>
              obtain ⟨g, hg1, _, hg2⟩ := hex 0 hpos
              have hl := hval g hg1
              have hv : (AV.vals (el g).cells)[0]? = some ((AV.vals (el g).cells)[0]'(by rw [AV.vals_length]; omega)) := List.getElem?_eq_getElem _
              have := hg2 0 _ hv
              simp [Addr.add, World.cell?] at this
              split at this <;> simp at this
          subst hsp
          refine ⟨b, off, rfl, fun i v hv j y hy => ?_⟩
          have := hrow i v hv j y hy
          rw [addr_add, addr_add] at this
          exact this
      · cases h
end
end Go.AL
/- A code's first part leads to a state that a ghost names; from there its second part goes on. -/
namespace Go.AL
variable {P : Program}
theorem aw_cut {α : Type} {x y : Code} {Q : Exit → St → Prop} {st : St} (n : Nat) (sl : α → List (Nat × AV)) (hp : α → Hp) (I : α → Prop)
    (hx : AWp P x (thenA (fun st' => ∃ a, I a ∧ St.le ⟨n, mkSl (sl a), hp a⟩ st') Q) st)
    (hy : ∀ a, I a → AWp P y Q ⟨n, mkSl (sl a), hp a⟩) : AWp P (.seq x y) Q st := by
  refine aw_seq (hx.mono fun e st' h => ?_)
  cases e with
  | normal =>
    obtain ⟨a, hI, hle⟩ := h
    exact aw_weaken hle (hy a hI)
  | _ => exact h
end Go.AL
/- The contracts of maps.Keys and slices.Sorted, lifted. -/
set_option linter.unusedVariables false
set_option linter.unusedSimpArgs false
namespace Go.AL
open Go.Maps Go.WideElems Go.MapKept
open Go.Proofs (encStr)
section
variable {P : Program}
theorem acalls_keys {f g : FuncId} {T : TypeId} {hp : Hp} {mb : Option Nat} (hc : Callable P f)
    (hrun : ∀ w, Calls P f #[.map mb] w fun e w' => e = .returned (.func (.func g) #[] #[.pointer (some ⟨w.heap.size, 0, none⟩)]) ∧ w' = w.alloc (.cells #[.map mb] T)) :
    ACalls P f [.v (.map mb)] hp (fun r hp' => ∃ q, r = .v (.func (.func g) #[] #[.pointer (some ⟨q, 0, none⟩)]) ∧ Fresh hp q ∧ hp' = hp.setBlk q T [.v (.map mb)]) :=
  ⟨hc, fun F w hv => by
    obtain ⟨hlo, m, hle, hhp, hok⟩ := hv
    refine (hrun w).mono ?_
    rintro e w' ⟨rfl, rfl⟩
    exact ⟨.v (.func (.func g) #[] #[.pointer (some ⟨w.heap.size, 0, none⟩)]), hp.setBlk w.heap.size T [.v (.map mb)], ⟨w.heap.size, rfl, hhp.fresh.1, rfl⟩, rfl, hlo.alloc _, m, hle, hhp.setNew (T := T) (cs := [.v (.map mb)]) hlo.bs ⟨trivial, trivial⟩, trivial, trivial⟩⟩
/-- Any value reads. -/
def anyR : Value → Option (DataW Unit × List MemPlace) := fun _ => some (.nil, [])
theorem owns_keys {kt : TypeId} {w : World} {b : Nat} {en : Array MapEntry} {cl : Nat} (hh : w.heap[b]? = some (.map en cl)) (hst : Stamped en cl) (hmax : en.size ≤ maxLen) {lit : MapEntry → Lit} (hk : ∀ x ∈ en.toList, keyOf P kt x.key = some (lit x)) :
    ∃ l : List (Lit × DataW Unit), w.ownsMap P kt anyR b en.size (.map l) ∧ l.Perm (en.toList.map fun x => (lit x, .nil)) := by
  have hrd : ∀ x ∈ en.toList, rd P kt anyR x = some (lit x, .nil) := fun x hx => by
    unfold rd; rw [hk x hx]; rfl
  have hrg : en.toList.map (rg P kt anyR) = en.toList.map fun x => (lit x, .nil) := List.map_congr_left fun x hx => rg_of (hrd x hx)
  refine ⟨(en.toList.map (rg P kt anyR)).foldr DataW.insert [], ⟨en, cl, hh, ⟨hmax, hst, fun x hx => ⟨_, hrd x hx⟩⟩, Nat.le_refl _, rfl⟩, ?_⟩
  rw [← hrg]
  exact Go.WideShapes.sorted_perm _
theorem owns_strs {kt : TypeId} (hkt : P.underlying kt = some .string) {w : World} {b : Nat} {en : Array MapEntry} {cl : Nat} (hh : w.heap[b]? = some (.map en cl)) (hst : Stamped en cl) {ks : List (List UInt8)} (hks : en.toList.map (·.key) = ks.map encStr) (hl : ∀ s ∈ ks, s.length ≤ maxLen) (hmax : ks.length ≤ maxLen) :
    ∃ D : DataW Unit, w.ownsMap P kt anyR b en.size D ∧ (strKeys D).Perm ks ∧ Maps.size D = ks.length := by
  have hsz : en.size = ks.length := by have := congrArg List.length hks; simpa using this
  have hk : ∀ x ∈ en.toList, keyOf P kt x.key = some (match x.key with | .string s => Lit.string s.data.toList | _ => .bool false) := fun x hx => by
    have : x.key ∈ ks.map encStr := by rw [← hks]; exact List.mem_map_of_mem hx
    obtain ⟨s, hs, e⟩ := List.mem_map.1 this
    rw [← e]
    have h1 := hl s hs
    simp only [encStr, keyOf, hkt, mapKey]
    simp [ByteArray.size, h1]
  obtain ⟨l, h1, h2⟩ := owns_keys hh hst (by omega) hk
  refine ⟨.map l, h1, ?_, ?_⟩
  · have h3 := h2.map (fun p => strOf p.1)
    refine h3.trans (List.Perm.of_eq ?_)
    rw [List.map_map]
    have h4 : ks = (ks.map encStr).map fun v => match v with | .string s => s.data.toList | _ => [] := by
      rw [List.map_map]
      exact (List.map_id _).symm.trans (List.map_congr_left fun x _ => by simp [encStr])
    rw [h4, ← hks, List.map_map]
    refine List.map_congr_left fun x hx => ?_
    simp only [Function.comp]
    cases x.key <;> rfl
  · show l.length = _
    rw [h2.length_eq, List.length_map, Array.length_toList, hsz]
/-- A new row of one-cell values, handed back: a list with an own spare. -/
theorem row_new {base : Nat} {hp : Hp} {m : Mem} {w w' : World} (h : HpOk base hp m w) (hb : base ≤ w.heap.size) (h' : HpOk base hp m w') {e : TypeId} {v : Value} {xs : List Value} (hone : ∀ x ∈ xs, x.cells.size = 1) (hag : ∀ x ∈ xs, (AV.v x).cells = [AV.v x])
    (hr : w'.ownsRow w.heap.size e 1 v xs.length xs) : ∃ m', m.le m' ∧ HpOk base (hp.setSp ((e, 1, v) :: hp.sp)) m' w' ∧ (AV.lst 1 v (xs.map AV.v)).ok m' := by
  rcases hr.2 with ⟨rfl, h0⟩ | ⟨g, cap, cur, rfl, hg, hc, hn, hcm, hsz, htk⟩
  · obtain rfl : xs = [] := List.eq_nil_of_length_eq_zero h0
    exact ⟨m, Mem.le_refl m, h'.addSp (.inl rfl) (fun b hb => by cases hb), (Cast.nil 1).2 m trivial⟩
  · rw [Nat.mul_one] at hsz htk
    have hfl : ∀ (l : List Value), (∀ x ∈ l, (AV.v x).cells = [AV.v x]) → (l.map AV.v).flatMap AV.cells = l.map AV.v := fun l hl => by
      induction l with
      | nil => rfl
      | cons a l ih => rw [List.map_cons, List.flatMap_cons, hl a (by simp), ih (fun x hx => hl x (by simp [hx]))]; rfl
    have hcells : (AV.vals ((xs.map AV.v).flatMap AV.cells ++ (cur.toList.drop xs.length).map AV.v)).toArray = cur := by
      rw [hfl xs hag, ← List.map_append, map_v_vals]
      apply Array.ext'
      have h9 := List.take_append_drop xs.length cur.toList
      rw [htk] at h9
      rw [List.toList_toArray]
      exact h9
    have h1 := h.setFresh h' (b := g) (e := e) (cs := (xs.map AV.v).flatMap AV.cells ++ (cur.toList.drop xs.length).map AV.v) hg (Nat.le_trans hb hg) (by rw [hcells]; exact hc) (by rw [hfl xs hag, ← List.map_append]; exact map_v_oks m _)
    obtain ⟨m', q1, q2, q3⟩ := h1.pubRow (sz := 1) (n := xs.length) (cap := cap) (xs := xs.map AV.v) (by rw [Hp.setBlk_blk, if_pos rfl]) (fun x hx => by
      obtain ⟨y, hy, rfl⟩ := List.mem_map.1 hx
      rw [hag y hy]; rfl) (fun _ => map_v_oks m _) (by simp) hn hcm (by
      rw [hfl xs hag, List.length_append, List.length_map, List.length_map, List.length_drop, show cur.toList.length = cap from hsz]; omega)
    rw [Hp.del_set _ _ _ _ ((h.freshB hg).1.1)] at q2
    exact ⟨m', q1, q2, q3⟩
def sortS (l : List (List UInt8)) : List (List UInt8) := l.mergeSort leB
def sortI (l : List Int) : List Int := l.mergeSort leI
theorem acalls_sortedS {f g : FuncId} {kt T : TypeId} {hp : Hp} {b q : Nat} {es : List (Value × AV)} {V : List (List UInt8)} (hc : Callable P f) (hkt : P.underlying kt = some .string)
    (hrun : ∀ (b nn q : Nat) (D : DataW Unit) (w : World), w.ownsMap P kt anyR b nn D → Maps.size D ≤ maxLen → Maps.size D * 16 ≤ 140737488355328 → w.cell? ⟨q, 0, none⟩ = some (.map (some b)) →
      Calls P f #[.func (.func g) #[] #[.pointer (some ⟨q, 0, none⟩)]] w fun e w' => ∃ (v : Value) (ss : List (List UInt8)), e = .returned v ∧ ss.Perm (strKeys D) ∧ w'.ownsRow w.heap.size kt 1 v ss.length ((ss.mergeSort leB).map encStr) ∧ Go.RowKit.Below w.heap.size w w')
    (hq : hp.blk q = some (T, [.v (.map (some b))])) (hb : hp.mp b = some es) (hes : es.map (·.1) = V.map encStr) (hV : ∀ s ∈ V, s.length ≤ maxLen) (hn : V.length ≤ 4194304) :
    ACalls P f [.v (.func (.func g) #[] #[.pointer (some ⟨q, 0, none⟩)])] hp (fun r hp' => ∃ h, r = .lst 1 h ((sortS V).map fun s => .v (.string (bs s))) ∧ hp' = hp.setSp ((kt, 1, h) :: hp.sp)) :=
  ⟨hc, fun F w hv => by
    obtain ⟨hlo, m, hle, hhp, hok⟩ := hv
    obtain ⟨_, ⟨en, cl, hh, hl, hst⟩, _⟩ := hhp.mp b es hb
    have hks : en.toList.map (·.key) = V.map encStr := by
      rw [← hes]
      have := congrArg (List.map Prod.fst) hl
      simpa [List.map_map, Function.comp_def] using this
    obtain ⟨D, hD, hp1, hs⟩ := owns_strs hkt hh hst hks hV (by simp only [maxLen]; omega)
    have hcq : w.cell? ⟨q, 0, none⟩ = some (.map (some b)) := by
      have h2 := (hhp.blk q _ _ hq).2.1
      simp [World.cell?, h2, AV.vals, AV.val]
    refine (hrun b _ q D w hD (by rw [hs]; simp only [maxLen]; omega) (by rw [hs]; omega) hcq).mono ?_
    rintro e w' ⟨v, ss, rfl, hss, hrow, hbl⟩
    have hperm : ss.mergeSort leB = sortS V := mergeSort_of_perm (hss.trans hp1)
    have hlen : ss.length = ((sortS V).map encStr).length := by rw [← hperm, List.length_map, List.length_mergeSort]
    rw [hperm, hlen] at hrow
    obtain ⟨m', q1, q2, q3⟩ := row_new hhp hlo.bs (hhp.world hbl.block) (fun x hx => by obtain ⟨y, _, rfl⟩ := List.mem_map.1 hx; rfl) (fun x hx => by obtain ⟨y, _, rfl⟩ := List.mem_map.1 hx; rfl) hrow
    rw [List.map_map] at q3
    exact ⟨_, _, ⟨v, rfl, rfl⟩, rfl, hlo.grow hbl.os hbl.tape hbl.output hbl.size (fun k hk => hbl.block k (Nat.lt_of_lt_of_le hk hlo.bs)), m', Mem.le_trans hle q1, q2, q3, trivial⟩⟩
end
end Go.AL
/- A raw contract whose results lie in new memory: all new memory is published, frozen. -/
set_option linter.unusedVariables false
set_option linter.unusedSimpArgs false
namespace Go.AL
section
variable {P : Program}
/-- The published places, and all of a world's from a block on. -/
def Mem.from (m : Mem) (B : Nat) (w' : World) : Mem := fun b o => if b < B then m b o else w'.cell? ⟨b, o, none⟩
theorem HpOk.pubNew {base : Nat} {hp : Hp} {m : Mem} {w w' : World} (h : HpOk base hp m w) (hold : ∀ k, k < w.heap.size → w'.heap[k]? = w.heap[k]?) : HpOk base hp (m.from w.heap.size w') w' ∧ m.le (m.from w.heap.size w') := by
  have hle : m.le (m.from w.heap.size w') := fun b o x hx => by
    unfold Mem.from
    rw [if_pos (h.memLt hx)]; exact hx
  have h' := h.world hold
  refine ⟨⟨fun b o x hx => ?_, fun b T cs hb => ?_, fun b es hb => ?_, fun e sz hd hi => ?_, h.spd, fun g cs hg => ⟨(h.gl g cs hg).1.mono hle, AV.oks_mono hle _ (h.gl g cs hg).2⟩⟩, hle⟩
  · unfold Mem.from at hx
    split at hx
    · exact h'.mem b o x hx
    · exact hx
  · obtain ⟨h1, h2, h3, h4⟩ := h'.blk b T cs hb
    have hlt := heap_lt (h.blk b T cs hb).2.1
    exact ⟨h1, h2, AV.oks_mono hle _ h3, fun o => by unfold Mem.from; rw [if_pos hlt]; exact h4 o⟩
  · obtain ⟨h1, h2, h3⟩ := h'.mp b es hb
    exact ⟨h1, h2, AV.oks_mono hle _ h3⟩
  · obtain ⟨h1, h2⟩ := h'.sp e sz hd hi
    refine ⟨?_, h2⟩
    rcases h1 with h1 | ⟨b, n, cap, cur, e1, e2, e3, e4, e5, e6, e7⟩
    · exact .inl h1
    · have hlt : b < w.heap.size := by
        rcases (h.sp e sz hd hi).1 with q | ⟨b', _, _, _, q1, _, q3, _⟩
        · rw [e1] at q; cases q
        · rw [e1] at q1; cases q1; exact heap_lt q3
      exact .inr ⟨b, n, cap, cur, e1, e2, e3, e4, e5, e6, fun o ho => by unfold Mem.from; rw [if_pos hlt]; exact e7 o ho⟩
theorem acalls_new {f : FuncId} {args : List AV} {hp : Hp} {R : AV → Prop} (hc : Callable P f)
    (h : ∀ base m w, HpOk base hp m w → AV.oks m args → Calls P f (AV.vals args).toArray w (fun e w' => Go.RowKit.Below w.heap.size w w' ∧ ∃ r, R r ∧ e = .returned r.val ∧ ∀ m', m.le m' → (∀ b o x, w.heap.size ≤ b → w'.cell? ⟨b, o, none⟩ = some x → m' b o = some x) → r.ok m')) :
    ACalls P f args hp (fun r hp' => R r ∧ hp' = hp) :=
  ⟨hc, fun F w hv => by
    obtain ⟨hlo, m, hle, hhp, hok⟩ := hv
    refine (h F.base m w hhp hok).mono ?_
    rintro e w' ⟨hb, r, hR, rfl, hr⟩
    obtain ⟨q1, q2⟩ := hhp.pubNew hb.block
    exact ⟨r, hp, ⟨hR, rfl⟩, rfl, hlo.grow hb.os hb.tape hb.output hb.size (fun k hk => hb.block k (Nat.lt_of_lt_of_le hk hlo.bs)), m.from w.heap.size w', Mem.le_trans hle q2, q1,
      hr _ q2 (fun b o x hb2 hx => by unfold Mem.from; rw [if_neg (Nat.not_lt.2 hb2)]; exact hx), trivial⟩⟩
/-- The same, where all memory is lent. -/
theorem acalls_lendNew {f : FuncId} {args args' : List AV} {hp : Hp} {R : AV → Prop} (hv : AV.vals args' = AV.vals args)
    (hok : ∀ base m w, HpOk base hp m w → AV.oks m args → AV.oks (memOf w) args') (hc : Callable P f)
    (h : ∀ base m w, HpOk base hp m w → AV.oks (memOf w) args' → Calls P f (AV.vals args').toArray w (fun e w' => Go.RowKit.Below w.heap.size w w' ∧ ∃ r, R r ∧ e = .returned r.val ∧ ∀ m', m.le m' → (∀ b o x, w.heap.size ≤ b → w'.cell? ⟨b, o, none⟩ = some x → m' b o = some x) → r.ok m')) :
    ACalls P f args hp (fun r hp' => R r ∧ hp' = hp) :=
  acalls_new hc fun base m w hh ho => by rw [← hv]; exact h base m w hh (hok base m w hh ho)
end
end Go.AL
/- Regions that draw their order, by what each operation leaves: one obligation an operation, none an order. -/
set_option linter.unusedVariables false
set_option linter.unusedSimpArgs false
namespace Go.AL
section
variable {P : Program}
theorem AOp.mono {o : Oper} {K K' : St → Prop} {st : St} (h : AOp P o K st) (hk : ∀ st', K st' → K' st') : AOp P o K' st :=
  fun F a w hr K1 Q hK1 => h F a w hr K1 Q fun a' w' ⟨st', k, r⟩ => hK1 a' w' ⟨st', hk _ k, r⟩

/-- A state keeps what another says but for one slot. -/
structure Keeps (d : Nat) (st st' : St) : Prop where
  n : st'.n = st.n
  sl : ∀ s x, s ≠ d → st.sl s = some x → st'.sl s = some x
  hp : st.hp.le st'.hp

def depsB (o : Oper) : List Nat := (o.after.toList.filter fun e => Region.binds .any e).map (·.on)
/-- Each operation waits for earlier ones alone. -/
def ordB (l : List Oper) : Bool := (List.range l.length).all fun i => match l[i]? with | some o => (depsB o).all fun j => decide (j < i) | none => true
/-- What is said of the first operations (their slots, and what they wait for) is so; the last one, if there is one more, waits for all. -/
def infoB (l : List Oper) (I : List (Nat × List Nat)) : Bool :=
  ordB l && (decide (l.length = I.length) || (decide (l.length = I.length + 1) && match l[I.length]? with | some o => o.guard.isNone && (List.range I.length).all fun j => (depsB o).contains j | none => false)) &&
  (List.range I.length).all fun i => match l[i]?, I[i]? with
    | some o, some (d, D) => o.guard.isNone && (o.dst == some d) && D.all fun j => (depsB o).contains j && decide (j < I.length)
    | _, _ => false
def dstsB (I : List (Nat × List Nat)) : Bool := (I.map (·.1)).Nodup
def WI (I : List (Nat × List Nat)) (U : Nat → AV → Hp → Prop) (j : Nat) (st : St) : Prop := match I[j]? with
  | some (d, _) => ∃ x, st.sl d = some x ∧ U j x st.hp
  | none => True
def depsK (I : List (Nat × List Nat)) (U : Nat → AV → Hp → Prop) (st : St) : List Nat → Prop
  | [] => True
  | j :: D => WI I U j st ∧ depsK I U st D
def stepsK (P : Program) (I : List (Nat × List Nat)) (U : Nat → AV → Hp → Prop) (B : St → Prop) : Nat → List Oper → List (Nat × List Nat) → Prop
  | i, o :: l, (d, D) :: J => (∀ st, B st → depsK I U st D → AOp P o (fun st' => Keeps d st st' ∧ ∃ x, st'.sl d = some x ∧ U i x st'.hp) st) ∧ stepsK P I U B (i + 1) l J
  | _, _, [] => True
  | _, [], _ :: _ => False
def finK (P : Program) (K : St → Prop) (st : St) : List Oper → Prop
  | [] => K st
  | [o] => AOp P o K st
  | _ => False
theorem depsK_of {I : List (Nat × List Nat)} {U : Nat → AV → Hp → Prop} {st : St} : ∀ {D : List Nat}, (∀ j ∈ D, WI I U j st) → depsK I U st D
  | [], _ => trivial
  | j :: D, h => ⟨h j List.mem_cons_self, depsK_of fun k hk => h k (List.mem_cons_of_mem _ hk)⟩
theorem stepsK_at {I : List (Nat × List Nat)} {U : Nat → AV → Hp → Prop} {B : St → Prop} : ∀ {J : List (Nat × List Nat)} {l : List Oper} {i k : Nat} {o : Oper} {d : Nat} {D : List Nat}, stepsK P I U B i l J → l[k]? = some o → J[k]? = some (d, D) →
    ∀ st, B st → depsK I U st D → AOp P o (fun st' => Keeps d st st' ∧ ∃ x, st'.sl d = some x ∧ U (i + k) x st'.hp) st
  | [], _, _, _, _, _, _, _, _, h2 => by cases h2
  | _ :: _, [], _, _, _, _, _, _, h1, _ => by cases h1
  | (d', D') :: J, o' :: l, i, 0, o, d, D, h, h1, h2 => by
    simp only [List.getElem?_cons_zero, Option.some.injEq, Prod.mk.injEq] at h1 h2
    obtain ⟨rfl, rfl⟩ := h2
    subst h1
    exact h.1
  | (d', D') :: J, o' :: l, i, k + 1, o, d, D, h, h1, h2 => by
    simp only [List.getElem?_cons_succ] at h1 h2
    have := stepsK_at h.2 h1 h2
    rwa [Nat.add_assoc, Nat.add_comm 1 k] at this
theorem ready_mem {ops : Array Oper} {listed : Array Bool} {i : Nat} (h : i ∈ Region.ready .any ops listed) : i < ops.size ∧ listed.getD i true = false ∧ ∃ o, ops[i]? = some o ∧ ∀ j ∈ depsB o, listed.getD j false = true := by
  simp only [Region.ready, List.mem_filter, List.mem_range, Bool.and_eq_true, Bool.not_eq_true'] at h
  obtain ⟨h1, h2, h3⟩ := h
  refine ⟨h1, h2, ops[i], Array.getElem?_eq_getElem h1, fun j hj => ?_⟩
  rw [Array.getElem?_eq_getElem h1] at h3
  simp only [Option.map_some, Option.getD_some, Array.all_eq_true_iff_forall_mem, Bool.or_eq_true, Bool.not_eq_true'] at h3
  obtain ⟨e, he, rfl⟩ := List.mem_map.1 hj
  obtain ⟨he1, he2⟩ := List.mem_filter.1 he
  rcases h3 e (by simpa using he1) with h4 | h4
  · rw [h4] at he2; cases he2
  · exact h4
theorem ready_nil {l : List Oper} {listed : Array Bool} (ho : ordB l = true) (hr : Region.ready .any l.toArray listed = []) : ∀ i, i < l.length → listed.getD i true = true := by
  intro i
  induction i using Nat.strongRecOn with
  | _ i ih =>
    intro hi
    cases hl : listed.getD i true with
    | true => rfl
    | false =>
      exfalso
      have hm : i ∈ Region.ready .any l.toArray listed := by
        simp only [Region.ready, List.mem_filter, List.mem_range, Bool.and_eq_true, Bool.not_eq_true']
        refine ⟨by simpa using hi, hl, ?_⟩
        rw [show l.toArray[i]? = some l[i] from by simp [hi]]
        simp only [Option.map_some, Option.getD_some, Array.all_eq_true_iff_forall_mem, Bool.or_eq_true, Bool.not_eq_true']
        intro e he
        cases hb : Region.binds .any e with
        | false => exact .inl rfl
        | true =>
          right
          have hlt : e.on < i := by
            have h1 := List.all_eq_true.1 ho i (List.mem_range.2 hi)
            rw [List.getElem?_eq_getElem hi] at h1
            exact of_decide_eq_true (List.all_eq_true.1 h1 e.on (List.mem_map.2 ⟨e, List.mem_filter.2 ⟨by simpa using he, hb⟩, rfl⟩))
          have h2 := ih e.on hlt (by omega)
          unfold Array.getD at h2 ⊢
          split at h2
          · rename_i hh; rw [dif_pos hh]; exact h2
          · rename_i hh
            unfold Array.getD at hl
            split at hl
            · rename_i h3; exact absurd (Nat.lt_trans hlt h3) hh
            · cases hl
      rw [hr] at hm; cases hm
theorem getD_set {listed : Array Bool} {i j : Nat} (hi : i < listed.size) (d : Bool) : (listed.setIfInBounds i true).getD j d = if j = i then true else listed.getD j d := by
  unfold Array.getD
  simp only [Array.size_setIfInBounds]
  by_cases hj : j < listed.size
  · rw [dif_pos hj, dif_pos hj]
    by_cases e : j = i
    · subst e; simp
    · rw [if_neg e]
      have := Array.getElem_setIfInBounds_ne (xs := listed) (i := i) (a := true) (j := j) hj (Ne.symm e)
      simpa [Array.getInternal_eq_getElem] using this
  · rw [dif_neg hj, dif_neg hj]
    rw [if_neg (by omega)]
theorem getD_both {listed : Array Bool} {i : Nat} (hi : i < listed.size) : listed.getD i true = listed.getD i false := by
  unfold Array.getD; rw [dif_pos hi, dif_pos hi]
def unl (listed : Array Bool) : Nat := listed.toList.countP (fun b => !b)
theorem unl_set {listed : Array Bool} {i : Nat} (hi : i < listed.size) (h : listed.getD i true = false) : unl (listed.setIfInBounds i true) + 1 = unl listed := by
  have hl : listed.toList[i]'(by simpa using hi) = false := by
    unfold Array.getD at h
    rw [dif_pos hi] at h
    simpa [Array.getInternal_eq_getElem] using h
  unfold unl
  rw [Array.toList_setIfInBounds, List.countP_set (by simpa using hi), hl]
  have hp : 0 < listed.toList.countP (fun b => !b) := List.countP_pos_iff.2 ⟨false, by rw [← hl]; exact List.getElem_mem _, rfl⟩
  simp only [Bool.not_false, if_true, Bool.not_true, Bool.false_eq_true, if_false]
  omega
theorem unl_zero {listed : Array Bool} (h : unl listed = 0) {i : Nat} : listed.getD i true = true := by
  unfold unl at h
  rw [List.countP_eq_zero] at h
  unfold Array.getD
  split
  · rename_i hi
    have := h listed[i] (by simp)
    simpa [Array.getInternal_eq_getElem] using this
  · rfl
theorem aany_by {l : List Oper} {I : List (Nat × List Nat)} {U : Nat → AV → Hp → Prop} {B K : St → Prop} (hinf : infoB l I = true) (hds : dstsB I = true) (hU : ∀ j x hp hp', hp.le hp' → U j x hp → U j x hp')
    (hB : ∀ d st st', d ∈ I.map (·.1) → B st → Keeps d st st' → B st') (hstep : stepsK P I U B 0 l I) (hfin : ∀ st, B st → (∀ j, j < I.length → WI I U j st) → finK P K st (l.drop I.length)) :
    ∀ (fuel : Nat) (listed : Array Bool) (st : St), listed.size = l.length → unl listed ≤ fuel → (if listed.getD I.length false = true then K st ∧ (∀ j, j < l.length → listed.getD j false = true) else B st ∧ ∀ j, j < I.length → listed.getD j false = true → WI I U j st) →
      AAny P l.toArray K (fun _ => True) fuel listed st := by
  simp only [infoB, Bool.and_eq_true, Bool.or_eq_true] at hinf
  obtain ⟨⟨hord, hlast⟩, hall⟩ := hinf
  have hlen : l.length = I.length ∨ l.length = I.length + 1 := by
    rcases hlast with h | h
    · exact .inl (of_decide_eq_true h)
    · exact .inr (of_decide_eq_true h.1)
  intro fuel
  induction fuel with
  | zero =>
    intro listed st hsz hun hinv
    have hz : unl listed = 0 := by omega
    have hr : Region.ready .any l.toArray listed = [] := by
      cases hr : Region.ready .any l.toArray listed with
      | nil => rfl
      | cons i r =>
        have hm := ready_mem (ops := l.toArray) (listed := listed) (i := i) (by rw [hr]; exact List.mem_cons_self)
        rw [unl_zero hz] at hm
        cases hm.2.1
    refine aany_done hr ?_
    by_cases hl : listed.getD I.length false = true
    · rw [if_pos hl] at hinv; exact hinv.1
    · rw [if_neg hl] at hinv
      have hle : l.length = I.length := by
        rcases hlen with h | h
        · exact h
        · exfalso; apply hl; rw [← getD_both (by omega)]; exact unl_zero hz
      have hf := hfin st hinv.1 (fun j hj => hinv.2 j hj (by rw [← getD_both (by omega)]; exact unl_zero hz))
      rw [List.drop_of_length_le (by omega)] at hf; exact hf
  | succ fuel ih =>
    intro listed st hsz hun hinv
    cases hr : Region.ready .any l.toArray listed with
    | nil =>
      refine aany_done hr ?_
      have hal := ready_nil hord hr
      by_cases hl : listed.getD I.length false = true
      · rw [if_pos hl] at hinv; exact hinv.1
      · rw [if_neg hl] at hinv
        have hle : l.length = I.length := by
          rcases hlen with h | h
          · exact h
          · exfalso; apply hl; rw [← getD_both (by omega)]; exact hal _ (by omega)
        have hf := hfin st hinv.1 (fun j hj => hinv.2 j hj (by rw [← getD_both (by omega)]; exact hal _ (by omega)))
        rw [List.drop_of_length_le (by omega)] at hf; exact hf
    | cons i0 r0 =>
      refine aany_all hr (by simp) fun i hi => ?_
      rw [← hr] at hi
      obtain ⟨h1, h2, o, ho, hdep⟩ := ready_mem hi
      have hil : i < l.length := by simpa using h1
      have hol : l[i]? = some o := by simpa using ho
      have hund := unl_set (i := i) (by omega) h2
      have hnl : ¬ listed.getD I.length false = true := fun hl => by
        rw [if_pos hl] at hinv
        have := hinv.2 i hil
        rw [← getD_both (by omega), h2] at this; cases this
      rw [if_neg hnl] at hinv
      obtain ⟨hBst, hW⟩ := hinv
      by_cases hlt : i < I.length
      · have hi2 := List.all_eq_true.1 hall i (List.mem_range.2 hlt)
        obtain ⟨⟨d, D⟩, hI⟩ : ∃ x, I[i]? = some x := ⟨_, List.getElem?_eq_getElem hlt⟩
        rw [hol, hI] at hi2
        simp only [Bool.and_eq_true, Option.isNone_iff_eq_none, beq_iff_eq] at hi2
        obtain ⟨⟨hg, hd⟩, hD⟩ := hi2
        have hst := stepsK_at hstep hol hI st hBst (depsK_of fun k hk => by
          have := List.all_eq_true.1 hD k hk
          simp only [Bool.and_eq_true, List.contains_iff_mem, decide_eq_true_eq] at this
          exact hW k this.2 (hdep k this.1))
        refine astep_run ho (by simp [wants, hg]) (hst.mono ?_)
        rintro st' ⟨hk, x, hx, hux⟩
        refine ⟨trivial, ih _ _ (by simpa using hsz) (by omega) ?_⟩
        have hib : i < listed.size := by omega
        have hset : (listed.setIfInBounds i true).getD I.length false = listed.getD I.length false := by rw [getD_set hib, if_neg (by omega)]
        rw [hset, if_neg hnl]
        refine ⟨hB d st st' (List.mem_map.2 ⟨(d, D), List.mem_of_getElem? hI, rfl⟩) hBst hk, fun j hj hl => ?_⟩
        rw [getD_set hib] at hl
        by_cases e : j = i
        · subst e
          rw [Nat.zero_add] at hux
          simp only [WI, hI]
          exact ⟨x, hx, hux⟩
        · rw [if_neg e] at hl
          have hw := hW j hj hl
          obtain ⟨⟨d', D'⟩, hI'⟩ : ∃ x, I[j]? = some x := ⟨_, List.getElem?_eq_getElem hj⟩
          simp only [WI, hI'] at hw ⊢
          obtain ⟨y, hy, huy⟩ := hw
          have hne : d' ≠ d := fun e2 => by
            have hnd : (I.map (·.1)).Nodup := of_decide_eq_true hds
            have h3 : (I.map (·.1))[j]? = some d' := by rw [List.getElem?_map, hI']; rfl
            have h4 : (I.map (·.1))[i]? = some d := by rw [List.getElem?_map, hI]; rfl
            rw [e2] at h3
            have hj' := (List.getElem?_eq_some_iff.1 h3).1
            exact e ((List.getElem?_inj hj' hnd).1 (h3.trans h4.symm))
          exact ⟨y, hk.sl d' y hne hy, hU j y _ _ hk.hp huy⟩
      · have hei : i = I.length := by omega
        subst hei
        have hl1 : l.length = I.length + 1 := by omega
        rcases hlast with h' | h'
        · have := of_decide_eq_true h'; omega
        have h5 := h'.2
        rw [hol] at h5
        simp only [Bool.and_eq_true, Option.isNone_iff_eq_none] at h5
        obtain ⟨hg, hda⟩ := h5
        have hlj : ∀ j, j < I.length → listed.getD j false = true := fun j hj => by
          have := List.all_eq_true.1 hda j (List.mem_range.2 hj)
          exact hdep j (by simpa [List.contains_iff_mem] using this)
        have hf := hfin st hBst (fun j hj => hW j hj (hlj j hj))
        have hdr : l.drop I.length = [o] := by
          rw [List.drop_eq_getElem_cons hil, List.drop_of_length_le (by omega)]
          have := (List.getElem?_eq_some_iff.1 hol).2
          rw [this]
        rw [hdr] at hf
        have hf : AOp P o K st := hf
        refine astep_run ho (by simp [wants, hg]) (hf.mono fun st' hK => ⟨trivial, ih _ _ (by simpa using hsz) (by omega) ?_⟩)
        have hib : I.length < listed.size := by omega
        have hset : (listed.setIfInBounds I.length true).getD I.length false = true := by rw [getD_set hib, if_pos rfl]
        rw [hset, if_pos rfl]
        refine ⟨hK, fun j hj => ?_⟩
        rw [getD_set hib]
        by_cases e : j = I.length
        · rw [if_pos e]
        · rw [if_neg e]; exact hlj j (by omega)
/-- A region that draws its order, an operation at a time. -/
theorem draw_any {id : Nat} {l : List Oper} {Q : Exit → St → Prop} {st : St} (I : List (Nat × List Nat)) (U : Nat → AV → Hp → Prop) (B : St → Prop) (hm : P.follows .mixedOrders = true) (hinf : infoB l I = true) (hds : dstsB I = true)
    (hU : ∀ j x hp hp', hp.le hp' → U j x hp → U j x hp') (hB : ∀ d st st', d ∈ I.map (·.1) → B st → Keeps d st st' → B st') (h0 : B st) (hstep : stepsK P I U B 0 l I)
    (hfin : ∀ st, B st → (∀ j, j < I.length → WI I U j st) → finK P (Q .normal) st (l.drop I.length)) : AWp P (.region id l.toArray true) Q st := by
  refine aw_drawn (fun _ => True) hm trivial (aany_by hinf hds hU hB hstep hfin _ _ _ (by simp) ?_ ?_)
  · unfold unl
    refine Nat.le_trans List.countP_le_length ?_
    simp
  · have hf : ∀ j, (Array.replicate l.toArray.size false).getD j false = false := fun j => by
      unfold Array.getD; split <;> simp
    rw [if_neg (by rw [hf]; decide)]
    exact ⟨h0, fun j hj h => by rw [hf] at h; cases h⟩
end
end Go.AL

/- The reference of the layer 'term': shapes. -/
import Derived.Test.YtppoacgeiooppaaCT22
set_option linter.unusedSimpArgs false
set_option linter.unusedVariables false
set_option maxRecDepth 20000
set_option maxHeartbeats 4000000
namespace Go.Proofs.Ytppoacgeiooppaa
open Go.AL

structure ShapeG where
  name : Bool
  typ : Bool
  n : Bool
  args : Nat
  cls : Nat
def ShapeG.cs (s : ShapeG) : List AV := [.v (.bool s.name), .v (.bool s.typ), .v (.bool s.n), .v (.int .i64 s.args), .v (.int .i64 s.cls)]
def shapeS (ds : List DeclG) (pf : List Nat) (t : TermG) : Option ShapeG :=
  if t.op = 0 then some ⟨true, false, false, 0, 0⟩
  else if t.op = 1 then some ⟨false, false, true, 0, 0⟩
  else if t.op = 2 then (if (decide (t.n ≥ 0) && decide (t.n ≤ 6)) = true then some ⟨false, false, true, 2, 0⟩ else none)
  else if t.op = 3 then some ⟨false, false, false, 3, 0⟩
  else if t.op = 4 then (if (dataB ds t.ty false && hasN ds t.ty t.n) = true then some ⟨false, true, true, (xtorAt ds t.ty t.n).args.length, 0⟩ else none)
  else if t.op = 5 then (if dataB ds t.ty false = true then some ⟨false, true, false, 1, (xtorsOf ds t.ty).length⟩ else none)
  else if t.op = 6 then (if (dataB ds t.ty true && hasN ds t.ty t.n) = true then some ⟨false, true, true, 1 + prodN (xtorAt ds t.ty t.n), 0⟩ else none)
  else if t.op = 7 then (if dataB ds t.ty true = true then some ⟨false, true, false, 0, (xtorsOf ds t.ty).length⟩ else none)
  else if t.op = 8 then some ⟨true, true, false, 2, 0⟩
  else if t.op = 9 then (if (decide (t.n < 0) || decide (t.n ≥ (pf.length : Int))) = true then none else some ⟨false, false, true, (pf[t.n.toNat]?).getD 0, 0⟩)
  else if t.op = 10 then some ⟨false, false, false, 2, 0⟩
  else if t.op = 11 then some ⟨true, true, false, 1, 0⟩
  else if t.op = 12 then some ⟨true, true, false, 1, 0⟩
  else none
def ShapeR (s : Option ShapeG) (hp : Hp) (r : AV) (hp' : Hp) : Prop :=
  hp' = hp ∧ match s with
  | some s => r = .tup [.agg s.cs, .v (.bool true)]
  | none => ∃ s : ShapeG, r = .tup [.agg s.cs, .v (.bool false)]
theorem shR_some {o : Option ShapeG} {hp : Hp} {s : ShapeG} (h : o = some s) : ShapeR o hp (.tup [.agg s.cs, .v (.bool true)]) hp := by rw [h]; exact ⟨rfl, rfl⟩
theorem shR_none {o : Option ShapeG} {hp : Hp} (h : o = none) : ShapeR o hp (.tup [.agg [.v (.bool false), .v (.bool false), .v (.bool false), .v (.int .i64 0), .v (.int .i64 0)], .v (.bool false)]) hp := by rw [h]; exact ⟨rfl, ⟨false, false, false, 0, 0⟩, rfl⟩
theorem typ_wrap {l : List DeclG} {t : Int} (hl : l.length ≤ 8) (h1 : 1 ≤ t) (h2 : t ≤ l.length) : IntKind.i64.wrap (t - 1) = t - 1 := IntWalk.i64_in _ (by omega)
end Go.Proofs.Ytppoacgeiooppaa
/- The reference of the layer 'term': nodes. -/
set_option linter.unusedSimpArgs false
set_option linter.unusedVariables false
set_option maxRecDepth 20000
set_option maxHeartbeats 4000000
namespace Go.Proofs.Ytppoacgeiooppaa
open Go.AL

def nodeR (ds : List DeclG) (pf : List Nat) (V L : Bytes → Bool) (t : TermG) : Bool :=
  match shapeS ds pf t with
  | none => false
  | some s => (s.name || decide (t.name = [])) && ((s.typ || decide (t.ty = 0)) && ((s.n || decide (t.n = 0)) && (decide (t.args.length = s.args) && (decide (t.cls.length = s.cls) && ((!s.typ || typB ds t.ty) && ((t.cls.isEmpty || clsNames (xtorsOf ds t.ty) t.cls) &&
    (if t.op = 0 then V t.name else if t.op = 12 then L t.name else if t.op = 8 ∨ t.op = 11 then nameB t.name else true)))))))
theorem shape_cls {ds : List DeclG} {pf : List Nat} {t : TermG} {s : ShapeG} (h : shapeS ds pf t = some s) (hc : s.cls ≠ 0) : s.cls = (xtorsOf ds t.ty).length ∧ ∃ b, dataB ds t.ty b = true := by
  have go : ∀ (c : Prop) [Decidable c] (x : Option ShapeG), (if c then x else none) = some s → c ∧ x = some s := fun c _ x e => by
    by_cases hc : c
    · rw [if_pos hc] at e; exact ⟨hc, e⟩
    · rw [if_neg hc] at e; cases e
  by_cases h5 : t.op = 5
  · simp only [shapeS, h5] at h
    obtain ⟨h1, h2⟩ := go _ _ h
    injection h2 with h2; subst h2; exact ⟨rfl, _, h1⟩
  · by_cases h7 : t.op = 7
    · simp only [shapeS, h7] at h
      obtain ⟨h1, h2⟩ := go _ _ h
      injection h2 with h2; subst h2; exact ⟨rfl, _, h1⟩
    · exfalso
      apply hc
      simp only [shapeS, if_neg h5, if_neg h7] at h
      grind (splits := 20)
end Go.Proofs.Ytppoacgeiooppaa
/- The reference of the layer 'term': nodes are the same. -/
set_option linter.unusedSimpArgs false
set_option linter.unusedVariables false
set_option maxRecDepth 20000
set_option maxHeartbeats 4000000
namespace Go.Proofs.Ytppoacgeiooppaa
open Go.AL

theorem isEmpty_len {α : Type} (l : List α) : l.isEmpty = decide (l.length = 0) := by cases l <;> simp
theorem data_prodN {ds : List DeclG} (hs : sourceB ds = true) {t n : Int} (hd : dataB ds t false = true) (hn : hasN ds t n = true) : ∃ x, (xtorsOf ds t)[n.toNat]? = some x ∧ prodN x = x.args.length := by
  obtain ⟨h1, h2⟩ := data_ty hd
  obtain ⟨d, hdl⟩ := someAt ds (t - 1).toNat (by omega)
  have hxs : xtorsOf ds t = d.xtors := by simp only [xtorsOf, hdl, Option.map_some, Option.getD_some]
  have hh := hn
  simp only [hasN, hxs, Bool.and_eq_true, decide_eq_true_eq] at hh
  obtain ⟨x, hx⟩ := someAt d.xtors n.toNat (by omega)
  refine ⟨x, by rw [hxs]; exact hx, ?_⟩
  have hco : d.codata = false := by
    simp only [dataB, codataB, hdl, Option.map_some, Option.getD_some, Bool.and_eq_true, beq_iff_eq] at hd; exact hd.2
  simp only [sourceB, List.all_eq_true] at hs
  have := hs d (List.mem_of_getElem? hdl) x (List.mem_of_getElem? hx)
  rw [hco] at this
  simp only [sourceX, Bool.false_eq_true, if_false] at this
  rw [prodN, List.filter_eq_self.2 (by simpa using this)]
theorem has_at {ds : List DeclG} {t n : Int} (hn : hasN ds t n = true) : ∃ x, (xtorsOf ds t)[n.toNat]? = some x := by
  simp only [hasN, Bool.and_eq_true, decide_eq_true_eq] at hn
  exact someAt _ _ (by omega)
theorem data_typB {ds : List DeclG} {t : Int} {b : Bool} (h : dataB ds t b = true) : typB ds t = true := by
  obtain ⟨h1, h2⟩ := data_ty h
  simp [typB]; omega
theorem node_same {ds : List DeclG} (hs : sourceB ds = true) (hp8 : ds.length ≤ 8) {pf : List Nat} {V L : Bytes → Bool} {t : TermG} : nodeR ds pf V L t = nodeB ds pf V L t := by
  by_cases o0 : t.op = 0
  · rw [Bool.eq_iff_iff]; simp [nodeR, shapeS, nodeB, o0, isEmpty_len]; try grind
  by_cases o1 : t.op = 1
  · rw [Bool.eq_iff_iff]; simp [nodeR, shapeS, nodeB, o1, isEmpty_len]; try grind
  by_cases o2 : t.op = 2
  · rw [Bool.eq_iff_iff]; simp [nodeR, shapeS, nodeB, o2, isEmpty_len]; try grind
  by_cases o3 : t.op = 3
  · rw [Bool.eq_iff_iff]; simp [nodeR, shapeS, nodeB, o3, isEmpty_len]; try grind
  by_cases o8 : t.op = 8
  · rw [Bool.eq_iff_iff]; simp [nodeR, shapeS, nodeB, o8, isEmpty_len]; try grind
  by_cases o10 : t.op = 10
  · rw [Bool.eq_iff_iff]; simp [nodeR, shapeS, nodeB, o10, isEmpty_len]; try grind
  by_cases o11 : t.op = 11
  · rw [Bool.eq_iff_iff]; simp [nodeR, shapeS, nodeB, o11, isEmpty_len]; try grind
  by_cases o12 : t.op = 12
  · rw [Bool.eq_iff_iff]; simp [nodeR, shapeS, nodeB, o12, isEmpty_len]; try grind
  by_cases o9 : t.op = 9
  · cases hc : (decide (t.n < 0) || decide (t.n ≥ (pf.length : Int))) with
    | true =>
      have h1 : nodeR ds pf V L t = false := by simp only [nodeR, shapeS, o9, hc]; rfl
      rw [h1]
      symm
      rw [Bool.eq_false_iff]
      intro h
      simp [nodeB, o9] at h
      simp only [Bool.or_eq_true, decide_eq_true_eq] at hc
      have := (List.getElem?_eq_some_iff.1 h.2).1
      have := h.1.1.1.1
      omega
    | false =>
      simp only [Bool.or_eq_false_iff, decide_eq_false_iff_not] at hc
      obtain ⟨m, hm⟩ := someAt pf t.n.toNat (by omega)
      have h1 : shapeS ds pf t = some ⟨false, false, true, m, 0⟩ := by
        simp only [shapeS, o9, hm, Option.getD_some]
        rw [decide_eq_false hc.1, decide_eq_false hc.2]; rfl
      rw [Bool.eq_iff_iff]; simp [nodeR, h1, nodeB, o9, isEmpty_len, hm]; grind
  by_cases o4 : t.op = 4
  · cases hc : (dataB ds t.ty false && hasN ds t.ty t.n) with
    | false => simp [nodeR, shapeS, o4, hc, nodeB]
    | true =>
      have hc' := hc
      rw [Bool.and_eq_true] at hc'
      obtain ⟨x, hx, hp⟩ := data_prodN hs hc'.1 hc'.2
      have h1 : shapeS ds pf t = some ⟨false, true, true, x.args.length, 0⟩ := by simp only [shapeS, o4, hc, xtorAt, hx]; rfl
      rw [Bool.eq_iff_iff]; simp [nodeR, h1, nodeB, o4, isEmpty_len, hx, hp, hc'.1, hc'.2, data_typB hc'.1]; grind
  by_cases o5 : t.op = 5
  · cases hc : dataB ds t.ty false with
    | false => simp [nodeR, shapeS, o5, hc, nodeB]
    | true =>
      have h1 : shapeS ds pf t = some ⟨false, true, false, 1, (xtorsOf ds t.ty).length⟩ := by simp only [shapeS, o5, hc]; rfl
      have h2 : (decide (t.cls.length = (xtorsOf ds t.ty).length) && (t.cls.isEmpty || clsNames (xtorsOf ds t.ty) t.cls)) = clsNames (xtorsOf ds t.ty) t.cls := by
        by_cases e : (xtorsOf ds t.ty).length = t.cls.length
        · rw [decide_eq_true e.symm, Bool.true_and]
          cases hcl : t.cls with
          | nil => rw [hcl] at e; rw [List.eq_nil_of_length_eq_zero e, clsNames]; rfl
          | cons c r => rfl
        · rw [clsNames_len _ _ e, decide_eq_false (fun h => e h.symm), Bool.false_and]
      simp only [nodeR, h1, nodeB, o5, hc, data_typB hc]
      rw [← h2]
      rw [Bool.eq_iff_iff]; simp; try grind
  by_cases o6 : t.op = 6
  · cases hc : (dataB ds t.ty true && hasN ds t.ty t.n) with
    | false => simp [nodeR, shapeS, o6, hc, nodeB]
    | true =>
      have hc' := hc
      rw [Bool.and_eq_true] at hc'
      obtain ⟨x, hx⟩ := has_at hc'.2
      have h1 : shapeS ds pf t = some ⟨false, true, true, 1 + prodN x, 0⟩ := by simp only [shapeS, o6, hc, xtorAt, hx]; rfl
      rw [Bool.eq_iff_iff]; simp [nodeR, h1, nodeB, o6, isEmpty_len, hx, hc'.1, hc'.2, data_typB hc'.1]; grind
  by_cases o7 : t.op = 7
  · cases hc : dataB ds t.ty true with
    | false => simp [nodeR, shapeS, o7, hc, nodeB]
    | true =>
      have h1 : shapeS ds pf t = some ⟨false, true, false, 0, (xtorsOf ds t.ty).length⟩ := by simp only [shapeS, o7, hc]; rfl
      have h2 : (decide (t.cls.length = (xtorsOf ds t.ty).length) && (t.cls.isEmpty || clsNames (xtorsOf ds t.ty) t.cls)) = clsNames (xtorsOf ds t.ty) t.cls := by
        by_cases e : (xtorsOf ds t.ty).length = t.cls.length
        · rw [decide_eq_true e.symm, Bool.true_and]
          cases hcl : t.cls with
          | nil => rw [hcl] at e; rw [List.eq_nil_of_length_eq_zero e, clsNames]; rfl
          | cons c r => rfl
        · rw [clsNames_len _ _ e, decide_eq_false (fun h => e h.symm), Bool.false_and]
      simp only [nodeR, h1, nodeB, o7, hc, data_typB hc]
      rw [← h2]
      rw [Bool.eq_iff_iff]; simp; try grind
  · simp [nodeR, shapeS, nodeB, o0, o1, o2, o3, o4, o5, o6, o7, o8, o9, o10, o11, o12]
end Go.Proofs.Ytppoacgeiooppaa

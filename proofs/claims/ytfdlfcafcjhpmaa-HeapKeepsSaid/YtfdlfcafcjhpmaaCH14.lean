/- The reference for heaps: looking and placing. -/
import Derived.Test.YtfdlfcafcjhpmaaCH12
set_option linter.unusedSimpArgs false
set_option linter.unusedVariables false
set_option maxRecDepth 20000
set_option maxHeartbeats 4000000
namespace Go.Proofs.Ytfdlfcafcjhpmaa
open Go.AL

structure RObj where
  adr : Int
  tag : Int
  h : Value
  fs : List WordG
def RObj.cs (r : RObj) : List AV := [.v (.int .i64 r.adr), .v (.int .i64 r.tag), .lst 2 r.h (r.fs.map WordG.av)]
def RObj.av (r : RObj) : AV := .agg r.cs
def objsAV (h : Value) (l : List RObj) : AV := .lst 3 h (l.map RObj.av)
def modelC (size : Int) (h : Value) (l : List RObj) : List AV := [.v (.int .i64 size), objsAV h l]
def modelAV (size : Int) (h : Value) (l : List RObj) : AV := .agg (modelC size h l)
def RObj.bare (r : RObj) : Int × ObjG := (r.adr, ⟨r.tag, r.fs⟩)
def pairsF : Nat → List ObjG → List (Int × ObjG)
  | _, [] => []
  | k, o :: r => ((k : Int), o) :: pairsF (k + osz o) r
/-- The model holds these objects. -/
def MR (G : List ObjG) (l : List RObj) : Prop := l.map RObj.bare = pairsF 0 G
theorem pairsF_len (k : Nat) (G : List ObjG) : (pairsF k G).length = G.length := by
  induction G generalizing k with
  | nil => rfl
  | cons o r ih => simp [pairsF, ih]
theorem pairsF_app (k : Nat) (A B : List ObjG) : pairsF k (A ++ B) = pairsF k A ++ pairsF (k + endO A) B := by
  induction A generalizing k with
  | nil => simp [pairsF, endO]
  | cons o r ih => rw [List.cons_append, pairsF, pairsF, ih, endO_cons, Nat.add_assoc]; rfl
theorem pairsF_fst (k : Nat) (G : List ObjG) : (pairsF k G).map (·.1) = addrsF k G := by
  induction G generalizing k with
  | nil => rfl
  | cons o r ih => simp [pairsF, addrsF, ih]
theorem pairsF_snd (k : Nat) (G : List ObjG) : (pairsF k G).map (·.2) = G := by
  induction G generalizing k with
  | nil => rfl
  | cons o r ih => simp [pairsF, ih]
theorem mr_len {G : List ObjG} {l : List RObj} (h : MR G l) : l.length = G.length := by
  have := congrArg List.length h; rwa [List.length_map, pairsF_len] at this
theorem mr_adr {G : List ObjG} {l : List RObj} (h : MR G l) : l.map RObj.adr = addrsF 0 G := by
  rw [← pairsF_fst, ← h, List.map_map]; rfl
theorem mr_obj {G : List ObjG} {l : List RObj} (h : MR G l) : (l.map fun r => (⟨r.tag, r.fs⟩ : ObjG)) = G := by
  have := congrArg (List.map (·.2)) h
  rw [pairsF_snd, List.map_map] at this; exact this
theorem mr_snoc {G : List ObjG} {l : List RObj} (h : MR G l) (tag : Int) (hf : Value) (fs : List WordG) : MR (G ++ [⟨tag, fs⟩]) (l ++ [⟨(endO G : Nat), tag, hf, fs⟩]) := by
  simp only [MR, List.map_append, pairsF_app]
  rw [h]
  simp [pairsF, RObj.bare]

def findL : List RObj → Int → Nat → Int
  | [], _, _ => -1
  | r :: l, a, k => if decide (r.adr = a) = true then (k : Int) else findL l a (k + 1)
theorem findL_none {l : List RObj} {a : Int} (k : Nat) (h : a ∉ l.map RObj.adr) : findL l a k = -1 := by
  induction l generalizing k with
  | nil => rfl
  | cons r l ih =>
    simp only [List.map_cons, List.mem_cons, not_or] at h
    rw [findL, if_neg (by simpa using Ne.symm h.1)]
    exact ih _ h.2
theorem findL_some {l : List RObj} {a : Int} (k : Nat) (h : a ∈ l.map RObj.adr) : ∃ i r, findL l a k = ((k + i : Nat) : Int) ∧ l[i]? = some r ∧ r.adr = a := by
  induction l generalizing k with
  | nil => cases h
  | cons r l ih =>
    rw [findL]
    by_cases e : r.adr = a
    · exact ⟨0, r, by rw [if_pos (by simpa using e)]; rfl, rfl, e⟩
    · rw [if_neg (by simpa using e)]
      simp only [List.map_cons, List.mem_cons] at h
      obtain ⟨i, r', h1, h2, h3⟩ := ih (k + 1) (h.resolve_left (Ne.symm e))
      exact ⟨i + 1, r', by rw [h1]; congr 1; omega, h2, h3⟩
/-- What is found at an address. -/
theorem mr_find {G : List ObjG} {l : List RObj} (h : MR G l) {a : Int} {o : ObjG} (ho : objAt G a = some o) : ∃ i r, findL l a 0 = ((i : Nat) : Int) ∧ l[i]? = some r ∧ r.adr = a ∧ r.tag = o.tag ∧ r.fs = o.fs := by
  have hm : a ∈ l.map RObj.adr := by rw [mr_adr h]; exact objF_mem.1 (by rw [show objF 0 G a = objAt G a from rfl, ho]; rfl)
  obtain ⟨i, r, h1, h2, h3⟩ := findL_some 0 hm
  rw [Nat.zero_add] at h1
  refine ⟨i, r, h1, h2, h3, ?_⟩
  obtain ⟨A, B, rfl, e⟩ := objF_split ho
  rw [Nat.zero_add] at e
  have hp : (pairsF 0 (A ++ o :: B))[i]? = some (a, ⟨r.tag, r.fs⟩) := by
    rw [← h, List.getElem?_map, h2, ← h3]; rfl
  have hq : (pairsF 0 (A ++ o :: B))[A.length]? = some (a, o) := by
    rw [pairsF_app, List.getElem?_append_right (by rw [pairsF_len]; exact Nat.le_refl _), pairsF_len, e]
    simp [pairsF]
  have hi : i = A.length := by
    have hn := addrsF_nodup (A ++ o :: B) 0
    rw [← pairsF_fst] at hn
    have e1 : ((pairsF 0 (A ++ o :: B)).map (·.1))[i]? = some a := by rw [List.getElem?_map, hp]; rfl
    have e2 : ((pairsF 0 (A ++ o :: B)).map (·.1))[A.length]? = some a := by rw [List.getElem?_map, hq]; rfl
    have l1 := (List.getElem?_eq_some_iff.1 e1).1
    exact (List.getElem?_inj l1 hn).1 (e1.trans e2.symm)
  rw [hi] at hp
  rw [hq] at hp
  have := congrArg Prod.snd (Option.some.inj hp)
  simp only at this
  rw [this]
  exact ⟨rfl, rfl⟩
theorem mr_none {G : List ObjG} {l : List RObj} (h : MR G l) {a : Int} (ho : objAt G a = none) : findL l a 0 = -1 := by
  refine findL_none 0 fun hm => ?_
  rw [mr_adr h] at hm
  have := objF_mem.2 hm
  rw [show objF 0 G a = objAt G a from rfl, ho] at this; cases this
theorem mr_lt {G : List ObjG} {l : List RObj} (h : MR G l) (a : Int) : decide (findL l a 0 < 0) = !(objAt G a).isSome := by
  cases ho : objAt G a with
  | none => rw [mr_none h ho]; rfl
  | some o => obtain ⟨i, r, h1, _⟩ := mr_find h ho; rw [h1]; simp

theorem rfit_objs {h : Value} {l : List RObj} (hf : (objsAV h l).fit) : l.length ≤ maxLen := by
  simp only [objsAV, AV.fit, List.length_map] at hf; exact hf.1

theorem find_calls (size : Int) (ho : Value) (l : List RObj) (a : Int) (hp : Hp) : ACalls Try.prog 67 [modelAV size ho l, .v (.int .i64 a)] hp (fun r hp' => r = .v (.int .i64 (findL l a 0)) ∧ hp' = hp) := by
  refine acalls_fit (callable_of Try.func67 (by decide +kernel)) fun hfit => ?_
  have hl : l.length ≤ maxLen := by
    have := hfit.1
    simp only [modelAV, modelC, AV.fit, AV.fits] at this
    exact rfit_objs this.2.1
  refine acalls_of Try.func67 rfl (by decide +kernel) (awp_sound (mu := []) _ _ _ ?_)
  simp only [go_sem, Int.natCast_nonneg, Nat.reduceEqDiff, Nat.reduceAdd, Nat.reduceSub, Nat.reduceLT, Nat.reduceMul, Nat.reduceBEq, Nat.reduceLeDiff, ↓reduceIte, Int.toNat_natCast, Int.reduceToNat, Int.toNat_zero, Int.toNat_one, not_true_eq_false, false_or, or_self, Nat.reduceGT, Option.isSome_some, Bool.and_self, Nat.zero_add, Nat.mul_one, List.length_map, List.take_length, Int.cast_ofNat_Int, Int.reduceLE, Int.reduceLT, Int.reduceGE, Int.reduceGT, Int.reduceEq, Int.reduceNe, Int.le_refl, Nat.le_refl, Nat.reduceAdd, ne_eq, not_false_eq_true, reduceCtorEq, beq_true, beq_false, BEq.rfl, Bool.not_true, Bool.not_false, decide_true, decide_false, exists_prop, modelAV, modelC, objsAV]
  intro p
  refine aw_loopX 21 (fun k : Nat => [(1, .v (.int .i64 a)), (8, .lst 3 ho (l.map RObj.av)), (9, .v (.int .i64 l.length)), (10, .v (.int .i64 k))])
    (fun _ => hp) (fun k => k ≤ l.length ∧ findL (l.drop k) a k = findL l a 0) (fun k => l.length - k) 0 ⟨Nat.zero_le _, rfl⟩ (le_mkSl rfl (Hp.le_refl _) (by simp [go_sem])) ?_
  rintro k ⟨hk, hi⟩
  refine awp_sound (mu := []) _ _ _ ?_
  simp only [go_sem, Int.natCast_nonneg, Nat.reduceEqDiff, Nat.reduceAdd, Nat.reduceSub, Nat.reduceLT, Nat.reduceMul, Nat.reduceBEq, Nat.reduceLeDiff, ↓reduceIte, Int.toNat_natCast, Int.reduceToNat, Int.toNat_zero, Int.toNat_one, not_true_eq_false, false_or, or_self, Nat.reduceGT, Option.isSome_some, Bool.and_self, Nat.zero_add, Nat.mul_one, List.length_map, List.take_length, Int.cast_ofNat_Int, Int.reduceLE, Int.reduceLT, Int.reduceGE, Int.reduceGT, Int.reduceEq, Int.reduceNe, Int.le_refl, Nat.le_refl, Nat.reduceAdd, ne_eq, not_false_eq_true, reduceCtorEq, beq_true, beq_false, BEq.rfl, Bool.not_true, Bool.not_false, decide_true, decide_false, exists_prop]
  refine brK_mk (fun h1 => ?_) (fun h1 => ?_) <;> simp only [go_sem, Int.natCast_nonneg, Nat.reduceEqDiff, Nat.reduceAdd, Nat.reduceSub, Nat.reduceLT, Nat.reduceMul, Nat.reduceBEq, Nat.reduceLeDiff, ↓reduceIte, Int.toNat_natCast, Int.reduceToNat, Int.toNat_zero, Int.toNat_one, not_true_eq_false, false_or, or_self, Nat.reduceGT, Option.isSome_some, Bool.and_self, Nat.zero_add, Nat.mul_one, List.length_map, List.take_length, Int.cast_ofNat_Int, Int.reduceLE, Int.reduceLT, Int.reduceGE, Int.reduceGT, Int.reduceEq, Int.reduceNe, Int.le_refl, Nat.le_refl, Nat.reduceAdd, ne_eq, not_false_eq_true, reduceCtorEq, beq_true, beq_false, BEq.rfl, Bool.not_true, Bool.not_false, decide_true, decide_false, exists_prop, h1]
  · have hk' : k < l.length := by simpa using h1
    obtain ⟨r, hr⟩ := some_at' l k hk'
    have hd : l.drop k = r :: l.drop (k + 1) := by
      obtain ⟨hlt, rfl⟩ := List.getElem?_eq_some_iff.1 hr
      exact List.drop_eq_getElem_cons hlt
    rw [hd, findL] at hi
    simp only [go_sem, Int.natCast_nonneg, Nat.reduceEqDiff, Nat.reduceAdd, Nat.reduceSub, Nat.reduceLT, Nat.reduceMul, Nat.reduceBEq, Nat.reduceLeDiff, ↓reduceIte, Int.toNat_natCast, Int.reduceToNat, Int.toNat_zero, Int.toNat_one, not_true_eq_false, false_or, or_self, Nat.reduceGT, Option.isSome_some, Bool.and_self, Nat.zero_add, Nat.mul_one, List.length_map, List.take_length, Int.cast_ofNat_Int, Int.reduceLE, Int.reduceLT, Int.reduceGE, Int.reduceGT, Int.reduceEq, Int.reduceNe, Int.le_refl, Nat.le_refl, Nat.reduceAdd, ne_eq, not_false_eq_true, reduceCtorEq, beq_true, beq_false, BEq.rfl, Bool.not_true, Bool.not_false, decide_true, decide_false, exists_prop, h1, map_at' RObj.av _ _ _ hr, RObj.av, RObj.cs]
    intro v hv
    have hds := fun T cs => Hp.del_set _ _ T cs hv.1
    refine brK_mk (fun h2 => ?_) (fun h2 => ?_) <;> simp only [go_sem, Int.natCast_nonneg, Nat.reduceEqDiff, Nat.reduceAdd, Nat.reduceSub, Nat.reduceLT, Nat.reduceMul, Nat.reduceBEq, Nat.reduceLeDiff, ↓reduceIte, Int.toNat_natCast, Int.reduceToNat, Int.toNat_zero, Int.toNat_one, not_true_eq_false, false_or, or_self, Nat.reduceGT, Option.isSome_some, Bool.and_self, Nat.zero_add, Nat.mul_one, List.length_map, List.take_length, Int.cast_ofNat_Int, Int.reduceLE, Int.reduceLT, Int.reduceGE, Int.reduceGT, Int.reduceEq, Int.reduceNe, Int.le_refl, Nat.le_refl, Nat.reduceAdd, ne_eq, not_false_eq_true, reduceCtorEq, beq_true, beq_false, BEq.rfl, Bool.not_true, Bool.not_false, decide_true, decide_false, exists_prop, h2, hds]
    · rw [if_pos h2] at hi
      exact ret_same ⟨by rw [← hi], rfl⟩
    · rw [if_neg (by rw [h2]; simp)] at hi
      have hwu : IntKind.i64.wrap ((k : Int) + 1) = ((k + 1 : Nat) : Int) := by simp only [maxLen] at hl; exact IntWalk.i64_in _ (by omega)
      refine ⟨k + 1, by omega, ⟨by omega, hi⟩, le_mkSl rfl (Hp.le_refl _) ?_⟩
      simp [go_sem, hwu]
  · have e : l.length ≤ k := by simp at h1; omega
    rw [List.drop_of_length_le e] at hi
    exact ret_same ⟨by rw [← hi]; rfl, rfl⟩

def validR (l : List RObj) (ws : List WordG) : Bool := ws.all fun w => !(w.ref && decide (findL l w.n 0 < 0))
theorem mr_valid {G : List ObjG} {l : List RObj} (h : MR G l) (ws : List WordG) : validR l ws = validL (spOf G).s ws := by
  simp only [validR, validL, badW, mr_lt h]
  congr 1
  funext w
  rw [show (spOf G).s = sizesO G from rfl, has_obj]
theorem rvalid_calls (size : Int) (ho h : Value) (l : List RObj) (ws : List WordG) (hp : Hp) : ACalls Try.prog 27 [modelAV size ho l, wordsAV h ws] hp (fun r hp' => r = .v (.bool (validR l ws)) ∧ hp' = hp) := by
  refine acalls_fit (callable_of Try.func27 (by decide +kernel)) fun hfit => ?_
  have hl : ws.length ≤ maxLen := by have := hfit.2.1; simp only [wordsAV, AV.fit, List.length_map] at this; exact this.1
  refine acalls_of Try.func27 rfl (by decide +kernel) (awp_sound (mu := []) _ _ _ ?_)
  simp only [go_sem, Int.natCast_nonneg, Nat.reduceEqDiff, Nat.reduceAdd, Nat.reduceSub, Nat.reduceLT, Nat.reduceMul, Nat.reduceBEq, Nat.reduceLeDiff, ↓reduceIte, Int.toNat_natCast, Int.reduceToNat, Int.toNat_zero, Int.toNat_one, not_true_eq_false, false_or, or_self, Nat.reduceGT, Option.isSome_some, Bool.and_self, Nat.zero_add, Nat.mul_one, List.length_map, List.take_length, Int.cast_ofNat_Int, Int.reduceLE, Int.reduceLT, Int.reduceGE, Int.reduceGT, Int.reduceEq, Int.reduceNe, Int.le_refl, Nat.le_refl, Nat.reduceAdd, ne_eq, not_false_eq_true, reduceCtorEq, beq_true, beq_false, BEq.rfl, Bool.not_true, Bool.not_false, decide_true, decide_false, exists_prop, wordsAV, modelAV]
  intro p
  refine aw_loopX 23 (fun k : Nat => [(2, .ref p (modelC size ho l)), (7, .lst 2 h (ws.map WordG.av)), (8, .v (.int .i64 ws.length)), (9, .v (.int .i64 k))])
    (fun _ => hp) (fun k => k ≤ ws.length ∧ validR l (ws.drop k) = validR l ws) (fun k => ws.length - k) 0 ⟨Nat.zero_le _, rfl⟩ (le_mkSl rfl (Hp.le_refl _) (by simp [go_sem])) ?_
  rintro k ⟨hk, hi⟩
  refine awp_sound (mu := []) _ _ _ ?_
  simp only [go_sem, Int.natCast_nonneg, Nat.reduceEqDiff, Nat.reduceAdd, Nat.reduceSub, Nat.reduceLT, Nat.reduceMul, Nat.reduceBEq, Nat.reduceLeDiff, ↓reduceIte, Int.toNat_natCast, Int.reduceToNat, Int.toNat_zero, Int.toNat_one, not_true_eq_false, false_or, or_self, Nat.reduceGT, Option.isSome_some, Bool.and_self, Nat.zero_add, Nat.mul_one, List.length_map, List.take_length, Int.cast_ofNat_Int, Int.reduceLE, Int.reduceLT, Int.reduceGE, Int.reduceGT, Int.reduceEq, Int.reduceNe, Int.le_refl, Nat.le_refl, Nat.reduceAdd, ne_eq, not_false_eq_true, reduceCtorEq, beq_true, beq_false, BEq.rfl, Bool.not_true, Bool.not_false, decide_true, decide_false, exists_prop]
  refine brK_mk (fun h1 => ?_) (fun h1 => ?_) <;> simp only [go_sem, Int.natCast_nonneg, Nat.reduceEqDiff, Nat.reduceAdd, Nat.reduceSub, Nat.reduceLT, Nat.reduceMul, Nat.reduceBEq, Nat.reduceLeDiff, ↓reduceIte, Int.toNat_natCast, Int.reduceToNat, Int.toNat_zero, Int.toNat_one, not_true_eq_false, false_or, or_self, Nat.reduceGT, Option.isSome_some, Bool.and_self, Nat.zero_add, Nat.mul_one, List.length_map, List.take_length, Int.cast_ofNat_Int, Int.reduceLE, Int.reduceLT, Int.reduceGE, Int.reduceGT, Int.reduceEq, Int.reduceNe, Int.le_refl, Nat.le_refl, Nat.reduceAdd, ne_eq, not_false_eq_true, reduceCtorEq, beq_true, beq_false, BEq.rfl, Bool.not_true, Bool.not_false, decide_true, decide_false, exists_prop, h1]
  · have hk' : k < ws.length := by simpa using h1
    obtain ⟨w, hw⟩ := some_at' ws k hk'
    have hd : ws.drop k = w :: ws.drop (k + 1) := by
      obtain ⟨hlt, rfl⟩ := List.getElem?_eq_some_iff.1 hw
      exact List.drop_eq_getElem_cons hlt
    rw [hd, validR, List.all_cons] at hi
    have hwu : IntKind.i64.wrap ((k : Int) + 1) = ((k + 1 : Nat) : Int) := by simp only [maxLen] at hl; exact IntWalk.i64_in _ (by omega)
    simp only [go_sem, Int.natCast_nonneg, Nat.reduceEqDiff, Nat.reduceAdd, Nat.reduceSub, Nat.reduceLT, Nat.reduceMul, Nat.reduceBEq, Nat.reduceLeDiff, ↓reduceIte, Int.toNat_natCast, Int.reduceToNat, Int.toNat_zero, Int.toNat_one, not_true_eq_false, false_or, or_self, Nat.reduceGT, Option.isSome_some, Bool.and_self, Nat.zero_add, Nat.mul_one, List.length_map, List.take_length, Int.cast_ofNat_Int, Int.reduceLE, Int.reduceLT, Int.reduceGE, Int.reduceGT, Int.reduceEq, Int.reduceNe, Int.le_refl, Nat.le_refl, Nat.reduceAdd, ne_eq, not_false_eq_true, reduceCtorEq, beq_true, beq_false, BEq.rfl, Bool.not_true, Bool.not_false, decide_true, decide_false, exists_prop, h1, map_at' WordG.av _ _ _ hw, WordG.av, WordG.cs, modelC]
    intro v hv
    have hds := fun T cs => Hp.del_set _ _ T cs hv.1
    refine brK_mk (fun h2 => ?_) (fun h2 => ?_) <;> simp only [go_sem, Int.natCast_nonneg, Nat.reduceEqDiff, Nat.reduceAdd, Nat.reduceSub, Nat.reduceLT, Nat.reduceMul, Nat.reduceBEq, Nat.reduceLeDiff, ↓reduceIte, Int.toNat_natCast, Int.reduceToNat, Int.toNat_zero, Int.toNat_one, not_true_eq_false, false_or, or_self, Nat.reduceGT, Option.isSome_some, Bool.and_self, Nat.zero_add, Nat.mul_one, List.length_map, List.take_length, Int.cast_ofNat_Int, Int.reduceLE, Int.reduceLT, Int.reduceGE, Int.reduceGT, Int.reduceEq, Int.reduceNe, Int.le_refl, Nat.le_refl, Nat.reduceAdd, ne_eq, not_false_eq_true, reduceCtorEq, beq_true, beq_false, BEq.rfl, Bool.not_true, Bool.not_false, decide_true, decide_false, exists_prop, h2, hds]
    · refine callX_by (find_calls size ho l w.n _) ?_
      rintro r hp' ⟨rfl, rfl⟩
      simp only [go_sem, Int.natCast_nonneg, Nat.reduceEqDiff, Nat.reduceAdd, Nat.reduceSub, Nat.reduceLT, Nat.reduceMul, Nat.reduceBEq, Nat.reduceLeDiff, ↓reduceIte, Int.toNat_natCast, Int.reduceToNat, Int.toNat_zero, Int.toNat_one, not_true_eq_false, false_or, or_self, Nat.reduceGT, Option.isSome_some, Bool.and_self, Nat.zero_add, Nat.mul_one, List.length_map, List.take_length, Int.cast_ofNat_Int, Int.reduceLE, Int.reduceLT, Int.reduceGE, Int.reduceGT, Int.reduceEq, Int.reduceNe, Int.le_refl, Nat.le_refl, Nat.reduceAdd, ne_eq, not_false_eq_true, reduceCtorEq, beq_true, beq_false, BEq.rfl, Bool.not_true, Bool.not_false, decide_true, decide_false, exists_prop]
      refine brK_mk (fun h3 => ?_) (fun h3 => ?_) <;> simp only [go_sem, Int.natCast_nonneg, Nat.reduceEqDiff, Nat.reduceAdd, Nat.reduceSub, Nat.reduceLT, Nat.reduceMul, Nat.reduceBEq, Nat.reduceLeDiff, ↓reduceIte, Int.toNat_natCast, Int.reduceToNat, Int.toNat_zero, Int.toNat_one, not_true_eq_false, false_or, or_self, Nat.reduceGT, Option.isSome_some, Bool.and_self, Nat.zero_add, Nat.mul_one, List.length_map, List.take_length, Int.cast_ofNat_Int, Int.reduceLE, Int.reduceLT, Int.reduceGE, Int.reduceGT, Int.reduceEq, Int.reduceNe, Int.le_refl, Nat.le_refl, Nat.reduceAdd, ne_eq, not_false_eq_true, reduceCtorEq, beq_true, beq_false, BEq.rfl, Bool.not_true, Bool.not_false, decide_true, decide_false, exists_prop, h3]
      · rw [h2, h3] at hi
        exact ret_same ⟨by rw [← hi]; rfl, rfl⟩
      · rw [h2, h3] at hi
        refine ⟨k + 1, by omega, ⟨by omega, by rw [← hi]; rfl⟩, le_mkSl rfl (Hp.le_refl _) ?_⟩
        simp [go_sem, hwu, modelC]
    · rw [h2] at hi
      refine ⟨k + 1, by omega, ⟨by omega, by rw [← hi]; rfl⟩, le_mkSl rfl (Hp.le_refl _) ?_⟩
      simp [go_sem, hwu, modelC]
  · have e : ws.length ≤ k := by simp at h1; omega
    rw [List.drop_of_length_le e] at hi
    exact ret_same ⟨by rw [← hi]; rfl, rfl⟩

theorem cells_calls (n : Int) (h0 : 0 ≤ n) (h1 : n ≤ 4611686018427387904) (hp : Hp) : ACalls Try.prog 62 [.v (.int .i64 n)] hp (fun r hp' => r = .v (.int .i64 (1 + n)) ∧ hp' = hp) := by
  have w1 : IntKind.i64.wrap (1 + n) = 1 + n := IntWalk.i64_in _ (by omega)
  refine acalls_of Try.func62 rfl (by decide +kernel) (awp_sound (mu := []) _ _ _ ?_)
  simp only [go_sem, Int.natCast_nonneg, Nat.reduceEqDiff, Nat.reduceAdd, Nat.reduceSub, Nat.reduceLT, Nat.reduceMul, Nat.reduceBEq, Nat.reduceLeDiff, ↓reduceIte, Int.toNat_natCast, Int.reduceToNat, Int.toNat_zero, Int.toNat_one, not_true_eq_false, false_or, or_self, Nat.reduceGT, Option.isSome_some, Bool.and_self, Nat.zero_add, Nat.mul_one, List.length_map, List.take_length, Int.cast_ofNat_Int, Int.reduceLE, Int.reduceLT, Int.reduceGE, Int.reduceGT, Int.reduceEq, Int.reduceNe, Int.le_refl, Nat.le_refl, Nat.reduceAdd, ne_eq, not_false_eq_true, reduceCtorEq, beq_true, beq_false, BEq.rfl, Bool.not_true, Bool.not_false, decide_true, decide_false, exists_prop, w1]
  exact ret_same ⟨rfl, rfl⟩

theorem end_calls (size : Int) (ho : Value) {G : List ObjG} {l : List RObj} (h : MR G l) (hN : endO G ≤ 4194304) (hp : Hp) : ACalls Try.prog 100 [modelAV size ho l] hp (fun r hp' => r = .v (.int .i64 (endO G : Nat)) ∧ hp' = hp) := by
  have hlen := mr_len h
  have hlG := len_endO G
  refine acalls_of Try.func100 rfl (by decide +kernel) (awp_sound (mu := []) _ _ _ ?_)
  simp only [go_sem, Int.natCast_nonneg, Nat.reduceEqDiff, Nat.reduceAdd, Nat.reduceSub, Nat.reduceLT, Nat.reduceMul, Nat.reduceBEq, Nat.reduceLeDiff, ↓reduceIte, Int.toNat_natCast, Int.reduceToNat, Int.toNat_zero, Int.toNat_one, not_true_eq_false, false_or, or_self, Nat.reduceGT, Option.isSome_some, Bool.and_self, Nat.zero_add, Nat.mul_one, List.length_map, List.take_length, Int.cast_ofNat_Int, Int.reduceLE, Int.reduceLT, Int.reduceGE, Int.reduceGT, Int.reduceEq, Int.reduceNe, Int.le_refl, Nat.le_refl, Nat.reduceAdd, ne_eq, not_false_eq_true, reduceCtorEq, beq_true, beq_false, BEq.rfl, Bool.not_true, Bool.not_false, decide_true, decide_false, exists_prop, modelAV, modelC, objsAV]
  intro p
  refine brK_mk (fun h1 => ?_) (fun h1 => ?_) <;> simp only [go_sem, Int.natCast_nonneg, Nat.reduceEqDiff, Nat.reduceAdd, Nat.reduceSub, Nat.reduceLT, Nat.reduceMul, Nat.reduceBEq, Nat.reduceLeDiff, ↓reduceIte, Int.toNat_natCast, Int.reduceToNat, Int.toNat_zero, Int.toNat_one, not_true_eq_false, false_or, or_self, Nat.reduceGT, Option.isSome_some, Bool.and_self, Nat.zero_add, Nat.mul_one, List.length_map, List.take_length, Int.cast_ofNat_Int, Int.reduceLE, Int.reduceLT, Int.reduceGE, Int.reduceGT, Int.reduceEq, Int.reduceNe, Int.le_refl, Nat.le_refl, Nat.reduceAdd, ne_eq, not_false_eq_true, reduceCtorEq, beq_true, beq_false, BEq.rfl, Bool.not_true, Bool.not_false, decide_true, decide_false, exists_prop, h1]
  · have : G = [] := List.eq_nil_of_length_eq_zero (by simp at h1; rw [← hlen, h1]; rfl)
    subst this
    exact ret_same ⟨rfl, rfl⟩
  · have hpos : 0 < l.length := by
      rcases Nat.eq_zero_or_pos l.length with e | e
      · rw [e] at h1; simp at h1
      · exact e
    rcases List.eq_nil_or_concat G with rfl | ⟨A, o, rfl⟩
    · rw [List.length_nil] at hlen; omega
    rw [List.concat_eq_append] at *
    obtain ⟨r, hr⟩ := some_at' l (l.length - 1) (by omega)
    have hb : r.bare = (((endO A : Nat) : Int), o) := by
      have h2 : (l.map RObj.bare)[l.length - 1]? = some r.bare := by rw [List.getElem?_map, hr]; rfl
      rw [h, pairsF_app, List.getElem?_append_right (by rw [pairsF_len, hlen]; simp), pairsF_len, hlen] at h2
      simp [pairsF] at h2
      exact h2.symm
    simp only [RObj.bare, Prod.mk.injEq] at hb
    obtain ⟨hb1, rfl⟩ := hb
    rw [endO_app] at hN
    simp only [endO, List.map_cons, List.map_nil, List.sum_cons, List.sum_nil, osz] at hN
    have hlG2 : l.length ≤ 4194304 := by
      rw [hlen]; refine Nat.le_trans hlG ?_
      rw [endO_app]; simp only [endO, List.map_cons, List.map_nil, List.sum_cons, List.sum_nil, osz]; omega
    have w1 : IntKind.i64.wrap ((l.length : Int) - 1) = (l.length : Int) - 1 := IntWalk.i64_in _ (by omega)
    have w2 : ((l.length : Int) - 1).toNat = l.length - 1 := by omega
    simp only [go_sem, Int.natCast_nonneg, Nat.reduceEqDiff, Nat.reduceAdd, Nat.reduceSub, Nat.reduceLT, Nat.reduceMul, Nat.reduceBEq, Nat.reduceLeDiff, ↓reduceIte, Int.toNat_natCast, Int.reduceToNat, Int.toNat_zero, Int.toNat_one, not_true_eq_false, false_or, or_self, Nat.reduceGT, Option.isSome_some, Bool.and_self, Nat.zero_add, Nat.mul_one, List.length_map, List.take_length, Int.cast_ofNat_Int, Int.reduceLE, Int.reduceLT, Int.reduceGE, Int.reduceGT, Int.reduceEq, Int.reduceNe, Int.le_refl, Nat.le_refl, Nat.reduceAdd, ne_eq, not_false_eq_true, reduceCtorEq, beq_true, beq_false, BEq.rfl, Bool.not_true, Bool.not_false, decide_true, decide_false, exists_prop, w1, w2, map_at' RObj.av _ _ _ hr, RObj.av, RObj.cs]
    refine ⟨by omega, fun v hv => ?_⟩
    have hds := fun T cs => Hp.del_set _ _ T cs hv.1
    refine draw_by (mu := []) (fun _ => True) (.take 0 (.take 1 (.take 2 (.take 3 (.take 4 (.br 5 (.take 6 (.take 7 (.done))) (.stop))))))) (by decide +kernel) trivial (by decide +kernel) (by decide +kernel) ?_
    simp only [go_sem, Int.natCast_nonneg, Nat.reduceEqDiff, Nat.reduceAdd, Nat.reduceSub, Nat.reduceLT, Nat.reduceMul, Nat.reduceBEq, Nat.reduceLeDiff, ↓reduceIte, Int.toNat_natCast, Int.reduceToNat, Int.toNat_zero, Int.toNat_one, not_true_eq_false, false_or, or_self, Nat.reduceGT, Option.isSome_some, Bool.and_self, Nat.zero_add, Nat.mul_one, List.length_map, List.take_length, Int.cast_ofNat_Int, Int.reduceLE, Int.reduceLT, Int.reduceGE, Int.reduceGT, Int.reduceEq, Int.reduceNe, Int.le_refl, Nat.le_refl, Nat.reduceAdd, ne_eq, not_false_eq_true, reduceCtorEq, beq_true, beq_false, BEq.rfl, Bool.not_true, Bool.not_false, decide_true, decide_false, exists_prop, hds]
    refine callX_by (cells_calls r.fs.length (by omega) (by omega) _) ?_
    rintro r' hp' ⟨rfl, rfl⟩
    have w3 : IntKind.i64.wrap (r.adr + (1 + (r.fs.length : Int))) = r.adr + (1 + (r.fs.length : Int)) := IntWalk.i64_in _ (by rw [hb1]; simp only [endO]; omega)
    simp only [go_sem, Int.natCast_nonneg, Nat.reduceEqDiff, Nat.reduceAdd, Nat.reduceSub, Nat.reduceLT, Nat.reduceMul, Nat.reduceBEq, Nat.reduceLeDiff, ↓reduceIte, Int.toNat_natCast, Int.reduceToNat, Int.toNat_zero, Int.toNat_one, not_true_eq_false, false_or, or_self, Nat.reduceGT, Option.isSome_some, Bool.and_self, Nat.zero_add, Nat.mul_one, List.length_map, List.take_length, Int.cast_ofNat_Int, Int.reduceLE, Int.reduceLT, Int.reduceGE, Int.reduceGT, Int.reduceEq, Int.reduceNe, Int.le_refl, Nat.le_refl, Nat.reduceAdd, ne_eq, not_false_eq_true, reduceCtorEq, beq_true, beq_false, BEq.rfl, Bool.not_true, Bool.not_false, decide_true, decide_false, exists_prop, w3]
    exact ret_same ⟨by rw [endO_app, hb1]; simp [endO, osz]; omega, rfl⟩

theorem rcopy_calls (h : Value) (l : List WordG) (hl : l.length ≤ 4194304) (hp : Hp) : ACalls Try.prog 101 [wordsAV h l] hp (fun r hp' => (∃ h', r = wordsAV h' l) ∧ hp' = hp) := by
  refine acalls_of Try.func101 rfl (by decide +kernel) (awp_sound (mu := []) _ _ _ ?_)
  simp only [go_sem, Int.natCast_nonneg, Nat.reduceEqDiff, Nat.reduceAdd, Nat.reduceSub, Nat.reduceLT, Nat.reduceMul, Nat.reduceBEq, Nat.reduceLeDiff, ↓reduceIte, Int.toNat_natCast, Int.reduceToNat, Int.toNat_zero, Int.toNat_one, not_true_eq_false, false_or, or_self, Nat.reduceGT, Option.isSome_some, Bool.and_self, Nat.zero_add, Nat.mul_one, List.length_map, List.take_length, Int.cast_ofNat_Int, Int.reduceLE, Int.reduceLT, Int.reduceGE, Int.reduceGT, Int.reduceEq, Int.reduceNe, Int.le_refl, Nat.le_refl, Nat.reduceAdd, ne_eq, not_false_eq_true, reduceCtorEq, beq_true, beq_false, BEq.rfl, Bool.not_true, Bool.not_false, decide_true, decide_false, exists_prop, wordsAV]
  refine ⟨rfl, by simp, fun b => ?_⟩
  refine append_by (a := .lst 2 (.slice (some ⟨b, 0, none⟩) 0 0) []) (b := wordsAV h l) (l1 := []) (l2 := hp.sp) (h := .slice (some ⟨b, 0, none⟩) 0 0) (h2 := h) Try.k32 Try.s65 Try.y65 Try.z65 rfl (by decide)
    (by simp [go_sem]) (Cast.refl _) (by simp [go_sem, wordsAV]) (Cast.refl _) (by simp [go_sem]) (ones_word l) (by simp [maxLen]; omega) (by simp; omega) (by simp [go_sem]) (fun h' => ?_)
  simp only [go_sem, Int.natCast_nonneg, Nat.reduceEqDiff, Nat.reduceAdd, Nat.reduceSub, Nat.reduceLT, Nat.reduceMul, Nat.reduceBEq, Nat.reduceLeDiff, ↓reduceIte, Int.toNat_natCast, Int.reduceToNat, Int.toNat_zero, Int.toNat_one, not_true_eq_false, false_or, or_self, Nat.reduceGT, Option.isSome_some, Bool.and_self, Nat.zero_add, Nat.mul_one, List.length_map, List.take_length, Int.cast_ofNat_Int, Int.reduceLE, Int.reduceLT, Int.reduceGE, Int.reduceGT, Int.reduceEq, Int.reduceNe, Int.le_refl, Nat.le_refl, Nat.reduceAdd, ne_eq, not_false_eq_true, reduceCtorEq, beq_true, beq_false, BEq.rfl, Bool.not_true, Bool.not_false, decide_true, decide_false, exists_prop]
  exact ret_le (hp' := hp) (Hp.le_addSp _ _) ⟨⟨h', by simp⟩, rfl⟩
end Go.Proofs.Ytfdlfcafcjhpmaa
/- The reference for heaps: comparing, finding. -/
set_option linter.unusedSimpArgs false
set_option linter.unusedVariables false
set_option maxRecDepth 20000
set_option maxHeartbeats 4000000
namespace Go.Proofs.Ytfdlfcafcjhpmaa
open Go.AL

def sameL {α : Type} (f : α → α → Bool) : List α → List α → Bool
  | [], [] => true
  | x :: a, y :: b => f x y && sameL f a b
  | _, _ => false
theorem sameL_len {α : Type} (f : α → α → Bool) : ∀ (a b : List α), a.length ≠ b.length → sameL f a b = false
  | [], [], h => absurd rfl h
  | [], _ :: _, _ => rfl
  | _ :: _, [], _ => rfl
  | x :: a, y :: b, h => by rw [sameL, sameL_len f a b (by simpa using h), Bool.and_false]
theorem dropAt {α : Type} {l : List α} {k : Nat} {x : α} (h : l[k]? = some x) : l.drop k = x :: l.drop (k + 1) := by
  obtain ⟨hlt, rfl⟩ := List.getElem?_eq_some_iff.1 h
  exact List.drop_eq_getElem_cons hlt
theorem upW (k n : Nat) (h : k < n) (hn : n ≤ maxLen) : IntKind.i64.wrap ((k : Int) + 1) = ((k + 1 : Nat) : Int) := by
  simp only [maxLen] at hn; exact IntWalk.i64_in _ (by omega)
def eqW (x y : WordG) : Bool := decide (x.ref = y.ref) && decide (x.n = y.n)
theorem eqW_iff {x y : WordG} : eqW x y = true ↔ x = y := by
  cases x; cases y; simp [eqW]

theorem words_calls (ha hb : Value) (a b : List WordG) (hp : Hp) : ACalls Try.prog 30 [wordsAV ha a, wordsAV hb b] hp (fun r hp' => r = .v (.bool (sameL eqW a b)) ∧ hp' = hp) := by
  refine acalls_fit (callable_of Try.func30 (by decide +kernel)) fun hfit => ?_
  have hl : a.length ≤ maxLen := by have := hfit.1; simp only [wordsAV, AV.fit, List.length_map] at this; exact this.1
  refine acalls_of Try.func30 rfl (by decide +kernel) (awp_sound (mu := []) _ _ _ ?_)
  simp only [go_sem, Int.natCast_nonneg, Nat.reduceEqDiff, Nat.reduceAdd, Nat.reduceSub, Nat.reduceLT, Nat.reduceMul, Nat.reduceBEq, Nat.reduceLeDiff, ↓reduceIte, Int.toNat_natCast, Int.reduceToNat, Int.toNat_zero, Int.toNat_one, not_true_eq_false, false_or, or_self, Nat.reduceGT, Option.isSome_some, Bool.and_self, Nat.zero_add, Nat.mul_one, List.length_map, List.take_length, Int.cast_ofNat_Int, Int.reduceLE, Int.reduceLT, Int.reduceGE, Int.reduceGT, Int.reduceEq, Int.reduceNe, Int.le_refl, Nat.le_refl, Nat.reduceAdd, ne_eq, not_false_eq_true, reduceCtorEq, beq_true, beq_false, BEq.rfl, Bool.not_true, Bool.not_false, decide_true, decide_false, exists_prop, wordsAV]
  refine brK_mk (fun h1 => ?_) (fun h1 => ?_) <;> simp only [go_sem, Int.natCast_nonneg, Nat.reduceEqDiff, Nat.reduceAdd, Nat.reduceSub, Nat.reduceLT, Nat.reduceMul, Nat.reduceBEq, Nat.reduceLeDiff, ↓reduceIte, Int.toNat_natCast, Int.reduceToNat, Int.toNat_zero, Int.toNat_one, not_true_eq_false, false_or, or_self, Nat.reduceGT, Option.isSome_some, Bool.and_self, Nat.zero_add, Nat.mul_one, List.length_map, List.take_length, Int.cast_ofNat_Int, Int.reduceLE, Int.reduceLT, Int.reduceGE, Int.reduceGT, Int.reduceEq, Int.reduceNe, Int.le_refl, Nat.le_refl, Nat.reduceAdd, ne_eq, not_false_eq_true, reduceCtorEq, beq_true, beq_false, BEq.rfl, Bool.not_true, Bool.not_false, decide_true, decide_false, exists_prop, h1]
  · have hlen : a.length = b.length := by simp at h1; omega
    refine aw_loopX 26 (fun k : Nat => [(0, .lst 2 ha (a.map WordG.av)), (1, .lst 2 hb (b.map WordG.av)), (12, .v (.int .i64 a.length)), (13, .v (.int .i64 k))])
      (fun _ => hp) (fun k => k ≤ a.length ∧ sameL eqW (a.drop k) (b.drop k) = sameL eqW a b) (fun k => a.length - k) 0
      ⟨Nat.zero_le _, rfl⟩ (le_mkSl rfl (Hp.le_refl _) (by simp [go_sem])) ?_
    rintro k ⟨hk, hall⟩
    refine awp_sound (mu := []) _ _ _ ?_
    simp only [go_sem, Int.natCast_nonneg, Nat.reduceEqDiff, Nat.reduceAdd, Nat.reduceSub, Nat.reduceLT, Nat.reduceMul, Nat.reduceBEq, Nat.reduceLeDiff, ↓reduceIte, Int.toNat_natCast, Int.reduceToNat, Int.toNat_zero, Int.toNat_one, not_true_eq_false, false_or, or_self, Nat.reduceGT, Option.isSome_some, Bool.and_self, Nat.zero_add, Nat.mul_one, List.length_map, List.take_length, Int.cast_ofNat_Int, Int.reduceLE, Int.reduceLT, Int.reduceGE, Int.reduceGT, Int.reduceEq, Int.reduceNe, Int.le_refl, Nat.le_refl, Nat.reduceAdd, ne_eq, not_false_eq_true, reduceCtorEq, beq_true, beq_false, BEq.rfl, Bool.not_true, Bool.not_false, decide_true, decide_false, exists_prop]
    refine brK_mk (fun h => ?_) (fun h => ?_) <;> simp only [go_sem, Int.natCast_nonneg, Nat.reduceEqDiff, Nat.reduceAdd, Nat.reduceSub, Nat.reduceLT, Nat.reduceMul, Nat.reduceBEq, Nat.reduceLeDiff, ↓reduceIte, Int.toNat_natCast, Int.reduceToNat, Int.toNat_zero, Int.toNat_one, not_true_eq_false, false_or, or_self, Nat.reduceGT, Option.isSome_some, Bool.and_self, Nat.zero_add, Nat.mul_one, List.length_map, List.take_length, Int.cast_ofNat_Int, Int.reduceLE, Int.reduceLT, Int.reduceGE, Int.reduceGT, Int.reduceEq, Int.reduceNe, Int.le_refl, Nat.le_refl, Nat.reduceAdd, ne_eq, not_false_eq_true, reduceCtorEq, beq_true, beq_false, BEq.rfl, Bool.not_true, Bool.not_false, decide_true, decide_false, exists_prop, h]
    · have hk' : k < a.length := by simpa using h
      obtain ⟨x, hx⟩ := some_at' a k hk'
      obtain ⟨y, hy⟩ := some_at' b k (by omega)
      rw [dropAt hx, dropAt hy, sameL] at hall
      refine draw_by (mu := []) (fun _ => True) (.take 0 (.take 1 (.take 2 (.take 3 (.take 4 (.take 5 (.take 6 (.take 7 (.take 8 (.done)))))))))) (by decide +kernel) trivial (by decide +kernel) (by decide +kernel) ?_
      simp only [go_sem, Int.natCast_nonneg, Nat.reduceEqDiff, Nat.reduceAdd, Nat.reduceSub, Nat.reduceLT, Nat.reduceMul, Nat.reduceBEq, Nat.reduceLeDiff, ↓reduceIte, Int.toNat_natCast, Int.reduceToNat, Int.toNat_zero, Int.toNat_one, not_true_eq_false, false_or, or_self, Nat.reduceGT, Option.isSome_some, Bool.and_self, Nat.zero_add, Nat.mul_one, List.length_map, List.take_length, Int.cast_ofNat_Int, Int.reduceLE, Int.reduceLT, Int.reduceGE, Int.reduceGT, Int.reduceEq, Int.reduceNe, Int.le_refl, Nat.le_refl, Nat.reduceAdd, ne_eq, not_false_eq_true, reduceCtorEq, beq_true, beq_false, BEq.rfl, Bool.not_true, Bool.not_false, decide_true, decide_false, exists_prop, map_at' WordG.av _ _ _ hx, map_at' WordG.av _ _ _ hy, WordG.av, WordG.cs]
      refine brK_mk (fun h2 => ?_) (fun h2 => ?_) <;> simp only [go_sem, Int.natCast_nonneg, Nat.reduceEqDiff, Nat.reduceAdd, Nat.reduceSub, Nat.reduceLT, Nat.reduceMul, Nat.reduceBEq, Nat.reduceLeDiff, ↓reduceIte, Int.toNat_natCast, Int.reduceToNat, Int.toNat_zero, Int.toNat_one, not_true_eq_false, false_or, or_self, Nat.reduceGT, Option.isSome_some, Bool.and_self, Nat.zero_add, Nat.mul_one, List.length_map, List.take_length, Int.cast_ofNat_Int, Int.reduceLE, Int.reduceLT, Int.reduceGE, Int.reduceGT, Int.reduceEq, Int.reduceNe, Int.le_refl, Nat.le_refl, Nat.reduceAdd, ne_eq, not_false_eq_true, reduceCtorEq, beq_true, beq_false, BEq.rfl, Bool.not_true, Bool.not_false, decide_true, decide_false, exists_prop, h2]
      · refine ⟨k + 1, by omega, ⟨by omega, by rw [← hall, show eqW x y = true from h2, Bool.true_and]⟩, le_mkSl rfl (Hp.le_refl _) ?_⟩
        simp [go_sem, upW k _ hk' hl]
      · exact ret_same ⟨by rw [← hall, show eqW x y = false from h2, Bool.false_and], rfl⟩
    · have e : a.length ≤ k := by simp at h; omega
      rw [List.drop_of_length_le e, List.drop_of_length_le (hlen ▸ e)] at hall
      exact ret_same ⟨by rw [← hall]; rfl, rfl⟩
  · have hlen : a.length ≠ b.length := by simp at h1; omega
    exact ret_same ⟨by rw [sameL_len _ _ _ hlen], rfl⟩

theorem ints_calls (ha hb : Value) (a b : List Int) (hp : Hp) : ACalls Try.prog 20 [intsAV ha a, intsAV hb b] hp (fun r hp' => r = .v (.bool (sameL (fun x y => decide (x = y)) a b)) ∧ hp' = hp) := by
  refine acalls_fit (callable_of Try.func20 (by decide +kernel)) fun hfit => ?_
  have hl : a.length ≤ maxLen := by have := hfit.1; simp only [intsAV, AV.fit, List.length_map] at this; exact this.1
  refine acalls_of Try.func20 rfl (by decide +kernel) (awp_sound (mu := []) _ _ _ ?_)
  simp only [go_sem, Int.natCast_nonneg, Nat.reduceEqDiff, Nat.reduceAdd, Nat.reduceSub, Nat.reduceLT, Nat.reduceMul, Nat.reduceBEq, Nat.reduceLeDiff, ↓reduceIte, Int.toNat_natCast, Int.reduceToNat, Int.toNat_zero, Int.toNat_one, not_true_eq_false, false_or, or_self, Nat.reduceGT, Option.isSome_some, Bool.and_self, Nat.zero_add, Nat.mul_one, List.length_map, List.take_length, Int.cast_ofNat_Int, Int.reduceLE, Int.reduceLT, Int.reduceGE, Int.reduceGT, Int.reduceEq, Int.reduceNe, Int.le_refl, Nat.le_refl, Nat.reduceAdd, ne_eq, not_false_eq_true, reduceCtorEq, beq_true, beq_false, BEq.rfl, Bool.not_true, Bool.not_false, decide_true, decide_false, exists_prop, intsAV]
  refine brK_mk (fun h1 => ?_) (fun h1 => ?_) <;> simp only [go_sem, Int.natCast_nonneg, Nat.reduceEqDiff, Nat.reduceAdd, Nat.reduceSub, Nat.reduceLT, Nat.reduceMul, Nat.reduceBEq, Nat.reduceLeDiff, ↓reduceIte, Int.toNat_natCast, Int.reduceToNat, Int.toNat_zero, Int.toNat_one, not_true_eq_false, false_or, or_self, Nat.reduceGT, Option.isSome_some, Bool.and_self, Nat.zero_add, Nat.mul_one, List.length_map, List.take_length, Int.cast_ofNat_Int, Int.reduceLE, Int.reduceLT, Int.reduceGE, Int.reduceGT, Int.reduceEq, Int.reduceNe, Int.le_refl, Nat.le_refl, Nat.reduceAdd, ne_eq, not_false_eq_true, reduceCtorEq, beq_true, beq_false, BEq.rfl, Bool.not_true, Bool.not_false, decide_true, decide_false, exists_prop, h1]
  · have hlen : a.length = b.length := by simp at h1; omega
    refine aw_loopX 26 (fun k : Nat => [(0, .lst 1 ha (a.map iv)), (1, .lst 1 hb (b.map iv)), (12, .v (.int .i64 a.length)), (13, .v (.int .i64 k))])
      (fun _ => hp) (fun k => k ≤ a.length ∧ sameL (fun x y => decide (x = y)) (a.drop k) (b.drop k) = sameL (fun x y => decide (x = y)) a b) (fun k => a.length - k) 0
      ⟨Nat.zero_le _, rfl⟩ (le_mkSl rfl (Hp.le_refl _) (by simp [go_sem])) ?_
    rintro k ⟨hk, hall⟩
    refine awp_sound (mu := []) _ _ _ ?_
    simp only [go_sem, Int.natCast_nonneg, Nat.reduceEqDiff, Nat.reduceAdd, Nat.reduceSub, Nat.reduceLT, Nat.reduceMul, Nat.reduceBEq, Nat.reduceLeDiff, ↓reduceIte, Int.toNat_natCast, Int.reduceToNat, Int.toNat_zero, Int.toNat_one, not_true_eq_false, false_or, or_self, Nat.reduceGT, Option.isSome_some, Bool.and_self, Nat.zero_add, Nat.mul_one, List.length_map, List.take_length, Int.cast_ofNat_Int, Int.reduceLE, Int.reduceLT, Int.reduceGE, Int.reduceGT, Int.reduceEq, Int.reduceNe, Int.le_refl, Nat.le_refl, Nat.reduceAdd, ne_eq, not_false_eq_true, reduceCtorEq, beq_true, beq_false, BEq.rfl, Bool.not_true, Bool.not_false, decide_true, decide_false, exists_prop]
    refine brK_mk (fun h => ?_) (fun h => ?_) <;> simp only [go_sem, Int.natCast_nonneg, Nat.reduceEqDiff, Nat.reduceAdd, Nat.reduceSub, Nat.reduceLT, Nat.reduceMul, Nat.reduceBEq, Nat.reduceLeDiff, ↓reduceIte, Int.toNat_natCast, Int.reduceToNat, Int.toNat_zero, Int.toNat_one, not_true_eq_false, false_or, or_self, Nat.reduceGT, Option.isSome_some, Bool.and_self, Nat.zero_add, Nat.mul_one, List.length_map, List.take_length, Int.cast_ofNat_Int, Int.reduceLE, Int.reduceLT, Int.reduceGE, Int.reduceGT, Int.reduceEq, Int.reduceNe, Int.le_refl, Nat.le_refl, Nat.reduceAdd, ne_eq, not_false_eq_true, reduceCtorEq, beq_true, beq_false, BEq.rfl, Bool.not_true, Bool.not_false, decide_true, decide_false, exists_prop, h]
    · have hk' : k < a.length := by simpa using h
      obtain ⟨x, hx⟩ := some_at' a k hk'
      obtain ⟨y, hy⟩ := some_at' b k (by omega)
      rw [dropAt hx, dropAt hy, sameL] at hall
      refine draw_by (mu := []) (fun _ => True) (.take 0 (.take 1 (.take 2 (.take 3 (.take 4 (.take 5 (.take 6 (.take 7 (.take 8 (.done)))))))))) (by decide +kernel) trivial (by decide +kernel) (by decide +kernel) ?_
      simp only [go_sem, Int.natCast_nonneg, Nat.reduceEqDiff, Nat.reduceAdd, Nat.reduceSub, Nat.reduceLT, Nat.reduceMul, Nat.reduceBEq, Nat.reduceLeDiff, ↓reduceIte, Int.toNat_natCast, Int.reduceToNat, Int.toNat_zero, Int.toNat_one, not_true_eq_false, false_or, or_self, Nat.reduceGT, Option.isSome_some, Bool.and_self, Nat.zero_add, Nat.mul_one, List.length_map, List.take_length, Int.cast_ofNat_Int, Int.reduceLE, Int.reduceLT, Int.reduceGE, Int.reduceGT, Int.reduceEq, Int.reduceNe, Int.le_refl, Nat.le_refl, Nat.reduceAdd, ne_eq, not_false_eq_true, reduceCtorEq, beq_true, beq_false, BEq.rfl, Bool.not_true, Bool.not_false, decide_true, decide_false, exists_prop, map_at' iv _ _ _ hx, map_at' iv _ _ _ hy, iv]
      refine brK_mk (fun h2 => ?_) (fun h2 => ?_) <;> simp only [go_sem, Int.natCast_nonneg, Nat.reduceEqDiff, Nat.reduceAdd, Nat.reduceSub, Nat.reduceLT, Nat.reduceMul, Nat.reduceBEq, Nat.reduceLeDiff, ↓reduceIte, Int.toNat_natCast, Int.reduceToNat, Int.toNat_zero, Int.toNat_one, not_true_eq_false, false_or, or_self, Nat.reduceGT, Option.isSome_some, Bool.and_self, Nat.zero_add, Nat.mul_one, List.length_map, List.take_length, Int.cast_ofNat_Int, Int.reduceLE, Int.reduceLT, Int.reduceGE, Int.reduceGT, Int.reduceEq, Int.reduceNe, Int.le_refl, Nat.le_refl, Nat.reduceAdd, ne_eq, not_false_eq_true, reduceCtorEq, beq_true, beq_false, BEq.rfl, Bool.not_true, Bool.not_false, decide_true, decide_false, exists_prop, h2]
      · refine ⟨k + 1, by omega, ⟨by omega, by rw [← hall, h2, Bool.true_and]⟩, le_mkSl rfl (Hp.le_refl _) ?_⟩
        simp [go_sem, upW k _ hk' hl]
      · exact ret_same ⟨by rw [← hall, h2, Bool.false_and], rfl⟩
    · have e : a.length ≤ k := by simp at h; omega
      rw [List.drop_of_length_le e, List.drop_of_length_le (hlen ▸ e)] at hall
      exact ret_same ⟨by rw [← hall]; rfl, rfl⟩
  · have hlen : a.length ≠ b.length := by simp at h1; omega
    exact ret_same ⟨by rw [sameL_len _ _ _ hlen], rfl⟩

theorem fit_model {size : Int} {ho : Value} {l : List RObj} (h : (modelAV size ho l).fit) : l.length ≤ maxLen := by
  simp only [modelAV, modelC, AV.fit, AV.fits] at h
  exact rfit_objs h.2.1

/-! ### Places -/
def placeL : List Int → Int → Nat → Int
  | [], _, _ => -1
  | x :: l, a, k => if decide (x = a) = true then (k : Int) else placeL l a (k + 1)
theorem placeL_none {l : List Int} {a : Int} (k : Nat) (h : a ∉ l) : placeL l a k = -1 := by
  induction l generalizing k with
  | nil => rfl
  | cons x l ih =>
    simp only [List.mem_cons, not_or] at h
    rw [placeL, if_neg (by simpa using Ne.symm h.1)]
    exact ih _ h.2
theorem placeL_some {l : List Int} {a : Int} (k : Nat) (h : a ∈ l) : ∃ i, placeL l a k = ((k + i : Nat) : Int) ∧ l[i]? = some a ∧ l.takeWhile (fun b => b != a) = l.take i := by
  induction l generalizing k with
  | nil => cases h
  | cons x l ih =>
    rw [placeL]
    by_cases e : x = a
    · exact ⟨0, by rw [if_pos (by simpa using e)]; rfl, by simp [e], by simp [List.takeWhile, e]⟩
    · rw [if_neg (by simpa using e)]
      obtain ⟨i, h1, h2, h3⟩ := ih (k + 1) (by rcases List.mem_cons.1 h with h | h; exact absurd h.symm e; exact h)
      have hb : (x != a) = true := by simpa using e
      refine ⟨i + 1, by rw [h1]; congr 1; omega, h2, ?_⟩
      simp only [List.takeWhile_cons, hb, if_true, List.take_succ_cons, h3]
theorem placeL_lt (l : List Int) (a : Int) : decide (placeL l a 0 < 0) = !l.contains a := by
  by_cases h : a ∈ l
  · obtain ⟨i, h1, _⟩ := placeL_some 0 h
    rw [h1]; simp [h]
  · rw [placeL_none 0 h]; simp [h]
theorem place_calls (h : Value) (l : List Int) (a : Int) (hp : Hp) : ACalls Try.prog 90 [intsAV h l, .v (.int .i64 a)] hp (fun r hp' => r = .v (.int .i64 (placeL l a 0)) ∧ hp' = hp) := by
  refine acalls_fit (callable_of Try.func90 (by decide +kernel)) fun hfit => ?_
  have hl : l.length ≤ maxLen := by have := hfit.1; simp only [intsAV, AV.fit, List.length_map] at this; exact this.1
  refine acalls_of Try.func90 rfl (by decide +kernel) (awp_sound (mu := []) _ _ _ ?_)
  simp only [go_sem, Int.natCast_nonneg, Nat.reduceEqDiff, Nat.reduceAdd, Nat.reduceSub, Nat.reduceLT, Nat.reduceMul, Nat.reduceBEq, Nat.reduceLeDiff, ↓reduceIte, Int.toNat_natCast, Int.reduceToNat, Int.toNat_zero, Int.toNat_one, not_true_eq_false, false_or, or_self, Nat.reduceGT, Option.isSome_some, Bool.and_self, Nat.zero_add, Nat.mul_one, List.length_map, List.take_length, Int.cast_ofNat_Int, Int.reduceLE, Int.reduceLT, Int.reduceGE, Int.reduceGT, Int.reduceEq, Int.reduceNe, Int.le_refl, Nat.le_refl, Nat.reduceAdd, ne_eq, not_false_eq_true, reduceCtorEq, beq_true, beq_false, BEq.rfl, Bool.not_true, Bool.not_false, decide_true, decide_false, exists_prop, intsAV]
  refine aw_loopX 19 (fun k : Nat => [(1, .v (.int .i64 a)), (7, .lst 1 h (l.map iv)), (8, .v (.int .i64 l.length)), (9, .v (.int .i64 k))])
    (fun _ => hp) (fun k => k ≤ l.length ∧ placeL (l.drop k) a k = placeL l a 0) (fun k => l.length - k) 0 ⟨Nat.zero_le _, rfl⟩ (le_mkSl rfl (Hp.le_refl _) (by simp [go_sem])) ?_
  rintro k ⟨hk, hi⟩
  refine awp_sound (mu := []) _ _ _ ?_
  simp only [go_sem, Int.natCast_nonneg, Nat.reduceEqDiff, Nat.reduceAdd, Nat.reduceSub, Nat.reduceLT, Nat.reduceMul, Nat.reduceBEq, Nat.reduceLeDiff, ↓reduceIte, Int.toNat_natCast, Int.reduceToNat, Int.toNat_zero, Int.toNat_one, not_true_eq_false, false_or, or_self, Nat.reduceGT, Option.isSome_some, Bool.and_self, Nat.zero_add, Nat.mul_one, List.length_map, List.take_length, Int.cast_ofNat_Int, Int.reduceLE, Int.reduceLT, Int.reduceGE, Int.reduceGT, Int.reduceEq, Int.reduceNe, Int.le_refl, Nat.le_refl, Nat.reduceAdd, ne_eq, not_false_eq_true, reduceCtorEq, beq_true, beq_false, BEq.rfl, Bool.not_true, Bool.not_false, decide_true, decide_false, exists_prop]
  refine brK_mk (fun h1 => ?_) (fun h1 => ?_) <;> simp only [go_sem, Int.natCast_nonneg, Nat.reduceEqDiff, Nat.reduceAdd, Nat.reduceSub, Nat.reduceLT, Nat.reduceMul, Nat.reduceBEq, Nat.reduceLeDiff, ↓reduceIte, Int.toNat_natCast, Int.reduceToNat, Int.toNat_zero, Int.toNat_one, not_true_eq_false, false_or, or_self, Nat.reduceGT, Option.isSome_some, Bool.and_self, Nat.zero_add, Nat.mul_one, List.length_map, List.take_length, Int.cast_ofNat_Int, Int.reduceLE, Int.reduceLT, Int.reduceGE, Int.reduceGT, Int.reduceEq, Int.reduceNe, Int.le_refl, Nat.le_refl, Nat.reduceAdd, ne_eq, not_false_eq_true, reduceCtorEq, beq_true, beq_false, BEq.rfl, Bool.not_true, Bool.not_false, decide_true, decide_false, exists_prop, h1]
  · have hk' : k < l.length := by simpa using h1
    obtain ⟨x, hx⟩ := some_at' l k hk'
    rw [dropAt hx, placeL] at hi
    simp only [go_sem, Int.natCast_nonneg, Nat.reduceEqDiff, Nat.reduceAdd, Nat.reduceSub, Nat.reduceLT, Nat.reduceMul, Nat.reduceBEq, Nat.reduceLeDiff, ↓reduceIte, Int.toNat_natCast, Int.reduceToNat, Int.toNat_zero, Int.toNat_one, not_true_eq_false, false_or, or_self, Nat.reduceGT, Option.isSome_some, Bool.and_self, Nat.zero_add, Nat.mul_one, List.length_map, List.take_length, Int.cast_ofNat_Int, Int.reduceLE, Int.reduceLT, Int.reduceGE, Int.reduceGT, Int.reduceEq, Int.reduceNe, Int.le_refl, Nat.le_refl, Nat.reduceAdd, ne_eq, not_false_eq_true, reduceCtorEq, beq_true, beq_false, BEq.rfl, Bool.not_true, Bool.not_false, decide_true, decide_false, exists_prop, h1, map_at' iv _ _ _ hx, iv]
    refine brK_mk (fun h2 => ?_) (fun h2 => ?_) <;> simp only [go_sem, Int.natCast_nonneg, Nat.reduceEqDiff, Nat.reduceAdd, Nat.reduceSub, Nat.reduceLT, Nat.reduceMul, Nat.reduceBEq, Nat.reduceLeDiff, ↓reduceIte, Int.toNat_natCast, Int.reduceToNat, Int.toNat_zero, Int.toNat_one, not_true_eq_false, false_or, or_self, Nat.reduceGT, Option.isSome_some, Bool.and_self, Nat.zero_add, Nat.mul_one, List.length_map, List.take_length, Int.cast_ofNat_Int, Int.reduceLE, Int.reduceLT, Int.reduceGE, Int.reduceGT, Int.reduceEq, Int.reduceNe, Int.le_refl, Nat.le_refl, Nat.reduceAdd, ne_eq, not_false_eq_true, reduceCtorEq, beq_true, beq_false, BEq.rfl, Bool.not_true, Bool.not_false, decide_true, decide_false, exists_prop, h2]
    · rw [if_pos h2] at hi
      exact ret_same ⟨by rw [← hi], rfl⟩
    · rw [if_neg (by rw [h2]; simp)] at hi
      refine ⟨k + 1, by omega, ⟨by omega, hi⟩, le_mkSl rfl (Hp.le_refl _) ?_⟩
      simp [go_sem, upW k _ hk' hl]
  · have e : l.length ≤ k := by simp at h1; omega
    rw [List.drop_of_length_le e] at hi
    exact ret_same ⟨by rw [← hi]; rfl, rfl⟩

theorem foundL_len : ∀ (l : List WordG) (L : List Int), (foundL L l).length ≤ L.length + l.length
  | [], L => Nat.le_refl _
  | w :: r, L => by
    rw [foundL]
    refine Nat.le_trans (foundL_len r _) ?_
    split <;> simp <;> omega
theorem found_calls {h : Value} {L : List Int} {hp : Hp} {l2 : List (TypeId × Nat × Value)} (hsp : hp.sp = (3, 1, h) :: l2) (hw : Value) (ws : List WordG) (hlen : L.length + ws.length ≤ 17592186044416) :
    ACalls Try.prog 71 [intsAV h L, wordsAV hw ws] hp (fun r hp' => ∃ h', r = intsAV h' (foundL L ws) ∧ hp' = hp.setSp ((3, 1, h') :: l2)) := by
  refine acalls_of Try.func71 rfl (by decide +kernel) (awp_sound (mu := []) _ _ _ ?_)
  simp only [go_sem, Int.natCast_nonneg, Nat.reduceEqDiff, Nat.reduceAdd, Nat.reduceSub, Nat.reduceLT, Nat.reduceMul, Nat.reduceBEq, Nat.reduceLeDiff, ↓reduceIte, Int.toNat_natCast, Int.reduceToNat, Int.toNat_zero, Int.toNat_one, not_true_eq_false, false_or, or_self, Nat.reduceGT, Option.isSome_some, Bool.and_self, Nat.zero_add, Nat.mul_one, List.length_map, List.take_length, Int.cast_ofNat_Int, Int.reduceLE, Int.reduceLT, Int.reduceGE, Int.reduceGT, Int.reduceEq, Int.reduceNe, Int.le_refl, Nat.le_refl, Nat.reduceAdd, ne_eq, not_false_eq_true, reduceCtorEq, beq_true, beq_false, BEq.rfl, Bool.not_true, Bool.not_false, decide_true, decide_false, exists_prop, intsAV, wordsAV]
  refine aw_loopX 29 (fun x : Nat × Value => [(0, intsAV x.2 (foundL L (ws.take x.1))), (7, .lst 2 hw (ws.map WordG.av)), (8, .v (.int .i64 ws.length)), (9, .v (.int .i64 x.1))])
    (fun x => hp.setSp ((3, 1, x.2) :: l2)) (fun x => x.1 ≤ ws.length) (fun x => ws.length - x.1) (0, h) (Nat.zero_le _) (le_mkSl rfl (by simp only [go_sem, Int.natCast_nonneg, Nat.reduceEqDiff, Nat.reduceAdd, Nat.reduceSub, Nat.reduceLT, Nat.reduceMul, Nat.reduceBEq, Nat.reduceLeDiff, ↓reduceIte, Int.toNat_natCast, Int.reduceToNat, Int.toNat_zero, Int.toNat_one, not_true_eq_false, false_or, or_self, Nat.reduceGT, Option.isSome_some, Bool.and_self, Nat.zero_add, Nat.mul_one, List.length_map, List.take_length, Int.cast_ofNat_Int, Int.reduceLE, Int.reduceLT, Int.reduceGE, Int.reduceGT, Int.reduceEq, Int.reduceNe, Int.le_refl, Nat.le_refl, Nat.reduceAdd, ne_eq, not_false_eq_true, reduceCtorEq, beq_true, beq_false, BEq.rfl, Bool.not_true, Bool.not_false, decide_true, decide_false, exists_prop, ← hsp]; exact Hp.le_refl _) (by simp [go_sem, intsAV, foundL])) ?_
  rintro ⟨k, hk0⟩ hk
  simp only at hk
  refine awp_sound (mu := []) _ _ _ ?_
  simp only [go_sem, Int.natCast_nonneg, Nat.reduceEqDiff, Nat.reduceAdd, Nat.reduceSub, Nat.reduceLT, Nat.reduceMul, Nat.reduceBEq, Nat.reduceLeDiff, ↓reduceIte, Int.toNat_natCast, Int.reduceToNat, Int.toNat_zero, Int.toNat_one, not_true_eq_false, false_or, or_self, Nat.reduceGT, Option.isSome_some, Bool.and_self, Nat.zero_add, Nat.mul_one, List.length_map, List.take_length, Int.cast_ofNat_Int, Int.reduceLE, Int.reduceLT, Int.reduceGE, Int.reduceGT, Int.reduceEq, Int.reduceNe, Int.le_refl, Nat.le_refl, Nat.reduceAdd, ne_eq, not_false_eq_true, reduceCtorEq, beq_true, beq_false, BEq.rfl, Bool.not_true, Bool.not_false, decide_true, decide_false, exists_prop, intsAV]
  refine brK_mk (fun h1 => ?_) (fun h1 => ?_) <;> simp only [go_sem, Int.natCast_nonneg, Nat.reduceEqDiff, Nat.reduceAdd, Nat.reduceSub, Nat.reduceLT, Nat.reduceMul, Nat.reduceBEq, Nat.reduceLeDiff, ↓reduceIte, Int.toNat_natCast, Int.reduceToNat, Int.toNat_zero, Int.toNat_one, not_true_eq_false, false_or, or_self, Nat.reduceGT, Option.isSome_some, Bool.and_self, Nat.zero_add, Nat.mul_one, List.length_map, List.take_length, Int.cast_ofNat_Int, Int.reduceLE, Int.reduceLT, Int.reduceGE, Int.reduceGT, Int.reduceEq, Int.reduceNe, Int.le_refl, Nat.le_refl, Nat.reduceAdd, ne_eq, not_false_eq_true, reduceCtorEq, beq_true, beq_false, BEq.rfl, Bool.not_true, Bool.not_false, decide_true, decide_false, exists_prop, h1]
  · have hk' : k < ws.length := by simpa using h1
    obtain ⟨w, hw'⟩ := some_at' ws k hk'
    have htk : ws.take (k + 1) = ws.take k ++ [w] := by rw [List.take_add_one, hw']; rfl
    have hst := foundL_snoc (ws.take k) L w
    rw [← htk] at hst
    have hln := foundL_len (ws.take k) L
    have hlt : (ws.take k).length = k := by simp; omega
    have hwu : IntKind.i64.wrap ((k : Int) + 1) = ((k + 1 : Nat) : Int) := IntWalk.i64_in _ (by omega)
    simp only [go_sem, Int.natCast_nonneg, Nat.reduceEqDiff, Nat.reduceAdd, Nat.reduceSub, Nat.reduceLT, Nat.reduceMul, Nat.reduceBEq, Nat.reduceLeDiff, ↓reduceIte, Int.toNat_natCast, Int.reduceToNat, Int.toNat_zero, Int.toNat_one, not_true_eq_false, false_or, or_self, Nat.reduceGT, Option.isSome_some, Bool.and_self, Nat.zero_add, Nat.mul_one, List.length_map, List.take_length, Int.cast_ofNat_Int, Int.reduceLE, Int.reduceLT, Int.reduceGE, Int.reduceGT, Int.reduceEq, Int.reduceNe, Int.le_refl, Nat.le_refl, Nat.reduceAdd, ne_eq, not_false_eq_true, reduceCtorEq, beq_true, beq_false, BEq.rfl, Bool.not_true, Bool.not_false, decide_true, decide_false, exists_prop, h1, map_at' WordG.av _ _ _ hw', WordG.av, WordG.cs]
    intro v hv
    have hds := fun T cs => Hp.del_set _ _ T cs hv.1
    refine brK_mk (fun h2 => ?_) (fun h2 => ?_) <;> simp only [go_sem, Int.natCast_nonneg, Nat.reduceEqDiff, Nat.reduceAdd, Nat.reduceSub, Nat.reduceLT, Nat.reduceMul, Nat.reduceBEq, Nat.reduceLeDiff, ↓reduceIte, Int.toNat_natCast, Int.reduceToNat, Int.toNat_zero, Int.toNat_one, not_true_eq_false, false_or, or_self, Nat.reduceGT, Option.isSome_some, Bool.and_self, Nat.zero_add, Nat.mul_one, List.length_map, List.take_length, Int.cast_ofNat_Int, Int.reduceLE, Int.reduceLT, Int.reduceGE, Int.reduceGT, Int.reduceEq, Int.reduceNe, Int.le_refl, Nat.le_refl, Nat.reduceAdd, ne_eq, not_false_eq_true, reduceCtorEq, beq_true, beq_false, BEq.rfl, Bool.not_true, Bool.not_false, decide_true, decide_false, exists_prop, h2, hds]
    · refine callX_by (place_calls hk0 (foundL L (ws.take k)) w.n _) ?_
      rintro r hp' ⟨rfl, rfl⟩
      simp only [go_sem, Int.natCast_nonneg, Nat.reduceEqDiff, Nat.reduceAdd, Nat.reduceSub, Nat.reduceLT, Nat.reduceMul, Nat.reduceBEq, Nat.reduceLeDiff, ↓reduceIte, Int.toNat_natCast, Int.reduceToNat, Int.toNat_zero, Int.toNat_one, not_true_eq_false, false_or, or_self, Nat.reduceGT, Option.isSome_some, Bool.and_self, Nat.zero_add, Nat.mul_one, List.length_map, List.take_length, Int.cast_ofNat_Int, Int.reduceLE, Int.reduceLT, Int.reduceGE, Int.reduceGT, Int.reduceEq, Int.reduceNe, Int.le_refl, Nat.le_refl, Nat.reduceAdd, ne_eq, not_false_eq_true, reduceCtorEq, beq_true, beq_false, BEq.rfl, Bool.not_true, Bool.not_false, decide_true, decide_false, exists_prop, placeL_lt]
      refine brK_mk (fun h3 => ?_) (fun h3 => ?_) <;> simp only [go_sem, Int.natCast_nonneg, Nat.reduceEqDiff, Nat.reduceAdd, Nat.reduceSub, Nat.reduceLT, Nat.reduceMul, Nat.reduceBEq, Nat.reduceLeDiff, ↓reduceIte, Int.toNat_natCast, Int.reduceToNat, Int.toNat_zero, Int.toNat_one, not_true_eq_false, false_or, or_self, Nat.reduceGT, Option.isSome_some, Bool.and_self, Nat.zero_add, Nat.mul_one, List.length_map, List.take_length, Int.cast_ofNat_Int, Int.reduceLE, Int.reduceLT, Int.reduceGE, Int.reduceGT, Int.reduceEq, Int.reduceNe, Int.le_refl, Nat.le_refl, Nat.reduceAdd, ne_eq, not_false_eq_true, reduceCtorEq, beq_true, beq_false, BEq.rfl, Bool.not_true, Bool.not_false, decide_true, decide_false, exists_prop, h3, hds]
      · rw [h2, h3] at hst
        refine ⟨(k + 1, hk0), by simp only; omega, by simp only; omega, le_mkSl rfl (Hp.le_refl _) ?_⟩
        simp [go_sem, hst, intsAV, hwu]
      · refine ⟨rfl, by simp, fun hd2 => ?_⟩
        refine append_by (a := intsAV hk0 (foundL L (ws.take k))) (b := .lst 1 hd2 [iv w.n]) (l1 := [(3, 1, hd2)]) (l2 := l2) (h := hk0) (h2 := hd2) Try.k41 Try.s3 Try.y3 Try.z3 rfl (by decide)
          (by simp [go_sem, intsAV]) (Cast.refl _) (by simp [go_sem, iv]) (Cast.refl _) (by simp [go_sem]) (by simp [go_sem, iv]) (by simp [maxLen]; omega) (by simp; omega) (by simp [go_sem]) (fun h' => ?_)
        simp only [go_sem, Int.natCast_nonneg, Nat.reduceEqDiff, Nat.reduceAdd, Nat.reduceSub, Nat.reduceLT, Nat.reduceMul, Nat.reduceBEq, Nat.reduceLeDiff, ↓reduceIte, Int.toNat_natCast, Int.reduceToNat, Int.toNat_zero, Int.toNat_one, not_true_eq_false, false_or, or_self, Nat.reduceGT, Option.isSome_some, Bool.and_self, Nat.zero_add, Nat.mul_one, List.length_map, List.take_length, Int.cast_ofNat_Int, Int.reduceLE, Int.reduceLT, Int.reduceGE, Int.reduceGT, Int.reduceEq, Int.reduceNe, Int.le_refl, Nat.le_refl, Nat.reduceAdd, ne_eq, not_false_eq_true, reduceCtorEq, beq_true, beq_false, BEq.rfl, Bool.not_true, Bool.not_false, decide_true, decide_false, exists_prop, hwu]
        refine ⟨(k + 1, h'), by simp only; omega, by simp only; omega, le_mkSl rfl ?_ ?_⟩
        · exact ⟨fun _ _ h => h, fun _ _ h => h, List.sublist_cons_self _ _, fun _ h => h⟩
        · rw [h2, h3] at hst
          simp [go_sem, hst, intsAV]
    · rw [h2] at hst
      refine ⟨(k + 1, hk0), by simp only; omega, by simp only; omega, le_mkSl rfl (Hp.le_refl _) ?_⟩
      simp [go_sem, hst, intsAV, hwu]
  · have e : k = ws.length := by simp at h1; omega
    subst e
    exact ret_same ⟨hk0, by rw [List.take_length], rfl⟩
end Go.Proofs.Ytfdlfcafcjhpmaa

/- The reference for heaps: equal heaps; the sizes after a collection. -/
import Derived.Test.YtfdlfcafcjhpmaaCH16
set_option linter.unusedSimpArgs false
set_option linter.unusedVariables false
set_option maxRecDepth 20000
set_option maxHeartbeats 4000000
namespace Go.Proofs.Ytfdlfcafcjhpmaa
open Go.AL

def eqR (x y : RObj) : Bool := decide (x.adr = y.adr) && (decide (x.tag = y.tag) && sameL eqW x.fs y.fs)
theorem equal_calls (sa sb : Int) (ha hb : Value) (a b : List RObj) (hp : Hp) : ACalls Try.prog 24 [modelAV sa ha a, modelAV sb hb b] hp (fun r hp' => r = .v (.bool (sameL eqR a b)) ∧ hp' = hp) := by
  refine acalls_fit (callable_of Try.func24 (by decide +kernel)) fun hfit => ?_
  have hl : a.length ≤ maxLen := fit_model hfit.1
  refine acalls_of Try.func24 rfl (by decide +kernel) (awp_sound (mu := [6, 7]) _ _ _ ?_)
  simp only [go_sem, Int.natCast_nonneg, Nat.reduceEqDiff, Nat.reduceAdd, Nat.reduceSub, Nat.reduceLT, Nat.reduceMul, Nat.reduceBEq, Nat.reduceLeDiff, ↓reduceIte, Int.toNat_natCast, Int.reduceToNat, Int.toNat_zero, Int.toNat_one, not_true_eq_false, false_or, or_self, Nat.reduceGT, Option.isSome_some, Bool.and_self, Nat.zero_add, Nat.mul_one, List.length_map, List.take_length, Int.cast_ofNat_Int, Int.reduceLE, Int.reduceLT, Int.reduceGE, Int.reduceGT, Int.reduceEq, Int.reduceNe, Int.le_refl, Nat.le_refl, Nat.reduceAdd, ne_eq, not_false_eq_true, reduceCtorEq, beq_true, beq_false, BEq.rfl, Bool.not_true, Bool.not_false, decide_true, decide_false, exists_prop, modelAV, modelC, objsAV]
  intro pa pb
  refine brK_mk (fun h1 => ?_) (fun h1 => ?_) <;> simp only [go_sem, Int.natCast_nonneg, Nat.reduceEqDiff, Nat.reduceAdd, Nat.reduceSub, Nat.reduceLT, Nat.reduceMul, Nat.reduceBEq, Nat.reduceLeDiff, ↓reduceIte, Int.toNat_natCast, Int.reduceToNat, Int.toNat_zero, Int.toNat_one, not_true_eq_false, false_or, or_self, Nat.reduceGT, Option.isSome_some, Bool.and_self, Nat.zero_add, Nat.mul_one, List.length_map, List.take_length, Int.cast_ofNat_Int, Int.reduceLE, Int.reduceLT, Int.reduceGE, Int.reduceGT, Int.reduceEq, Int.reduceNe, Int.le_refl, Nat.le_refl, Nat.reduceAdd, ne_eq, not_false_eq_true, reduceCtorEq, beq_true, beq_false, BEq.rfl, Bool.not_true, Bool.not_false, decide_true, decide_false, exists_prop, h1]
  · have hlen : a.length = b.length := by simp at h1; omega
    refine aw_loopX 49 (fun k : Nat => [(2, .ref pa [.v (.int .i64 sa), .lst 3 ha (a.map RObj.av)]), (3, .ref pb [.v (.int .i64 sb), .lst 3 hb (b.map RObj.av)]), (16, .lst 3 ha (a.map RObj.av)), (17, .v (.int .i64 a.length)), (18, .v (.int .i64 k))])
      (fun _ => hp) (fun k => k ≤ a.length ∧ sameL eqR (a.drop k) (b.drop k) = sameL eqR a b) (fun k => a.length - k) 0
      ⟨Nat.zero_le _, rfl⟩ (le_mkSl rfl (Hp.le_refl _) (by simp [go_sem])) ?_
    rintro k ⟨hk, hall⟩
    refine awp_sound (mu := [6, 7]) _ _ _ ?_
    simp only [go_sem, Int.natCast_nonneg, Nat.reduceEqDiff, Nat.reduceAdd, Nat.reduceSub, Nat.reduceLT, Nat.reduceMul, Nat.reduceBEq, Nat.reduceLeDiff, ↓reduceIte, Int.toNat_natCast, Int.reduceToNat, Int.toNat_zero, Int.toNat_one, not_true_eq_false, false_or, or_self, Nat.reduceGT, Option.isSome_some, Bool.and_self, Nat.zero_add, Nat.mul_one, List.length_map, List.take_length, Int.cast_ofNat_Int, Int.reduceLE, Int.reduceLT, Int.reduceGE, Int.reduceGT, Int.reduceEq, Int.reduceNe, Int.le_refl, Nat.le_refl, Nat.reduceAdd, ne_eq, not_false_eq_true, reduceCtorEq, beq_true, beq_false, BEq.rfl, Bool.not_true, Bool.not_false, decide_true, decide_false, exists_prop]
    refine brK_mk (fun h => ?_) (fun h => ?_) <;> simp only [go_sem, Int.natCast_nonneg, Nat.reduceEqDiff, Nat.reduceAdd, Nat.reduceSub, Nat.reduceLT, Nat.reduceMul, Nat.reduceBEq, Nat.reduceLeDiff, ↓reduceIte, Int.toNat_natCast, Int.reduceToNat, Int.toNat_zero, Int.toNat_one, not_true_eq_false, false_or, or_self, Nat.reduceGT, Option.isSome_some, Bool.and_self, Nat.zero_add, Nat.mul_one, List.length_map, List.take_length, Int.cast_ofNat_Int, Int.reduceLE, Int.reduceLT, Int.reduceGE, Int.reduceGT, Int.reduceEq, Int.reduceNe, Int.le_refl, Nat.le_refl, Nat.reduceAdd, ne_eq, not_false_eq_true, reduceCtorEq, beq_true, beq_false, BEq.rfl, Bool.not_true, Bool.not_false, decide_true, decide_false, exists_prop, h]
    · have hk' : k < a.length := by simpa using h
      obtain ⟨x, hx⟩ := some_at' a k hk'
      obtain ⟨y, hy⟩ := some_at' b k (by omega)
      rw [dropAt hx, dropAt hy, sameL] at hall
      have hwu := upW k _ hk' hl
      simp only [go_sem, Int.natCast_nonneg, Nat.reduceEqDiff, Nat.reduceAdd, Nat.reduceSub, Nat.reduceLT, Nat.reduceMul, Nat.reduceBEq, Nat.reduceLeDiff, ↓reduceIte, Int.toNat_natCast, Int.reduceToNat, Int.toNat_zero, Int.toNat_one, not_true_eq_false, false_or, or_self, Nat.reduceGT, Option.isSome_some, Bool.and_self, Nat.zero_add, Nat.mul_one, List.length_map, List.take_length, Int.cast_ofNat_Int, Int.reduceLE, Int.reduceLT, Int.reduceGE, Int.reduceGT, Int.reduceEq, Int.reduceNe, Int.le_refl, Nat.le_refl, Nat.reduceAdd, ne_eq, not_false_eq_true, reduceCtorEq, beq_true, beq_false, BEq.rfl, Bool.not_true, Bool.not_false, decide_true, decide_false, exists_prop, map_at' RObj.av _ _ _ hx, map_at' RObj.av _ _ _ hy, RObj.av, RObj.cs]
      intro b6 hb6 b7 hb7
      have n67 : b6 ≠ b7 := by rintro rfl; have := hb7.1; simp [Hp.setBlk] at this
      have hb7n : hp.blk b7 = none := by have := hb7.1; simpa [Hp.setBlk, Ne.symm n67] using this
      have hfin : hp.le ((hp.setBlk b6 111 [.v (.int .i64 x.adr), .v (.int .i64 x.tag), .lst 2 x.h (x.fs.map WordG.av)]).setBlk b7 111 [.v (.int .i64 y.adr), .v (.int .i64 y.tag), .lst 2 y.h (y.fs.map WordG.av)]) := by
        refine ⟨fun i z hi => ?_, fun _ _ h => h, List.Sublist.refl _, fun _ h => h⟩
        have e1 : i ≠ b6 := by rintro rfl; have := hb6.1; rw [this] at hi; cases hi
        have e2 : i ≠ b7 := by rintro rfl; rw [hb7n] at hi; cases hi
        simpa [Hp.setBlk, e1, e2] using hi
      simp only [go_sem, Int.natCast_nonneg, Nat.reduceEqDiff, Nat.reduceAdd, Nat.reduceSub, Nat.reduceLT, Nat.reduceMul, Nat.reduceBEq, Nat.reduceLeDiff, ↓reduceIte, Int.toNat_natCast, Int.reduceToNat, Int.toNat_zero, Int.toNat_one, not_true_eq_false, false_or, or_self, Nat.reduceGT, Option.isSome_some, Bool.and_self, Nat.zero_add, Nat.mul_one, List.length_map, List.take_length, Int.cast_ofNat_Int, Int.reduceLE, Int.reduceLT, Int.reduceGE, Int.reduceGT, Int.reduceEq, Int.reduceNe, Int.le_refl, Nat.le_refl, Nat.reduceAdd, ne_eq, not_false_eq_true, reduceCtorEq, beq_true, beq_false, BEq.rfl, Bool.not_true, Bool.not_false, decide_true, decide_false, exists_prop, n67]
      refine brK_mk (fun h2 => ?_) (fun h2 => ?_) <;> simp only [go_sem, Int.natCast_nonneg, Nat.reduceEqDiff, Nat.reduceAdd, Nat.reduceSub, Nat.reduceLT, Nat.reduceMul, Nat.reduceBEq, Nat.reduceLeDiff, ↓reduceIte, Int.toNat_natCast, Int.reduceToNat, Int.toNat_zero, Int.toNat_one, not_true_eq_false, false_or, or_self, Nat.reduceGT, Option.isSome_some, Bool.and_self, Nat.zero_add, Nat.mul_one, List.length_map, List.take_length, Int.cast_ofNat_Int, Int.reduceLE, Int.reduceLT, Int.reduceGE, Int.reduceGT, Int.reduceEq, Int.reduceNe, Int.le_refl, Nat.le_refl, Nat.reduceAdd, ne_eq, not_false_eq_true, reduceCtorEq, beq_true, beq_false, BEq.rfl, Bool.not_true, Bool.not_false, decide_true, decide_false, exists_prop, h2, n67]
      · refine brK_mk (fun h3 => ?_) (fun h3 => ?_) <;> simp only [go_sem, Int.natCast_nonneg, Nat.reduceEqDiff, Nat.reduceAdd, Nat.reduceSub, Nat.reduceLT, Nat.reduceMul, Nat.reduceBEq, Nat.reduceLeDiff, ↓reduceIte, Int.toNat_natCast, Int.reduceToNat, Int.toNat_zero, Int.toNat_one, not_true_eq_false, false_or, or_self, Nat.reduceGT, Option.isSome_some, Bool.and_self, Nat.zero_add, Nat.mul_one, List.length_map, List.take_length, Int.cast_ofNat_Int, Int.reduceLE, Int.reduceLT, Int.reduceGE, Int.reduceGT, Int.reduceEq, Int.reduceNe, Int.le_refl, Nat.le_refl, Nat.reduceAdd, ne_eq, not_false_eq_true, reduceCtorEq, beq_true, beq_false, BEq.rfl, Bool.not_true, Bool.not_false, decide_true, decide_false, exists_prop, h3, n67]
        · refine callX_by (words_calls x.h y.h x.fs y.fs _) ?_
          rintro r hp2 ⟨rfl, rfl⟩
          simp only [go_sem, Int.natCast_nonneg, Nat.reduceEqDiff, Nat.reduceAdd, Nat.reduceSub, Nat.reduceLT, Nat.reduceMul, Nat.reduceBEq, Nat.reduceLeDiff, ↓reduceIte, Int.toNat_natCast, Int.reduceToNat, Int.toNat_zero, Int.toNat_one, not_true_eq_false, false_or, or_self, Nat.reduceGT, Option.isSome_some, Bool.and_self, Nat.zero_add, Nat.mul_one, List.length_map, List.take_length, Int.cast_ofNat_Int, Int.reduceLE, Int.reduceLT, Int.reduceGE, Int.reduceGT, Int.reduceEq, Int.reduceNe, Int.le_refl, Nat.le_refl, Nat.reduceAdd, ne_eq, not_false_eq_true, reduceCtorEq, beq_true, beq_false, BEq.rfl, Bool.not_true, Bool.not_false, decide_true, decide_false, exists_prop, n67]
          refine brK_mk (fun h4 => ?_) (fun h4 => ?_) <;> simp only [go_sem, Int.natCast_nonneg, Nat.reduceEqDiff, Nat.reduceAdd, Nat.reduceSub, Nat.reduceLT, Nat.reduceMul, Nat.reduceBEq, Nat.reduceLeDiff, ↓reduceIte, Int.toNat_natCast, Int.reduceToNat, Int.toNat_zero, Int.toNat_one, not_true_eq_false, false_or, or_self, Nat.reduceGT, Option.isSome_some, Bool.and_self, Nat.zero_add, Nat.mul_one, List.length_map, List.take_length, Int.cast_ofNat_Int, Int.reduceLE, Int.reduceLT, Int.reduceGE, Int.reduceGT, Int.reduceEq, Int.reduceNe, Int.le_refl, Nat.le_refl, Nat.reduceAdd, ne_eq, not_false_eq_true, reduceCtorEq, beq_true, beq_false, BEq.rfl, Bool.not_true, Bool.not_false, decide_true, decide_false, exists_prop, h4, hwu]
          · refine ⟨k + 1, by omega, ⟨by omega, by rw [← hall, eqR, h2, h3, h4]; rfl⟩, le_mkSl rfl (by simp only [go_sem, Int.natCast_nonneg, Nat.reduceEqDiff, Nat.reduceAdd, Nat.reduceSub, Nat.reduceLT, Nat.reduceMul, Nat.reduceBEq, Nat.reduceLeDiff, ↓reduceIte, Int.toNat_natCast, Int.reduceToNat, Int.toNat_zero, Int.toNat_one, not_true_eq_false, false_or, or_self, Nat.reduceGT, Option.isSome_some, Bool.and_self, Nat.zero_add, Nat.mul_one, List.length_map, List.take_length, Int.cast_ofNat_Int, Int.reduceLE, Int.reduceLT, Int.reduceGE, Int.reduceGT, Int.reduceEq, Int.reduceNe, Int.le_refl, Nat.le_refl, Nat.reduceAdd, ne_eq, not_false_eq_true, reduceCtorEq, beq_true, beq_false, BEq.rfl, Bool.not_true, Bool.not_false, decide_true, decide_false, exists_prop]; exact hfin) ?_⟩
            simp [go_sem, hwu]
          · exact ret_le hfin ⟨by rw [← hall, eqR, h2, h3, h4]; rfl, rfl⟩
        · exact ret_le hfin ⟨by rw [← hall, eqR, h2, h3]; rfl, rfl⟩
      · exact ret_le hfin ⟨by rw [← hall, eqR, h2]; rfl, rfl⟩
    · have e : a.length ≤ k := by simp at h; omega
      rw [List.drop_of_length_le e, List.drop_of_length_le (hlen ▸ e)] at hall
      exact ret_same ⟨by rw [← hall]; rfl, rfl⟩
  · have hlen : a.length ≠ b.length := by simp at h1; omega
    exact ret_same ⟨by rw [sameL_len _ _ _ hlen], rfl⟩

/-! ### What the comparisons say -/
theorem sameL_iff {α : Type} {f : α → α → Bool} (hf : ∀ x y, f x y = true ↔ x = y) : ∀ (a b : List α), sameL f a b = true ↔ a = b
  | [], [] => by simp [sameL]
  | [], _ :: _ => by simp [sameL]
  | _ :: _, [] => by simp [sameL]
  | x :: a, y :: b => by rw [sameL, Bool.and_eq_true, hf, sameL_iff hf a b, List.cons.injEq]
theorem words_iff (a b : List WordG) : sameL eqW a b = true ↔ a = b := sameL_iff (fun _ _ => eqW_iff) a b
theorem ints_iff (a b : List Int) : sameL (fun x y : Int => decide (x = y)) a b = true ↔ a = b := sameL_iff (fun _ _ => decide_eq_true_iff) a b
theorem eqR_iff (x y : RObj) : eqR x y = true ↔ x.bare = y.bare := by
  rw [eqR, Bool.and_eq_true, Bool.and_eq_true, words_iff, decide_eq_true_iff, decide_eq_true_iff]
  simp [RObj.bare]
theorem objs_iff : ∀ (a b : List RObj), sameL eqR a b = true ↔ a.map RObj.bare = b.map RObj.bare
  | [], [] => by simp [sameL]
  | [], _ :: _ => by simp [sameL]
  | _ :: _, [] => by simp [sameL]
  | x :: a, y :: b => by rw [sameL, Bool.and_eq_true, eqR_iff, objs_iff a b, List.map_cons, List.map_cons, List.cons.injEq]
theorem pairsF_inj : ∀ (A B : List ObjG) (k : Nat), pairsF k A = pairsF k B → A = B := fun A B k h => by rw [← pairsF_snd k A, h, pairsF_snd]
theorem equal_iff {G H : List ObjG} {a b : List RObj} (ha : MR G a) (hb : MR H b) : sameL eqR a b = true ↔ G = H := by
  rw [objs_iff, show a.map RObj.bare = pairsF 0 G from ha, show b.map RObj.bare = pairsF 0 H from hb]
  exact ⟨pairsF_inj G H 0, fun h => by rw [h]⟩
end Go.Proofs.Ytfdlfcafcjhpmaa
/- Heaps: the sizes after a call; the law's alloc. -/
set_option linter.unusedSimpArgs false
set_option linter.unusedVariables false
set_option maxRecDepth 20000
set_option maxHeartbeats 4000000
namespace Go.Proofs.Ytfdlfcafcjhpmaa
open Go.AL

/-! ### After a collection -/
theorem endO_mv (G : List ObjG) (L M : List Int) : endO (M.map (mvO G L)) = endO (M.map (origO G)) := by
  simp only [endO, List.map_map]
  congr 1
  apply List.map_congr_left
  intro b _
  simp [mvO, osz]
theorem newA_mem {G : List ObjG} {L : List Int} (hn : L.Nodup) {a : Int} (ha : a ∈ L) : ((newA G L a : Nat) : Int) ∈ addrsF 0 (L.map (mvO G L)) := by
  obtain ⟨i, hi⟩ := List.getElem?_of_mem ha
  rw [newA_at hn hi, ← endO_mv]
  have hs : L.map (mvO G L) = (L.take i).map (mvO G L) ++ mvO G L a :: (L.drop (i + 1)).map (mvO G L) := by
    rw [← List.map_cons, ← List.map_append, ← dropAt hi, List.take_append_drop]
  rw [hs]
  exact List.mem_of_getElem? (addrs_at _ _ _)
theorem mvW_VW {G : List ObjG} {L : List Int} (hn : L.Nodup) {ws : List WordG} (h : ∀ w ∈ ws, w.ref = true → w.n ∈ L) : VW (L.map (mvO G L)) (ws.map (mvWord G L)) := by
  intro w hw hr
  obtain ⟨w0, h0, rfl⟩ := List.mem_map.1 hw
  have hr0 : w0.ref = true := by
    simp only [mvWord] at hr
    split at hr <;> assumption
  have e : (mvWord G L w0).n = ((newA G L w0.n : Nat) : Int) := by simp [mvWord, hr0]
  rw [e]
  exact newA_mem hn (h w0 h0 hr0)
theorem wf_coll {G : List ObjG} {roots : List WordG} (hwf : Wf G) (hv : VW G roots) : Wf (collG G roots) ∧ VW (collG G roots) (collR G roots) ∧ endO (collG G roots) ≤ endO G := by
  obtain ⟨hok, hrt, hcl⟩ := reach_ok hwf hv
  refine ⟨?_, mvW_VW hok.nd hrt, ?_⟩
  · intro o ho
    obtain ⟨a, ha, rfl⟩ := List.mem_map.1 ho
    exact mvW_VW hok.nd (hcl a ha)
  · rw [collG, endO_mv]; exact lok_end hok

/-! ### After a call -/
structure OpG where
  d : Int
  a : Int
  i : Int
  h : Value
  ws : List WordG
def OpG.cs (o : OpG) : List AV := [iv o.d, iv o.a, iv o.i, wordsAV o.h o.ws]
def OpG.av (o : OpG) : AV := .agg o.cs
def opsAV (h : Value) (l : List OpG) : AV := .lst 4 h (l.map OpG.av)
structure Okay (size : Int) (G : List ObjG) : Prop where
  wf : Wf G
  sz : ((endO G : Nat) : Int) ≤ size
  up : size ≤ 1048576
theorem Okay.n {size : Int} {G : List ObjG} (h : Okay size G) : endO G ≤ 1048576 := by have h1 := h.sz; have h2 := h.up; omega
def stepG (size : Int) (G : List ObjG) (o : OpG) : List ObjG :=
  if o.d = 0 then allocG size G o.a o.ws else if o.d = 4 ∧ validL (spOf G).s o.ws = true then collG G o.ws else G
theorem VW.app {G H : List ObjG} {l : List WordG} (h : VW G l) : VW (G ++ H) l := fun w hw hr => by
  rw [addrsF_app]; exact List.mem_append_left _ (h w hw hr)
theorem alloc_okay {size : Int} {G : List ObjG} (h : Okay size G) (tag : Int) (fs : List WordG) : Okay size (allocG size G tag fs) := by
  unfold allocG
  split
  · next e =>
    have hv : validL (spOf G).s fs = true := by
      simp only [allocE] at e
      by_cases h1 : (decide (tag < 0) || decide (tag > 100000) || decide ((fs.length : Int) > 1024)) = true
      · rw [if_pos h1] at e; cases e
      · rw [if_neg h1] at e
        by_cases h2 : validL (spOf G).s fs = true
        · exact h2
        · rw [if_neg h2] at e; cases e
    have hs : ¬ (((spOf G).c.length : Int) + 1 + fs.length > size) := by
      intro h3
      simp only [allocE, hv, if_true] at e
      by_cases h1 : (decide (tag < 0) || decide (tag > 100000) || decide ((fs.length : Int) > 1024)) = true
      · rw [if_pos h1] at e; cases e
      · rw [if_neg h1, if_pos (by simpa using h3)] at e; cases e
    refine ⟨?_, ?_, h.up⟩
    · intro o ho
      rcases List.mem_append.1 ho with ho | ho
      · exact (h.wf o ho).app
      · rw [List.mem_singleton] at ho; subst ho
        exact ((valid_VW fs).1 hv).app
    · have : (spOf G).c.length = endO G := cellsO_len G
      rw [endO_app]
      simp only [endO, List.map_cons, List.map_nil, List.sum_cons, List.sum_nil, osz] at *
      omega
  · exact h
theorem coll_okay {size : Int} {G : List ObjG} (h : Okay size G) {roots : List WordG} (hv : VW G roots) : Okay size (collG G roots) := by
  obtain ⟨h1, _, h2⟩ := wf_coll h.wf hv
  exact ⟨h1, by have := h.sz; omega, h.up⟩
theorem step_okay {size : Int} {G : List ObjG} (h : Okay size G) (o : OpG) : Okay size (stepG size G o) := by
  unfold stepG
  split
  · exact alloc_okay h _ _
  · split
    · next e => exact coll_okay h ((valid_VW _).1 e.2)
    · exact h

/-! ### The heap in memory -/
def HHp (hp : Hp) (hb : Nat) (size : Int) (c s o : Value) (G : List ObjG) (l2 : List (TypeId × Nat × Value)) : Hp := (hp.setBlk hb 105 (HeapV size c s o (spOf G))).setSp (spE c s o l2)
theorem hhp_self {hp : Hp} {hb : Nat} {size : Int} {c s o : Value} {G : List ObjG} {l2 : List (TypeId × Nat × Value)} (h1 : hp.blk hb = some (105, HeapV size c s o (spOf G))) (h2 : hp.sp = spE c s o l2) : HHp hp hb size c s o G l2 = hp := by
  have e : (hp.setBlk hb 105 (HeapV size c s o (spOf G))).blk = hp.blk := by
    funext i
    rw [Hp.setBlk_blk]
    by_cases hi : i = hb
    · rw [if_pos hi, hi, h1]
    · rw [if_neg hi]
  unfold HHp
  rw [← h2]
  cases hp
  simp only [Hp.setSp, Hp.setBlk] at e ⊢
  rw [e]
def DoR (size : Int) (G' : List ObjG) (hb : Nat) (l2 : List (TypeId × Nat × Value)) (hp : Hp) (r : AV) (hp' : Hp) : Prop :=
  ∃ ho' l' c s o, r = .tup [modelAV size ho' l', .v (.bool true)] ∧ MR G' l' ∧ hp' = HHp hp hb size c s o G' l2
end Go.Proofs.Ytfdlfcafcjhpmaa

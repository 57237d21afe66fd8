/- Collections: what is reached. -/
import Derived.Test.YtfdlfcafcjhpmaaCH10
import Derived.Test.YtfdlfcafcjhpmaaCAL31
set_option linter.unusedSimpArgs false
set_option linter.unusedVariables false
set_option maxRecDepth 20000
namespace Go.Proofs.Ytfdlfcafcjhpmaa
open Go.AL

def reachF (G : List ObjG) : Nat → Nat → List Int → List Int
  | 0, _, L => L
  | f + 1, i, L => match L[i]? with
    | some a => reachF G f (i + 1) (foundL L (origO G a).fs)
    | none => L
def reachG (G : List ObjG) (roots : List WordG) : List Int := reachF G (G.length + 1) 0 (foundL [] roots)
def mvO (G : List ObjG) (L : List Int) (a : Int) : ObjG := ⟨(origO G a).tag, (origO G a).fs.map (mvWord G L)⟩
def collG (G : List ObjG) (roots : List WordG) : List ObjG := (reachG G roots).map (mvO G (reachG G roots))
def collR (G : List ObjG) (roots : List WordG) : List WordG := roots.map (mvWord G (reachG G roots))
/-- All references lead to objects. -/
def Wf (G : List ObjG) : Prop := ∀ o ∈ G, VW G o.fs
theorem wf_orig {G : List ObjG} (h : Wf G) (a : Int) : VW G (origO G a).fs := by
  unfold origO
  cases ho : objAt G a with
  | none => intro w hw; cases hw
  | some o =>
    obtain ⟨A, B, rfl, _⟩ := objF_split ho
    exact h o (by simp)
theorem valid_VW {G : List ObjG} (l : List WordG) : validL (spOf G).s l = true ↔ VW G l := by
  simp only [validL, List.all_eq_true, Bool.not_eq_true', badW, Bool.and_eq_false_iff, Bool.not_eq_false', VW]
  constructor
  · intro h w hw hr
    rcases h w hw with h | h
    · rw [hr] at h; cases h
    · rw [show (spOf G).s = sizesO G from rfl, has_obj] at h; exact objF_mem.1 h
  · intro h w hw
    cases hr : w.ref with
    | false => exact .inl rfl
    | true => exact .inr (by rw [show (spOf G).s = sizesO G from rfl, has_obj]; exact objF_mem.2 (h w hw hr))

/-- How far a collection has come. -/
structure RchI (G : List ObjG) (roots : List WordG) (i : Nat) (L : List Int) : Prop where
  ok : LOk G L
  le : i ≤ L.length
  rt : ∀ w ∈ roots, w.ref = true → w.n ∈ L
  cl : ∀ a ∈ L.take i, ∀ w ∈ (origO G a).fs, w.ref = true → w.n ∈ L
  eq : ∃ f, G.length + 1 ≤ f + i ∧ reachF G f i L = reachG G roots
  pre : ∃ M, L = foundL [] roots ++ M
theorem lok_len {G : List ObjG} {L : List Int} (h : LOk G L) : L.length ≤ G.length := by
  have h1 := sum_sub (fun _ => 1) L (addrsF 0 G) h.nd h.ok
  have e : ∀ l : List Int, (l.map fun _ => 1).sum = l.length := by
    intro l
    induction l with
    | nil => rfl
    | cons a l ih => rw [List.map_cons, List.sum_cons, ih, List.length_cons]; omega
  rw [e, e, addrsF_len] at h1
  exact h1
theorem rch_start {G : List ObjG} {roots : List WordG} (hv : VW G roots) : RchI G roots 0 (foundL [] roots) :=
  ⟨foundL_ok _ _ ⟨List.nodup_nil, fun a ha => by cases ha⟩ hv, Nat.zero_le _, fun w hw hr => foundL_mem _ _ w hw hr, fun a ha => by simp at ha, ⟨G.length + 1, by omega, rfl⟩, ⟨[], by simp⟩⟩
theorem rch_step {G : List ObjG} {roots : List WordG} {i : Nat} {L : List Int} {a : Int} (hw : Wf G) (h : RchI G roots i L) (ha : L[i]? = some a) : RchI G roots (i + 1) (foundL L (origO G a).fs) := by
  obtain ⟨M, hM⟩ := foundL_pre (origO G a).fs L
  have hi : i < L.length := (List.getElem?_eq_some_iff.1 ha).1
  have hlen := lok_len h.ok
  refine ⟨foundL_ok _ _ h.ok (wf_orig hw a), by rw [hM, List.length_append]; omega, fun w hw hr => by rw [hM]; exact List.mem_append_left _ (h.rt w hw hr), fun b hb w hw hr => ?_, ?_, ?_⟩
  · have ht : (foundL L (origO G a).fs).take (i + 1) = L.take i ++ [a] := by
      rw [hM, List.take_append_of_le_length (by omega), List.take_add_one, ha]; rfl
    rw [ht] at hb
    rcases List.mem_append.1 hb with hb | hb
    · rw [hM]; exact List.mem_append_left _ (h.cl b hb w hw hr)
    · simp only [List.mem_singleton] at hb
      subst hb
      exact foundL_mem _ _ w hw hr
  · obtain ⟨f, hf, e⟩ := h.eq
    cases f with
    | zero => omega
    | succ f =>
      rw [reachF, ha] at e
      exact ⟨f, by omega, e⟩
  · obtain ⟨N, hN⟩ := h.pre
    exact ⟨N ++ M, by rw [hM, ← List.append_assoc, ← hN]⟩
theorem rch_end {G : List ObjG} {roots : List WordG} {i : Nat} {L : List Int} (h : RchI G roots i L) (hi : L.length ≤ i) : L = reachG G roots := by
  obtain ⟨f, _, e⟩ := h.eq
  rw [← e]
  cases f with
  | zero => rfl
  | succ f => rw [reachF, List.getElem?_eq_none hi]
theorem mvWord_app {G : List ObjG} {L M : List Int} {w : WordG} (h : w.ref = true → w.n ∈ L) : mvWord G (L ++ M) w = mvWord G L w := by
  simp only [mvWord]
  split
  · rename_i hr; rw [newA_app _ (h hr)]
  · rfl
/-- The new objects, when i of them are done. -/
def objI (G : List ObjG) (i : Nat) (L : List Int) : List ObjG := (L.take i).map (mvO G L) ++ (L.drop i).map (origO G)
theorem objI_shaped (G : List ObjG) (i : Nat) (L : List Int) : Shaped G L (objI G i L) := by
  simp only [Shaped, objI, List.map_append, List.map_map]
  conv => rhs; rw [← List.take_append_drop i L]
  rw [List.map_append]
  congr 1
  apply List.map_congr_left
  intro a _
  simp [mvO]
theorem objI_step {G : List ObjG} {roots : List WordG} {i : Nat} {L : List Int} {a : Int} (h : RchI G roots i L) (ha : L[i]? = some a) :
    objI G (i + 1) (foundL L (origO G a).fs) = (L.take i).map (mvO G L) ++ ⟨(origO G a).tag, (origO G a).fs.map (mvWord G (foundL L (origO G a).fs))⟩ :: ((L.drop (i + 1)).map (origO G) ++ ((foundL L (origO G a).fs).drop L.length).map (origO G)) := by
  obtain ⟨M, hM⟩ := foundL_pre (origO G a).fs L
  have hi : i < L.length := (List.getElem?_eq_some_iff.1 ha).1
  have ht : (foundL L (origO G a).fs).take (i + 1) = L.take i ++ [a] := by
    rw [hM, List.take_append_of_le_length (by omega), List.take_add_one, ha]; rfl
  have hd : (foundL L (origO G a).fs).drop (i + 1) = L.drop (i + 1) ++ M := by rw [hM, List.drop_append_of_le_length (by omega)]
  have hm : (foundL L (origO G a).fs).drop L.length = M := by rw [hM]; simp
  rw [objI, ht, hd, hm, List.map_append, List.map_append, List.append_assoc]
  congr 1
  apply List.map_congr_left
  intro b hb
  simp only [mvO, ObjG.mk.injEq, true_and]
  apply List.map_congr_left
  intro w hw
  rw [hM]
  exact mvWord_app (fun hr => h.cl b hb w hw hr)
theorem objI_at {G : List ObjG} {i : Nat} {L : List Int} {a : Int} (ha : L[i]? = some a) : objI G i L = (L.take i).map (mvO G L) ++ origO G a :: (L.drop (i + 1)).map (origO G) := by
  obtain ⟨hi, e⟩ := List.getElem?_eq_some_iff.1 ha
  rw [objI, List.drop_eq_getElem_cons hi, e]; rfl

/-- An object's fields are overwritten. -/
theorem cells_put (A : List ObjG) (o : ObjG) (B : List ObjG) (fs : List WordG) (h : fs.length = o.fs.length) (rest : List AV) :
    splice (flatW (cellsO (A ++ o :: B)) ++ rest) ((endO A + 1) * 2) (flatW fs) = flatW (cellsO (A ++ ⟨o.tag, fs⟩ :: B)) ++ rest ∧ sizesO (A ++ ⟨o.tag, fs⟩ :: B) = sizesO (A ++ o :: B) ∧ addrsF 0 (A ++ ⟨o.tag, fs⟩ :: B) = addrsF 0 (A ++ o :: B) ∧
    (cellsO (A ++ ⟨o.tag, fs⟩ :: B)).length = (cellsO (A ++ o :: B)).length := by
  refine ⟨?_, by simp [sizesO, h], by rw [addrsF_app, addrsF_app, addrsF, addrsF]; simp only [osz, h], by rw [cellsO_len, cellsO_len, endO_app, endO_app, endO_cons, endO_cons]; simp only [osz, h]⟩
  have c0 : ∀ fs, cellsO (A ++ ⟨o.tag, fs⟩ :: B) = cellsO A ++ [⟨false, o.tag⟩] ++ fs ++ cellsO B := by intro fs; simp [cellsO]
  have c1 := c0 o.fs
  rw [show (⟨o.tag, o.fs⟩ : ObjG) = o from rfl] at c1
  rw [c1, c0]
  have hl : (flatW (cellsO A ++ [⟨false, o.tag⟩])).length = (endO A + 1) * 2 := by rw [flatW_len, List.length_append, cellsO_len]; rfl
  have hl2 : (flatW fs).length = (flatW o.fs).length := by rw [flatW_len, flatW_len, h]
  have key : ∀ fs : List WordG, flatW (cellsO A ++ [⟨false, o.tag⟩] ++ fs ++ cellsO B) ++ rest = flatW (cellsO A ++ [⟨false, o.tag⟩]) ++ (flatW fs ++ (flatW (cellsO B) ++ rest)) := by
    intro fs
    generalize cellsO A ++ [(⟨false, o.tag⟩ : WordG)] = Q
    rw [flatW_app, flatW_app, List.append_assoc, List.append_assoc]
  rw [key, key]
  generalize flatW (cellsO A ++ [⟨false, o.tag⟩]) = Q at *
  simp only [splice]
  rw [hl2, ← hl, List.take_left' rfl, List.drop_append, List.drop_of_length_le (by omega), List.drop_append, List.drop_of_length_le (by omega)]
  have e1 : Q.length + (flatW o.fs).length - Q.length - (flatW o.fs).length = 0 := by omega
  rw [e1]
  simp
end Go.Proofs.Ytfdlfcafcjhpmaa
/- Collect. -/
set_option linter.unusedSimpArgs false
set_option linter.unusedVariables false
set_option maxRecDepth 20000
set_option maxHeartbeats 4000000
namespace Go.Proofs.Ytfdlfcafcjhpmaa
open Go.AL

def CollectR (G : List ObjG) (roots : List WordG) (hb : Nat) (size : Int) (l2 : List (TypeId × Nat × Value)) (hp : Hp) (r : AV) (hp' : Hp) : Prop :=
  (validL (spOf G).s roots = false ∧ r = .tup [wordsAV (.slice none 0 0) [], iv 171] ∧ hp' = hp) ∨
  (validL (spOf G).s roots = true ∧ ∃ h' c s o, r = .tup [wordsAV h' (collR G roots), iv 0] ∧ hp' = (hp.setBlk hb 105 (HeapV size c s o (spOf (collG G roots)))).setSp (spE c s o l2))
/-- Between two rounds. -/
structure ColI (G : List ObjG) (roots : List WordG) (mb lb tb : Nat) (rest : List AV) (hp0 : Hp) (i : Nat) (hp : Hp) (c s o : Value) (L : List Int) : Prop where
  rc : RchI G roots i L
  to : ToI hp tb c s o (spOf (objI G i L))
  mv : hp.blk mb = some (3, (mvArr G (endO G) L).map iv)
  row : hp.blk lb = some (65, flatW (roots.map (mvWord G (foundL [] roots))) ++ rest)
  fr : ∀ j x, hp0.blk j = some x → hp.blk j = some x ∧ ¬ Own3 tb c s o j
  nm : ¬ Own3 tb c s o mb
  nl : ¬ Own3 tb c s o lb
  mp : hp.mp = hp0.mp
  gl : hp.gl = hp0.gl
  sp : hp0.sp.Sublist hp.sp

theorem zero_ints (G : List ObjG) (N : Nat) : (List.replicate N [Value.int .i64 0]).flatten.map AV.v = (mvArr G N []).map iv := by
  have h1 : (mvArr G N []) = List.replicate N 0 := by
    simp only [mvArr]
    apply List.ext_getElem?
    intro i
    rw [List.getElem?_map, List.getElem?_replicate]
    rcases Nat.lt_or_ge i N with h | h
    · rw [List.getElem?_range h]; simp [h]
    · rw [List.getElem?_eq_none (by simpa using h)]; simp [Nat.not_lt.2 h]
  rw [h1]
  induction N with
  | zero => rfl
  | succ N ih => rw [List.replicate_succ, List.replicate_succ, List.flatten_cons, List.map_append, ih (by
      simp only [mvArr]
      apply List.ext_getElem?
      intro i
      rw [List.getElem?_map, List.getElem?_replicate]
      rcases Nat.lt_or_ge i N with h | h
      · rw [List.getElem?_range h]; simp [h]
      · rw [List.getElem?_eq_none (by simpa using h)]; simp [Nat.not_lt.2 h])]; rfl
theorem zero_words_len (n : Nat) : ((List.replicate n [Value.bool false, Value.int .i64 0]).flatten.map AV.v).length = n * 2 := by
  induction n with
  | zero => rfl
  | succ n ih => rw [List.replicate_succ, List.flatten_cons, List.map_append, List.length_append, ih]; simp; omega
theorem splice_all (cs new : List AV) (h : cs.length = new.length) : splice cs 0 new = new ++ [] := by
  simp only [splice, List.take_zero, List.nil_append, Nat.zero_add]
  rw [List.drop_of_length_le (by omega)]

theorem ObjG.ext_iff' {o p : ObjG} : o = p ↔ o.tag = p.tag ∧ o.fs = p.fs := by cases o; cases p; simp
theorem addrs_at (A : List ObjG) (o : ObjG) (B : List ObjG) : (addrsF 0 (A ++ o :: B))[A.length]? = some ((endO A : Nat) : Int) := by
  rw [addrsF_app, List.getElem?_append_right (by rw [addrsF_len]; exact Nat.le_refl _), addrsF_len]
  simp [addrsF]
theorem cells_fields (A : List ObjG) (o : ObjG) (B : List ObjG) (rest : List AV) : ((flatW (cellsO (A ++ o :: B)) ++ rest).drop ((endO A + 1) * 2)).take (o.fs.length * 2) = flatW o.fs := by
  have c0 : cellsO (A ++ o :: B) = cellsO A ++ [⟨false, o.tag⟩] ++ o.fs ++ cellsO B := by simp [cellsO]
  have hl : (flatW (cellsO A ++ [⟨false, o.tag⟩])).length = (endO A + 1) * 2 := by rw [flatW_len, List.length_append, cellsO_len]; rfl
  rw [c0]
  generalize cellsO A ++ [(⟨false, o.tag⟩ : WordG)] = Q at *
  rw [flatW_app, flatW_app, List.append_assoc, List.append_assoc, ← hl, List.drop_append, List.drop_of_length_le (Nat.le_refl _), Nat.sub_self, List.nil_append, List.drop_zero, List.take_append_of_le_length (by rw [flatW_len]; exact Nat.le_refl _), List.take_of_length_le (by rw [flatW_len]; exact Nat.le_refl _)]
theorem toI_some {hp : Hp} {tb : Nat} {c s o : Value} {g : SpG} (h : ToI hp tb c s o g) {j : Nat} (hj : Own3 tb c s o j) : ∃ x, hp.blk j = some x := by
  rcases hj with rfl | hj | hj | hj
  · exact ⟨_, h.blk⟩
  · rcases h.c with ⟨rfl, _, _⟩ | ⟨b, cap, rest, rfl, _, _, _, _, hb⟩
    · cases hj
    · simp only [blockOf, Option.some.injEq] at hj; subst hj; exact ⟨_, hb⟩
  · rcases h.s with ⟨rfl, _, _⟩ | ⟨b, cap, rest, rfl, _, _, _, _, hb⟩
    · cases hj
    · simp only [blockOf, Option.some.injEq] at hj; subst hj; exact ⟨_, hb⟩
  · rcases h.o with ⟨rfl, _, _⟩ | ⟨b, cap, rest, rfl, _, _, _, _, hb⟩
    · cases hj
    · simp only [blockOf, Option.some.injEq] at hj; subst hj; exact ⟨_, hb⟩
theorem rowB_tr {hp hp' : Hp} {e : TypeId} {sz n : Nat} {h : Value} {xs : List AV} (r : RowB hp e sz h n xs) (hk : ∀ j, blockOf h = some j → hp'.blk j = hp.blk j) : RowB hp' e sz h n xs := by
  rcases r with ⟨rfl, h1, h2⟩ | ⟨b, cap, rest, rfl, h1, h2, h3, h4, hb⟩
  · exact .inl ⟨rfl, h1, h2⟩
  · exact .inr ⟨b, cap, rest, rfl, h1, h2, h3, h4, (hk b rfl).trans hb⟩
theorem toI_fresh {hp : Hp} {tb : Nat} {c s o : Value} {g : SpG} (h : ToI hp tb c s o g) {j : Nat} (hf : Fresh hp j) : ¬ Own3 tb c s o j := fun hj => by
  obtain ⟨x, hx⟩ := toI_some h hj
  rw [hf.1] at hx; cases hx
theorem toI_setC {hp : Hp} {tb bc n cap : Nat} {s o : Value} {g g' : SpG} {rest : List AV} (h : ToI hp tb (.slice (some ⟨bc, 0, none⟩) n cap) s o g) (hb : hp.blk bc = some (65, flatW g.c ++ rest)) (hc : g'.c.length = g.c.length) (hs : g'.s = g.s) (ho : g'.o = g.o) :
    ToI (hp.setBlk bc 65 (flatW g'.c ++ rest)) tb (.slice (some ⟨bc, 0, none⟩) n cap) s o g' := by
  have nt : tb ≠ bc := by rintro rfl; rw [h.blk] at hb; simp at hb
  have ns := rowB_ne h.s hb (by decide)
  have no := rowB_ne h.o hb (by decide)
  refine ⟨by rw [Hp.setBlk_blk, if_neg nt]; exact h.blk, ?_, by rw [hs]; exact rowB_setBlk h.s ns, by rw [ho]; exact rowB_setBlk h.o no, h.so⟩
  rcases h.c with ⟨e, _, _⟩ | ⟨b, cap', rest', e, h1, h2, h3, h4, h5⟩
  · cases e
  · simp only [Value.slice.injEq, Option.some.injEq, Addr.mk.injEq, and_true] at e
    obtain ⟨rfl, e2, rfl⟩ := e
    rw [hb] at h5
    have hr : rest' = rest := by
      have := congrArg Prod.snd (Option.some.inj h5)
      exact (List.append_cancel_left this).symm
    subst hr
    refine .inr ⟨bc, cap, rest', by rw [e2, hc], by rw [hc]; exact h1, h2, by rw [flatW_len], ?_, by rw [Hp.setBlk_blk, if_pos rfl]⟩
    rw [List.length_append, flatW_len] at h4 ⊢
    rw [hc]; exact h4
/-- A row that is not empty is tracked. -/
theorem rowB_pos {hp : Hp} {e : TypeId} {sz n : Nat} {h : Value} {xs : List AV} (r : RowB hp e sz h n xs) (hn : 0 < n) : ∃ b cap rest, h = .slice (some ⟨b, 0, none⟩) n cap ∧ hp.blk b = some (e, xs ++ rest) := by
  rcases r with ⟨_, h0, _⟩ | ⟨b, cap, rest, h1, _, _, _, _, h2⟩
  · omega
  · exact ⟨b, cap, rest, h1, h2⟩
theorem flatW_ones (l : List WordG) : (flatW l).all AV.one = true := ones_word l

theorem collect_calls {G : List ObjG} {hb : Nat} {size : Int} {hc hs ho : Value} {hp : Hp} {l2 : List (TypeId × Nat × Value)} (hblk : hp.blk hb = some (105, HeapV size hc hs ho (spOf G))) (hsp : hp.sp = spE hc hs ho l2)
    (hr : Value) (roots : List WordG) (hwf : Wf G) (hN : endO G ≤ 2097152) (hrl : roots.length ≤ 8796093022000) :
    ACalls Try.prog 29 [hptrAV hb, wordsAV hr roots] hp (CollectR G roots hb size l2 hp) := by
  refine acalls_of Try.func29 rfl (by decide +kernel) (awp_sound (mu := [65]) _ _ _ ?_)
  simp only [go_sem, Int.natCast_nonneg, Nat.reduceEqDiff, Nat.reduceAdd, Nat.reduceSub, Nat.reduceLT, Nat.reduceMul, Nat.reduceBEq, Nat.reduceLeDiff, ↓reduceIte, Int.toNat_natCast, Int.reduceToNat, Int.toNat_zero, Int.toNat_one, not_true_eq_false, false_or, or_self, Nat.reduceGT, Option.isSome_some, Bool.and_self, Nat.zero_add, Nat.mul_one, List.length_map, List.take_length, Int.cast_ofNat_Int, Int.reduceLE, Int.reduceLT, Int.reduceGE, Int.reduceGT, Int.reduceEq, Int.reduceNe, Int.le_refl, Nat.le_refl, Nat.reduceAdd, ne_eq, not_false_eq_true, reduceCtorEq, beq_true, beq_false, BEq.rfl, Bool.not_true, Bool.not_false, decide_true, decide_false, exists_prop, hptrAV]
  intro ph
  refine callX_by (valid_calls hblk hr roots) ?_
  rintro r hp' ⟨rfl, rfl⟩
  cases hval : validL (spOf G).s roots with
  | false =>
    simp only [go_sem, Int.natCast_nonneg, Nat.reduceEqDiff, Nat.reduceAdd, Nat.reduceSub, Nat.reduceLT, Nat.reduceMul, Nat.reduceBEq, Nat.reduceLeDiff, ↓reduceIte, Int.toNat_natCast, Int.reduceToNat, Int.toNat_zero, Int.toNat_one, not_true_eq_false, false_or, or_self, Nat.reduceGT, Option.isSome_some, Bool.and_self, Nat.zero_add, Nat.mul_one, List.length_map, List.take_length, Int.cast_ofNat_Int, Int.reduceLE, Int.reduceLT, Int.reduceGE, Int.reduceGT, Int.reduceEq, Int.reduceNe, Int.le_refl, Nat.le_refl, Nat.reduceAdd, ne_eq, not_false_eq_true, reduceCtorEq, beq_true, beq_false, BEq.rfl, Bool.not_true, Bool.not_false, decide_true, decide_false, exists_prop, hval]
    refine ret_cast (b := .tup [wordsAV (.slice none 0 0) [], iv 171]) ⟨rfl, fun m h => ⟨(Cast.nil 2).2 m trivial, trivial, trivial⟩⟩ (Hp.le_refl _) (.inl ⟨hval, rfl, rfl⟩)
  | true =>
    have hvr : VW G roots := (valid_VW roots).1 hval
    have hcl : (spOf G).c.length = endO G := by simp only [spOf, cellsO_len]
    simp only [go_sem, Int.natCast_nonneg, Nat.reduceEqDiff, Nat.reduceAdd, Nat.reduceSub, Nat.reduceLT, Nat.reduceMul, Nat.reduceBEq, Nat.reduceLeDiff, ↓reduceIte, Int.toNat_natCast, Int.reduceToNat, Int.toNat_zero, Int.toNat_one, not_true_eq_false, false_or, or_self, Nat.reduceGT, Option.isSome_some, Bool.and_self, Nat.zero_add, Nat.mul_one, List.length_map, List.take_length, Int.cast_ofNat_Int, Int.reduceLE, Int.reduceLT, Int.reduceGE, Int.reduceGT, Int.reduceEq, Int.reduceNe, Int.le_refl, Nat.le_refl, Nat.reduceAdd, ne_eq, not_false_eq_true, reduceCtorEq, beq_true, beq_false, BEq.rfl, Bool.not_true, Bool.not_false, decide_true, decide_false, exists_prop, hval, hblk, HeapV, wordsAV, hcl]
    intro tb htb
    have hbt : hb ≠ tb := by rintro rfl; rw [htb.1] at hblk; cases hblk
    have hbt' : (hb = tb) = False := eq_false hbt
    simp only [go_sem, Int.natCast_nonneg, Nat.reduceEqDiff, Nat.reduceAdd, Nat.reduceSub, Nat.reduceLT, Nat.reduceMul, Nat.reduceBEq, Nat.reduceLeDiff, ↓reduceIte, Int.toNat_natCast, Int.reduceToNat, Int.toNat_zero, Int.toNat_one, not_true_eq_false, false_or, or_self, Nat.reduceGT, Option.isSome_some, Bool.and_self, Nat.zero_add, Nat.mul_one, List.length_map, List.take_length, Int.cast_ofNat_Int, Int.reduceLE, Int.reduceLT, Int.reduceGE, Int.reduceGT, Int.reduceEq, Int.reduceNe, Int.le_refl, Nat.le_refl, Nat.reduceAdd, ne_eq, not_false_eq_true, reduceCtorEq, beq_true, beq_false, BEq.rfl, Bool.not_true, Bool.not_false, decide_true, decide_false, exists_prop, hbt', hcl]
    refine ⟨by simp only [maxLen]; omega, by omega, fun mb hmb => ?_⟩
    intro pb hpb
    have hdp := fun T cs => Hp.del_set _ _ T cs hpb.1
    simp only [hdp]
    refine ⟨by simp only [maxLen]; omega, by omega, fun lb hlb => ?_⟩
    have n1 : tb ≠ mb := by rintro rfl; have := hmb.1; simp [Hp.setBlk] at this
    have n2 : tb ≠ lb := by rintro rfl; have := hlb.1; simp [Hp.setBlk, n1] at this
    have n3 : mb ≠ lb := by rintro rfl; have := hlb.1; simp [Hp.setBlk] at this
    have n4 : hb ≠ mb := by rintro rfl; have := hmb.1; simp [Hp.setBlk, hbt, hblk] at this
    have n5 : hb ≠ lb := by rintro rfl; have := hlb.1; simp [Hp.setBlk, hbt, n4, hblk] at this
    rw [zero_ints G]
    refine copyL_by (b := lb) (o := 0) (n := roots.length) (c := roots.length) (T := 65) (cs := (List.replicate roots.length [Value.bool false, Value.int .i64 0]).flatten.map AV.v) (bq := wordsAV hr roots) (h2 := hr) (ys := roots.map WordG.av) Try.k32 Try.s65
      (by simp [go_sem]) (by simp [go_sem, wordsAV]) (Cast.refl _) (by simp [go_sem]) (by simp) (by rw [zero_words_len]; omega) (ones_word roots) (by simp [go_sem]) ?_
    have hsw : (roots.map WordG.av).flatMap AV.cells ++ ((List.replicate roots.length [Value.bool false, Value.int .i64 0]).flatten.map AV.v).drop ((roots.map WordG.av).flatMap AV.cells).length = flatW roots ++ [] := by
      rw [List.drop_of_length_le (by rw [zero_words_len]; have := flatW_len roots; simp only [flatW] at this; omega)]; rfl
    simp only [go_sem, Int.natCast_nonneg, Nat.reduceEqDiff, Nat.reduceAdd, Nat.reduceSub, Nat.reduceLT, Nat.reduceMul, Nat.reduceBEq, Nat.reduceLeDiff, ↓reduceIte, Int.toNat_natCast, Int.reduceToNat, Int.toNat_zero, Int.toNat_one, not_true_eq_false, false_or, or_self, Nat.reduceGT, Option.isSome_some, Bool.and_self, Nat.zero_add, Nat.mul_one, List.length_map, List.take_length, Int.cast_ofNat_Int, Int.reduceLE, Int.reduceLT, Int.reduceGE, Int.reduceGT, Int.reduceEq, Int.reduceNe, Int.le_refl, Nat.le_refl, Nat.reduceAdd, ne_eq, not_false_eq_true, reduceCtorEq, beq_true, beq_false, BEq.rfl, Bool.not_true, Bool.not_false, decide_true, decide_false, exists_prop, Hp.set_set]
    rw [hsw]
    have hfr : ∀ j x, hp'.blk j = some x → j ≠ tb ∧ j ≠ mb ∧ j ≠ lb := by
      intro j x hj
      refine ⟨?_, ?_, ?_⟩
      · rintro rfl; rw [htb.1] at hj; cases hj
      · rintro rfl; have := hmb.1; rw [Hp.setBlk_blk, if_neg (Ne.symm n1)] at this; rw [this] at hj; cases hj
      · rintro rfl; have := hlb.1; rw [Hp.setBlk_blk, if_neg (Ne.symm n3), Hp.setBlk_blk, if_neg (Ne.symm n2)] at this; rw [this] at hj; cases hj
    generalize hX1 : ((hp'.setBlk tb 103 [.v (.slice none 0 0), .v (.slice none 0 0), .v (.slice none 0 0)]).setBlk mb 3 ((mvArr G (endO G) []).map iv)).setBlk lb 65 (flatW roots ++ []) = hp1
    have b0 : ∀ j x, hp'.blk j = some x → hp1.blk j = some x := fun j x hj => by
      obtain ⟨q1, q2, q3⟩ := hfr j x hj
      rw [← hX1, Hp.setBlk_blk, if_neg q3, Hp.setBlk_blk, if_neg q2, Hp.setBlk_blk, if_neg q1]; exact hj
    have bt : hp1.blk tb = some (103, [.v (.slice none 0 0), .v (.slice none 0 0), .v (.slice none 0 0)]) := by
      rw [← hX1, Hp.setBlk_blk, if_neg n2, Hp.setBlk_blk, if_neg n1, Hp.setBlk_blk, if_pos rfl]
    have bm : hp1.blk mb = some (3, (mvArr G (endO G) []).map iv) := by
      rw [← hX1, Hp.setBlk_blk, if_neg n3, Hp.setBlk_blk, if_pos rfl]
    have bl : hp1.blk lb = some (65, flatW roots ++ []) := by
      rw [← hX1, Hp.setBlk_blk, if_pos rfl]
    have hown : ∀ j, j ≠ tb → ¬ Own3 tb (.slice none 0 0) (.slice none 0 0) (.slice none 0 0) j := fun j hj h => by
      rcases h with h | h | h | h
      · exact hj h
      · cases h
      · cases h
      · cases h
    have ht0 : ToI hp1 tb (.slice none 0 0) (.slice none 0 0) (.slice none 0 0) (spOf []) := ⟨bt, .inl ⟨rfl, rfl, rfl⟩, .inl ⟨rfl, rfl, rfl⟩, .inl ⟨rfl, rfl, rfl⟩, fun b hb => by cases hb⟩
    have hmp1 : hp1.mp = hp'.mp := by rw [← hX1]; rfl
    have hgl1 : hp1.gl = hp'.gl := by rw [← hX1]; rfl
    have hsp1 : hp1.sp = hp'.sp := by rw [← hX1]; rfl
    refine callX_by (move_calls (L := []) (X := []) _ ph (b0 _ _ hblk) bm ht0 bl (hown _ hbt) (hown _ (Ne.symm n1)) (hown _ (Ne.symm n2)) ⟨List.nodup_nil, fun a ha => by cases ha⟩ rfl hvr hN (by omega)) ?_
    rintro r hp2 ⟨rfl, c2, s2, o2, mi⟩
    have hfl : fL [] roots roots.length = foundL [] roots := by rw [fL, List.take_length]
    have hc0 : ColI G roots mb lb tb [] hp' 0 hp2 c2 s2 o2 (foundL [] roots) := by
      refine ⟨rch_start hvr, ?_, ?_, ?_, fun j x hj => ?_, mi.nm, mi.nl, mi.mp.trans hmp1, mi.gl.trans hgl1, by rw [mi.sp, hsp1]; exact List.Sublist.refl _⟩
      · have := mi.to
        rw [hfl] at this
        simpa [objI] using this
      · have := mi.mv; rwa [hfl] at this
      · have := mi.row
        rw [hfl, List.take_length, List.drop_length] at this; simpa using this
      · obtain ⟨q1, q2, q3⟩ := hfr j x hj
        exact mi.fr j x (b0 j x hj) q2 q3 (hown j q1)
    simp only [go_sem, Int.natCast_nonneg, Nat.reduceEqDiff, Nat.reduceAdd, Nat.reduceSub, Nat.reduceLT, Nat.reduceMul, Nat.reduceBEq, Nat.reduceLeDiff, ↓reduceIte, Int.toNat_natCast, Int.reduceToNat, Int.toNat_zero, Int.toNat_one, not_true_eq_false, false_or, or_self, Nat.reduceGT, Option.isSome_some, Bool.and_self, Nat.zero_add, Nat.mul_one, List.length_map, List.take_length, Int.cast_ofNat_Int, Int.reduceLE, Int.reduceLT, Int.reduceGE, Int.reduceGT, Int.reduceEq, Int.reduceNe, Int.le_refl, Nat.le_refl, Nat.reduceAdd, ne_eq, not_false_eq_true, reduceCtorEq, beq_true, beq_false, BEq.rfl, Bool.not_true, Bool.not_false, decide_true, decide_false, exists_prop]
    refine aw_loopX 67 (fun x : Nat × Hp × Value × Value × Value × List Int => [(2, .ref ph [hptrAV hb]), (6, tptrAV tb), (8, .fn (.func 69) [] [.ref (.pointer (some ⟨pb, 0, none⟩)) [.v (.slice (some ⟨mb, 0, none⟩) (endO G) (endO G))], tptrAV tb, .ref ph [hptrAV hb]]), (9, .v (.slice (some ⟨lb, 0, none⟩) roots.length roots.length)), (10, .v (.int .i64 x.1))])
      (fun x => x.2.1) (fun x => ColI G roots mb lb tb [] hp' x.1 x.2.1 x.2.2.1 x.2.2.2.1 x.2.2.2.2.1 x.2.2.2.2.2) (fun x => G.length + 1 - x.1) (0, hp2, c2, s2, o2, foundL [] roots) hc0 (le_mkSl rfl (Hp.le_refl _) (by simp [go_sem, tptrAV, hptrAV])) ?_
    rintro ⟨i, hpi, ci, si, oi, L⟩ ci0
    simp only at ci0
    clear hc0 mi bm bl bt ht0 hX1 hmp1 hgl1 hsp1 b0
    obtain ⟨a1, d1, rfl⟩ := rowB_shape ci0.to.c
    obtain ⟨a2, d2, rfl⟩ := rowB_shape ci0.to.s
    obtain ⟨a3, d3, rfl⟩ := rowB_shape ci0.to.o
    have hbti := ci0.to.blk
    have hlenX : (objI G i L).length = L.length := shaped_len (objI_shaped G i L)
    have hoL : (spOf (objI G i L)).o.length = L.length := by rw [show (spOf (objI G i L)).o = addrsF 0 (objI G i L) from rfl, addrsF_len, hlenX]
    have hLG := lok_len ci0.rc.ok
    have hGl := len_endO G
    refine awp_sound (mu := [65]) _ _ _ ?_
    simp only [go_sem, Int.natCast_nonneg, Nat.reduceEqDiff, Nat.reduceAdd, Nat.reduceSub, Nat.reduceLT, Nat.reduceMul, Nat.reduceBEq, Nat.reduceLeDiff, ↓reduceIte, Int.toNat_natCast, Int.reduceToNat, Int.toNat_zero, Int.toNat_one, not_true_eq_false, false_or, or_self, Nat.reduceGT, Option.isSome_some, Bool.and_self, Nat.zero_add, Nat.mul_one, List.length_map, List.take_length, Int.cast_ofNat_Int, Int.reduceLE, Int.reduceLT, Int.reduceGE, Int.reduceGT, Int.reduceEq, Int.reduceNe, Int.le_refl, Nat.le_refl, Nat.reduceAdd, ne_eq, not_false_eq_true, reduceCtorEq, beq_true, beq_false, BEq.rfl, Bool.not_true, Bool.not_false, decide_true, decide_false, exists_prop, tptrAV, hptrAV, hbti, hoL]
    refine brK_mk (fun h1 => ?_) (fun h1 => ?_)
    · have hi : i < L.length := by simpa using h1
      obtain ⟨a, ha⟩ := some_at' L i hi
      have hX := objI_at (G := G) ha
      have wi : IntKind.i64.wrap ((i : Int) + 1) = ((i + 1 : Nat) : Int) := IntWalk.i64_in _ (by omega)
      obtain ⟨bo, do_, ro, eo, hbo⟩ := rowB_pos ci0.to.o (by rw [hoL]; omega)
      simp only [Value.slice.injEq] at eo
      obtain ⟨rfl, _, rfl⟩ := eo
      have hAl : ((L.take i).map (mvO G L)).length = i := by simp; omega
      have hoa : (spOf (objI G i L)).o[i]? = some ((endO ((L.take i).map (mvO G L)) : Nat) : Int) := by
        rw [hX]
        have := addrs_at ((L.take i).map (mvO G L)) (origO G a) ((L.drop (i + 1)).map (origO G))
        rw [hAl] at this; exact this
      have hrd : ((spOf (objI G i L)).o.map iv ++ ro).drop i = .v (.int .i64 (endO ((L.take i).map (mvO G L)) : Nat)) :: (((spOf (objI G i L)).o.map iv).drop (i + 1) ++ ro) := by
        rw [List.drop_append_of_le_length (by rw [List.length_map, hoL]; omega), iv_drop _ _ _ hoa]; rfl
      simp only [go_sem, Int.natCast_nonneg, Nat.reduceEqDiff, Nat.reduceAdd, Nat.reduceSub, Nat.reduceLT, Nat.reduceMul, Nat.reduceBEq, Nat.reduceLeDiff, ↓reduceIte, Int.toNat_natCast, Int.reduceToNat, Int.toNat_zero, Int.toNat_one, not_true_eq_false, false_or, or_self, Nat.reduceGT, Option.isSome_some, Bool.and_self, Nat.zero_add, Nat.mul_one, List.length_map, List.take_length, Int.cast_ofNat_Int, Int.reduceLE, Int.reduceLT, Int.reduceGE, Int.reduceGT, Int.reduceEq, Int.reduceNe, Int.le_refl, Nat.le_refl, Nat.reduceAdd, ne_eq, not_false_eq_true, reduceCtorEq, beq_true, beq_false, BEq.rfl, Bool.not_true, Bool.not_false, decide_true, decide_false, exists_prop, h1, hbti, hbo, hrd, hoL]
      have hobj : objAt (objI G i L) ((endO ((L.take i).map (mvO G L)) : Nat) : Int) = some (origO G a) := by
        rw [hX]
        have := objF_at ((L.take i).map (mvO G L)) (origO G a) ((L.drop (i + 1)).map (origO G)) 0
        rw [Nat.zero_add] at this; exact this
      obtain ⟨k0, k1, k2, k3, k4⟩ := obj_spec hobj
      have hXe : endO (objI G i L) ≤ endO G := by rw [shaped_end (objI_shaped G i L)]; exact lok_end ci0.rc.ok
      have hcpos : 0 < (spOf (objI G i L)).c.length := by
        have : (cellsO (objI G i L)).length = (spOf (objI G i L)).c.length := rfl
        omega
      obtain ⟨bc, dc, rc, ec, hbc⟩ := rowB_pos ci0.to.c hcpos
      simp only [Value.slice.injEq] at ec
      obtain ⟨rfl, _, rfl⟩ := ec
      refine ⟨by omega, ?_⟩
      refine callX_by (fieldsB_calls ci0.to ((endO ((L.take i).map (mvO G L)) : Nat) : Int) (((origO G a).fs.length : Int) + 1) k0 k2 (by omega) k3 (by simp only [spOf, cellsO_len, maxLen]; omega)) ?_
      rintro r hp3 ⟨⟨off, rfl, hoff, hoffl⟩, rfl⟩
      have hkn : (((origO G a).fs.length : Int) + 1 - 1).toNat = (origO G a).fs.length := by omega
      rw [hkn] at hoff hoffl
      simp only [go_sem, Int.natCast_nonneg, Nat.reduceEqDiff, Nat.reduceAdd, Nat.reduceSub, Nat.reduceLT, Nat.reduceMul, Nat.reduceBEq, Nat.reduceLeDiff, ↓reduceIte, Int.toNat_natCast, Int.reduceToNat, Int.toNat_zero, Int.toNat_one, not_true_eq_false, false_or, or_self, Nat.reduceGT, Option.isSome_some, Bool.and_self, Nat.zero_add, Nat.mul_one, List.length_map, List.take_length, Int.cast_ofNat_Int, Int.reduceLE, Int.reduceLT, Int.reduceGE, Int.reduceGT, Int.reduceEq, Int.reduceNe, Int.le_refl, Nat.le_refl, Nat.reduceAdd, ne_eq, not_false_eq_true, reduceCtorEq, beq_true, beq_false, BEq.rfl, Bool.not_true, Bool.not_false, decide_true, decide_false, exists_prop, hkn]
      have hwfa := wf_orig hwf a
      have hfsl : (origO G a).fs.length ≤ endO G := by
        have := hXe; rw [hX, endO_app, endO_cons] at this; simp only [osz] at this; omega
      obtain ⟨hb3, nb3⟩ := ci0.fr hb _ hblk
      refine callX_by (cloneB_calls (b := bc) (o := off) (n := (origO G a).fs.length) hbc (by rw [List.length_append, flatW_len]; omega) (by omega)) ?_
      rintro r hp4 (⟨hn0, ⟨x0, rfl⟩, rfl⟩ | ⟨hn0, b', cap', rest', hfb', hcp1, hcp2, hcp3, rfl, rfl⟩)
      · simp only [go_sem, Int.natCast_nonneg, Nat.reduceEqDiff, Nat.reduceAdd, Nat.reduceSub, Nat.reduceLT, Nat.reduceMul, Nat.reduceBEq, Nat.reduceLeDiff, ↓reduceIte, Int.toNat_natCast, Int.reduceToNat, Int.toNat_zero, Int.toNat_one, not_true_eq_false, false_or, or_self, Nat.reduceGT, Option.isSome_some, Bool.and_self, Nat.zero_add, Nat.mul_one, List.length_map, List.take_length, Int.cast_ofNat_Int, Int.reduceLE, Int.reduceLT, Int.reduceGE, Int.reduceGT, Int.reduceEq, Int.reduceNe, Int.le_refl, Nat.le_refl, Nat.reduceAdd, ne_eq, not_false_eq_true, reduceCtorEq, beq_true, beq_false, BEq.rfl, Bool.not_true, Bool.not_false, decide_true, decide_false, exists_prop]
        refine callX_by (move0_calls (some ⟨x0, 0, none⟩) 0 _ _ _ _) ?_
        rintro r hp5 ⟨rfl, rfl⟩
        simp only [go_sem, Int.natCast_nonneg, Nat.reduceEqDiff, Nat.reduceAdd, Nat.reduceSub, Nat.reduceLT, Nat.reduceMul, Nat.reduceBEq, Nat.reduceLeDiff, ↓reduceIte, Int.toNat_natCast, Int.reduceToNat, Int.toNat_zero, Int.toNat_one, not_true_eq_false, false_or, or_self, Nat.reduceGT, Option.isSome_some, Bool.and_self, Nat.zero_add, Nat.mul_one, List.length_map, List.take_length, Int.cast_ofNat_Int, Int.reduceLE, Int.reduceLT, Int.reduceGE, Int.reduceGT, Int.reduceEq, Int.reduceNe, Int.le_refl, Nat.le_refl, Nat.reduceAdd, ne_eq, not_false_eq_true, reduceCtorEq, beq_true, beq_false, BEq.rfl, Bool.not_true, Bool.not_false, decide_true, decide_false, exists_prop, hbti, hbo, hrd, hoL]
        refine ⟨by omega, ?_⟩
        refine callX_by (fieldsB_calls ci0.to ((endO ((L.take i).map (mvO G L)) : Nat) : Int) (((origO G a).fs.length : Int) + 1) k0 k2 (by omega) k3 (by simp only [spOf, cellsO_len, maxLen]; omega)) ?_
        rintro r hp6 ⟨⟨off2, rfl, _, _⟩, rfl⟩
        simp only [go_sem, Int.natCast_nonneg, Nat.reduceEqDiff, Nat.reduceAdd, Nat.reduceSub, Nat.reduceLT, Nat.reduceMul, Nat.reduceBEq, Nat.reduceLeDiff, ↓reduceIte, Int.toNat_natCast, Int.reduceToNat, Int.toNat_zero, Int.toNat_one, not_true_eq_false, false_or, or_self, Nat.reduceGT, Option.isSome_some, Bool.and_self, Nat.zero_add, Nat.mul_one, List.length_map, List.take_length, Int.cast_ofNat_Int, Int.reduceLE, Int.reduceLT, Int.reduceGE, Int.reduceGT, Int.reduceEq, Int.reduceNe, Int.le_refl, Nat.le_refl, Nat.reduceAdd, ne_eq, not_false_eq_true, reduceCtorEq, beq_true, beq_false, BEq.rfl, Bool.not_true, Bool.not_false, decide_true, decide_false, exists_prop, hkn, hn0]
        refine copy0_by (a := some ⟨bc, off2, none⟩) (a2 := some ⟨x0, 0, none⟩) (c := 0) (c2 := 0) Try.k32 Try.s65 (by simp [go_sem]) (by simp [go_sem]) (by simp [go_sem]) ?_
        simp only [go_sem, Int.natCast_nonneg, Nat.reduceEqDiff, Nat.reduceAdd, Nat.reduceSub, Nat.reduceLT, Nat.reduceMul, Nat.reduceBEq, Nat.reduceLeDiff, ↓reduceIte, Int.toNat_natCast, Int.reduceToNat, Int.toNat_zero, Int.toNat_one, not_true_eq_false, false_or, or_self, Nat.reduceGT, Option.isSome_some, Bool.and_self, Nat.zero_add, Nat.mul_one, List.length_map, List.take_length, Int.cast_ofNat_Int, Int.reduceLE, Int.reduceLT, Int.reduceGE, Int.reduceGT, Int.reduceEq, Int.reduceNe, Int.le_refl, Nat.le_refl, Nat.reduceAdd, ne_eq, not_false_eq_true, reduceCtorEq, beq_true, beq_false, BEq.rfl, Bool.not_true, Bool.not_false, decide_true, decide_false, exists_prop, wi]
        have hfs0 : (origO G a).fs = [] := List.eq_nil_of_length_eq_zero hn0
        have hL0 : foundL L (origO G a).fs = L := by rw [hfs0]; rfl
        have hst := rch_step hwf ci0.rc ha
        have hoj := objI_step ci0.rc ha
        rw [hL0] at hst hoj
        have hoj2 : objI G (i + 1) L = objI G i L := by
          rw [hoj, hX, hfs0]
          simp [hfs0]
          exact ObjG.ext_iff'.2 ⟨rfl, by simp [hfs0]⟩
        refine ⟨(i + 1, hp6, _, _, _, L), by simp only; omega, ⟨hst, by rw [hoj2]; exact ci0.to, ci0.mv, ci0.row, ci0.fr, ci0.nm, ci0.nl, ci0.mp, ci0.gl, ci0.sp⟩, le_mkSl rfl (Hp.le_refl _) (by simp [go_sem, tptrAV, hptrAV])⟩
      · have hoe : off = (endO ((L.take i).map (mvO G L)) + 1) * 2 := by rw [hoff (by omega)]; omega
        have hcont : List.take ((origO G a).fs.length * 2) (List.drop off (flatW (spOf (objI G i L)).c ++ rc)) = flatW (origO G a).fs := by
          rw [show (spOf (objI G i L)).c = cellsO (objI G i L) from rfl, hX, hoe]
          exact cells_fields _ _ _ _
        rw [hcont]
        have b'no := toI_fresh ci0.to hfb'
        have q1 : hb ≠ b' := by rintro rfl; rw [hfb'.1] at hb3; cases hb3
        have q2 : mb ≠ b' := by rintro rfl; have := ci0.mv; rw [hfb'.1] at this; cases this
        have q3 : lb ≠ b' := by rintro rfl; have := ci0.row; rw [hfb'.1] at this; cases this
        have htb' := ci0.to.setBlk b'no 65 (flatW (origO G a).fs ++ rest')
        simp only [go_sem, Int.natCast_nonneg, Nat.reduceEqDiff, Nat.reduceAdd, Nat.reduceSub, Nat.reduceLT, Nat.reduceMul, Nat.reduceBEq, Nat.reduceLeDiff, ↓reduceIte, Int.toNat_natCast, Int.reduceToNat, Int.toNat_zero, Int.toNat_one, not_true_eq_false, false_or, or_self, Nat.reduceGT, Option.isSome_some, Bool.and_self, Nat.zero_add, Nat.mul_one, List.length_map, List.take_length, Int.cast_ofNat_Int, Int.reduceLE, Int.reduceLT, Int.reduceGE, Int.reduceGT, Int.reduceEq, Int.reduceNe, Int.le_refl, Nat.le_refl, Nat.reduceAdd, ne_eq, not_false_eq_true, reduceCtorEq, beq_true, beq_false, BEq.rfl, Bool.not_true, Bool.not_false, decide_true, decide_false, exists_prop]
        refine callX_by (move_calls (lb := b') (L := L) (X := objI G i L) (rest := rest') (.pointer (some ⟨pb, 0, none⟩)) ph (by rw [Hp.setBlk_blk, if_neg q1]; exact hb3) (by rw [Hp.setBlk_blk, if_neg q2]; exact ci0.mv) htb' (by rw [Hp.setBlk_blk, if_pos rfl]) nb3 ci0.nm b'no ci0.rc.ok (objI_shaped G i L) hwfa hN (by omega)) ?_
        rintro r hp5 ⟨rfl, c4, s4, o4, mi⟩
        have hfl2 : fL L (origO G a).fs (origO G a).fs.length = foundL L (origO G a).fs := by rw [fL, List.take_length]
        have mto := mi.to
        have mmv := mi.mv
        have mrow := mi.row
        rw [hfl2] at mto mmv mrow
        rw [List.take_length, List.drop_length, List.append_nil] at mrow
        have hX' : objI G i L ++ ((foundL L (origO G a).fs).drop L.length).map (origO G) = (L.take i).map (mvO G L) ++ origO G a :: ((L.drop (i + 1)).map (origO G) ++ ((foundL L (origO G a).fs).drop L.length).map (origO G)) := by
          rw [hX]; simp
        have hst := rch_step hwf ci0.rc ha
        have hoj := objI_step ci0.rc ha
        rw [hX'] at mto
        generalize hA : (L.take i).map (mvO G L) = A at *
        generalize hB : (L.drop (i + 1)).map (origO G) ++ ((foundL L (origO G a).fs).drop L.length).map (origO G) = B at *
        have hXe' : endO (A ++ origO G a :: B) ≤ endO G := by
          have h9 := lok_end hst.ok
          have h8 := shaped_end (objI_shaped G (i + 1) (foundL L (origO G a).fs))
          rw [← h8, hoj] at h9
          rw [endO_app, endO_cons] at h9 ⊢
          simpa [osz] using h9
        have hobj' : objAt (A ++ origO G a :: B) ((endO A : Nat) : Int) = some (origO G a) := by
          have := objF_at A (origO G a) B 0
          rw [Nat.zero_add] at this; exact this
        obtain ⟨_, l1, l2', l3, _⟩ := obj_spec hobj'
        have hopos : 0 < (spOf (A ++ origO G a :: B)).o.length := by simp [spOf, addrsF_len]; omega
        have hcpos' : 0 < (spOf (A ++ origO G a :: B)).c.length := by
          have : (cellsO (A ++ origO G a :: B)).length = (spOf (A ++ origO G a :: B)).c.length := rfl
          omega
        obtain ⟨bo4, do4, ro4, rfl, hbo4⟩ := rowB_pos mto.o hopos
        obtain ⟨bc4, dc4, rc4, rfl, hbc4⟩ := rowB_pos mto.c hcpos'
        obtain ⟨a4, d4, rfl⟩ := rowB_shape mto.s
        have hbt4 := mto.blk
        have hoa4 : (spOf (A ++ origO G a :: B)).o[i]? = some ((endO A : Nat) : Int) := by
          have := addrs_at A (origO G a) B
          rw [hAl] at this; exact this
        have hiX : i < (spOf (A ++ origO G a :: B)).o.length := (List.getElem?_eq_some_iff.1 hoa4).1
        have hrd4 : ((spOf (A ++ origO G a :: B)).o.map iv ++ ro4).drop i = .v (.int .i64 (endO A : Nat)) :: (((spOf (A ++ origO G a :: B)).o.map iv).drop (i + 1) ++ ro4) := by
          rw [List.drop_append_of_le_length (by rw [List.length_map]; omega), iv_drop _ _ _ hoa4]; rfl
        simp only [go_sem, Int.natCast_nonneg, Nat.reduceEqDiff, Nat.reduceAdd, Nat.reduceSub, Nat.reduceLT, Nat.reduceMul, Nat.reduceBEq, Nat.reduceLeDiff, ↓reduceIte, Int.toNat_natCast, Int.reduceToNat, Int.toNat_zero, Int.toNat_one, not_true_eq_false, false_or, or_self, Nat.reduceGT, Option.isSome_some, Bool.and_self, Nat.zero_add, Nat.mul_one, List.length_map, List.take_length, Int.cast_ofNat_Int, Int.reduceLE, Int.reduceLT, Int.reduceGE, Int.reduceGT, Int.reduceEq, Int.reduceNe, Int.le_refl, Nat.le_refl, Nat.reduceAdd, ne_eq, not_false_eq_true, reduceCtorEq, beq_true, beq_false, BEq.rfl, Bool.not_true, Bool.not_false, decide_true, decide_false, exists_prop, hbt4, hbo4, hrd4]
        refine ⟨by omega, ?_⟩
        refine callX_by (fieldsB_calls mto ((endO A : Nat) : Int) (((origO G a).fs.length : Int) + 1) k0 l2' (by omega) l3 (by simp only [spOf, cellsO_len, maxLen]; omega)) ?_
        rintro r hp6 ⟨⟨off4, rfl, hoff4, hoffl4⟩, rfl⟩
        rw [hkn] at hoff4 hoffl4
        have hoe4 : off4 = (endO A + 1) * 2 := by rw [hoff4 (by omega)]; omega
        simp only [go_sem, Int.natCast_nonneg, Nat.reduceEqDiff, Nat.reduceAdd, Nat.reduceSub, Nat.reduceLT, Nat.reduceMul, Nat.reduceBEq, Nat.reduceLeDiff, ↓reduceIte, Int.toNat_natCast, Int.reduceToNat, Int.toNat_zero, Int.toNat_one, not_true_eq_false, false_or, or_self, Nat.reduceGT, Option.isSome_some, Bool.and_self, Nat.zero_add, Nat.mul_one, List.length_map, List.take_length, Int.cast_ofNat_Int, Int.reduceLE, Int.reduceLT, Int.reduceGE, Int.reduceGT, Int.reduceEq, Int.reduceNe, Int.le_refl, Nat.le_refl, Nat.reduceAdd, ne_eq, not_false_eq_true, reduceCtorEq, beq_true, beq_false, BEq.rfl, Bool.not_true, Bool.not_false, decide_true, decide_false, exists_prop, hkn]
        have hml : ((origO G a).fs.map (mvWord G (foundL L (origO G a).fs))).length = (origO G a).fs.length := by simp
        have hsrc : List.take ((origO G a).fs.length * 2) (List.drop 0 (flatW ((origO G a).fs.map (mvWord G (foundL L (origO G a).fs))) ++ rest')) = flatW ((origO G a).fs.map (mvWord G (foundL L (origO G a).fs))) := by
          rw [List.drop_zero, List.take_append_of_le_length (by rw [flatW_len, hml]; exact Nat.le_refl _), List.take_of_length_le (by rw [flatW_len, hml]; exact Nat.le_refl _)]
        refine copyR_by (b := bc4) (o := off4) (n := (origO G a).fs.length) (c := (origO G a).fs.length) (b2 := b') (o2 := 0) (c2 := cap') (T := 65) (T2 := 65) (cs := flatW (spOf (A ++ origO G a :: B)).c ++ rc4) (cs2 := flatW ((origO G a).fs.map (mvWord G (foundL L (origO G a).fs))) ++ rest') Try.k32 Try.s65
          (by simp [go_sem]) (by simp [go_sem]) (by simp [go_sem, hbc4]) (by simp [go_sem, mrow]) (by rw [List.length_append, flatW_len]; omega) (by rw [List.length_append, flatW_len, hml]; omega) (by rw [hsrc]; exact flatW_ones _) (by simp [go_sem]) ?_
        obtain ⟨p1, p2, p3, p4⟩ := cells_put A (origO G a) B ((origO G a).fs.map (mvWord G (foundL L (origO G a).fs))) hml rc4
        have hto6 := toI_setC (g' := spOf (A ++ ⟨(origO G a).tag, (origO G a).fs.map (mvWord G (foundL L (origO G a).fs))⟩ :: B)) mto hbc4 p4 p2 p3
        rw [hsrc, hoe4, show (spOf (A ++ origO G a :: B)).c = cellsO (A ++ origO G a :: B) from rfl, p1]
        simp only [go_sem, Int.natCast_nonneg, Nat.reduceEqDiff, Nat.reduceAdd, Nat.reduceSub, Nat.reduceLT, Nat.reduceMul, Nat.reduceBEq, Nat.reduceLeDiff, ↓reduceIte, Int.toNat_natCast, Int.reduceToNat, Int.toNat_zero, Int.toNat_one, not_true_eq_false, false_or, or_self, Nat.reduceGT, Option.isSome_some, Bool.and_self, Nat.zero_add, Nat.mul_one, List.length_map, List.take_length, Int.cast_ofNat_Int, Int.reduceLE, Int.reduceLT, Int.reduceGE, Int.reduceGT, Int.reduceEq, Int.reduceNe, Int.le_refl, Nat.le_refl, Nat.reduceAdd, ne_eq, not_false_eq_true, reduceCtorEq, beq_true, beq_false, BEq.rfl, Bool.not_true, Bool.not_false, decide_true, decide_false, exists_prop, wi]
        have nbm : mb ≠ bc4 := fun e => mi.nm (.inr (.inl (by rw [e]; rfl)))
        obtain ⟨rl1, rl2⟩ := mi.fr lb _ (by rw [Hp.setBlk_blk, if_neg q3]; exact ci0.row) (Ne.symm n3) q3 ci0.nl
        have nbl : lb ≠ bc4 := fun e => rl2 (.inr (.inl (by rw [e]; rfl)))
        refine ⟨(i + 1, hp6.setBlk bc4 65 (flatW (cellsO (A ++ ⟨(origO G a).tag, (origO G a).fs.map (mvWord G (foundL L (origO G a).fs))⟩ :: B)) ++ rc4), _, _, _, foundL L (origO G a).fs), by simp only; omega, ⟨hst, by rw [hoj]; exact hto6, by rw [Hp.setBlk_blk, if_neg nbm]; exact mmv, by rw [Hp.setBlk_blk, if_neg nbl]; exact rl1, fun j x hj => ?_, mi.nm, rl2, mi.mp.trans ci0.mp, mi.gl.trans ci0.gl, by rw [Hp.setBlk_sp, mi.sp]; exact ci0.sp⟩, le_mkSl rfl (Hp.le_refl _) (by simp [go_sem, tptrAV, hptrAV])⟩
        obtain ⟨r1, r2⟩ := ci0.fr j x hj
        have jb : j ≠ b' := by rintro rfl; rw [hfb'.1] at r1; cases r1
        obtain ⟨s1, s2⟩ := mi.fr j x (by rw [Hp.setBlk_blk, if_neg jb]; exact r1) (hfr j x hj).2.1 jb r2
        have jc : j ≠ bc4 := fun e => s2 (.inr (.inl (by rw [e]; rfl)))
        exact ⟨by rw [Hp.setBlk_blk, if_neg jc]; exact s1, s2⟩
    · obtain ⟨hbi, nbi⟩ := ci0.fr hb _ hblk
      have hLi : L.length ≤ i := by simp at h1; omega
      have hLe := rch_end ci0.rc hLi
      simp only [go_sem, Int.natCast_nonneg, Nat.reduceEqDiff, Nat.reduceAdd, Nat.reduceSub, Nat.reduceLT, Nat.reduceMul, Nat.reduceBEq, Nat.reduceLeDiff, ↓reduceIte, Int.toNat_natCast, Int.reduceToNat, Int.toNat_zero, Int.toNat_one, not_true_eq_false, false_or, or_self, Nat.reduceGT, Option.isSome_some, Bool.and_self, Nat.zero_add, Nat.mul_one, List.length_map, List.take_length, Int.cast_ofNat_Int, Int.reduceLE, Int.reduceLT, Int.reduceGE, Int.reduceGT, Int.reduceEq, Int.reduceNe, Int.le_refl, Nat.le_refl, Nat.reduceAdd, ne_eq, not_false_eq_true, reduceCtorEq, beq_true, beq_false, BEq.rfl, Bool.not_true, Bool.not_false, decide_true, decide_false, exists_prop, h1, hbti, hbi, HeapV, wordsAV, intsAV]
      have hcg : objI G i L = collG G roots := by rw [objI, List.take_of_length_le hLi, List.drop_of_length_le hLi, List.map_nil, List.append_nil, collG, ← hLe]
      have hcr : roots.map (mvWord G (foundL [] roots)) = collR G roots := by
        obtain ⟨M, hM⟩ := ci0.rc.pre
        rw [collR, ← hLe, hM]
        apply List.map_congr_left
        intro w hw
        exact (mvWord_app (fun hr' => foundL_mem roots [] w hw hr')).symm
      have no : blockOf (.slice a3 (spOf (objI G i L)).o.length d3) ≠ some hb := fun e => nbi (.inr (.inr (.inr e)))
      have ns : blockOf (.slice a2 (spOf (objI G i L)).s.length d2) ≠ some hb := fun e => nbi (.inr (.inr (.inl e)))
      have nc : blockOf (.slice a1 (spOf (objI G i L)).c.length d1) ≠ some hb := fun e => nbi (.inr (.inl e))
      have nso := ci0.to.so
      have nco : ∀ j, blockOf (.slice a1 (spOf (objI G i L)).c.length d1) = some j → blockOf (.slice a3 (spOf (objI G i L)).o.length d3) ≠ some j := fun j hj => by
        rcases ci0.to.c with ⟨e, _, _⟩ | ⟨b, cap, rest, e, _, _, _, _, hb'⟩
        · rw [e] at hj; cases hj
        · rw [e] at hj; simp only [blockOf, Option.some.injEq] at hj; subst hj; exact rowB_ne ci0.to.o hb' (by decide)
      have ncs : ∀ j, blockOf (.slice a1 (spOf (objI G i L)).c.length d1) = some j → blockOf (.slice a2 (spOf (objI G i L)).s.length d2) ≠ some j := fun j hj => by
        rcases ci0.to.c with ⟨e, _, _⟩ | ⟨b, cap, rest, e, _, _, _, _, hb'⟩
        · rw [e] at hj; cases hj
        · rw [e] at hj; simp only [blockOf, Option.some.injEq] at hj; subst hj; exact rowB_ne ci0.to.s hb' (by decide)
      have clo : lb ≠ hb := Ne.symm n5
      simp only [Own3, not_or] at nbi
      have nl := ci0.nl
      simp only [Own3, not_or] at nl
      have rowc := rowB_setBlk (T := 105) (cs := [iv size, .v (.slice a1 (spOf (objI G i L)).c.length d1), .v (.slice a2 (spOf (objI G i L)).s.length d2), .v (.slice a3 (spOf (objI G i L)).o.length d3)]) ci0.to.c nc
      have rows := rowB_setBlk (T := 105) (cs := [iv size, .v (.slice a1 (spOf (objI G i L)).c.length d1), .v (.slice a2 (spOf (objI G i L)).s.length d2), .v (.slice a3 (spOf (objI G i L)).o.length d3)]) ci0.to.s ns
      have rowo := rowB_setBlk (T := 105) (cs := [iv size, .v (.slice a1 (spOf (objI G i L)).c.length d1), .v (.slice a2 (spOf (objI G i L)).s.length d2), .v (.slice a3 (spOf (objI G i L)).o.length d3)]) ci0.to.o no
      have hA0 : (hpi.setBlk hb 105 [iv size, .v (.slice a1 (spOf (objI G i L)).c.length d1), .v (.slice a2 (spOf (objI G i L)).s.length d2), .v (.slice a3 (spOf (objI G i L)).o.length d3)]).blk hb = some (105, [iv size, .v (.slice a1 (spOf (objI G i L)).c.length d1), .v (.slice a2 (spOf (objI G i L)).s.length d2)] ++ .v (.slice a3 (spOf (objI G i L)).o.length d3) :: []) := by rw [Hp.setBlk_blk, if_pos rfl]; rfl
      have hAf : ∀ j, j ≠ hb → (hpi.setBlk hb 105 [iv size, .v (.slice a1 (spOf (objI G i L)).c.length d1), .v (.slice a2 (spOf (objI G i L)).s.length d2), .v (.slice a3 (spOf (objI G i L)).o.length d3)]).blk j = hpi.blk j := fun j hj => by rw [Hp.setBlk_blk, if_neg hj]
      have hAs : (hpi.setBlk hb 105 [iv size, .v (.slice a1 (spOf (objI G i L)).c.length d1), .v (.slice a2 (spOf (objI G i L)).s.length d2), .v (.slice a3 (spOf (objI G i L)).o.length d3)]).sp = hpi.sp := rfl
      have hAm : (hpi.setBlk hb 105 [iv size, .v (.slice a1 (spOf (objI G i L)).c.length d1), .v (.slice a2 (spOf (objI G i L)).s.length d2), .v (.slice a3 (spOf (objI G i L)).o.length d3)]).mp = hpi.mp := rfl
      have hAg : (hpi.setBlk hb 105 [iv size, .v (.slice a1 (spOf (objI G i L)).c.length d1), .v (.slice a2 (spOf (objI G i L)).s.length d2), .v (.slice a3 (spOf (objI G i L)).o.length d3)]).gl = hpi.gl := rfl
      generalize hpi.setBlk hb 105 [iv size, .v (.slice a1 (spOf (objI G i L)).c.length d1), .v (.slice a2 (spOf (objI G i L)).s.length d2), .v (.slice a3 (spOf (objI G i L)).o.length d3)] = hpA at *
      obtain ⟨hpB, g1, hB0, hBf, hBs, hBm, hBg⟩ := Gives.row (a := .tup ([] ++ .v (.slice (some ⟨lb, 0, none⟩) roots.length roots.length) :: [iv 0])) (xs := (spOf (objI G i L)).o.map iv) (sz := 1) (e := 3) hA0 (by rw [flat_iv]; exact rowo) no (fun x hx => by obtain ⟨y, _, rfl⟩ := List.mem_map.1 hx; rfl) (fun m _ => by rw [AV.oks_iff]; intro x hx; obtain ⟨y, _, rfl⟩ := List.mem_map.1 hx; trivial) (by simp)
      have rows2 := rowB_tr (hp' := hpB) rows (fun j hj => hBf j (fun e => ns (by rw [← e]; exact hj)) (fun e => nso j hj e))
      have rowc2 := rowB_tr (hp' := hpB) rowc (fun j hj => hBf j (fun e => nc (by rw [← e]; exact hj)) (fun e => nco j hj e))
      obtain ⟨hpC, g2, hC0, hCf, hCs, hCm, hCg⟩ := Gives.row (a := .tup ([] ++ .v (.slice (some ⟨lb, 0, none⟩) roots.length roots.length) :: [iv 0])) (pre := [iv size, .v (.slice a1 (spOf (objI G i L)).c.length d1)]) (post := [intsAV (.slice a3 (spOf (objI G i L)).o.length d3) (spOf (objI G i L)).o]) (xs := (spOf (objI G i L)).s.map iv) (sz := 1) (e := 3) hB0 (by rw [flat_iv]; exact rows2) ns (fun x hx => by obtain ⟨y, _, rfl⟩ := List.mem_map.1 hx; rfl) (fun m _ => by rw [AV.oks_iff]; intro x hx; obtain ⟨y, _, rfl⟩ := List.mem_map.1 hx; trivial) (by simp)
      have rowc3 := rowB_tr (hp' := hpC) rowc2 (fun j hj => hCf j (fun e => nc (by rw [← e]; exact hj)) (fun e => ncs j hj e))
      obtain ⟨hpD, g3, hD0, hDf, hDs, hDm, hDg⟩ := Gives.row (a := .tup ([] ++ .v (.slice (some ⟨lb, 0, none⟩) roots.length roots.length) :: [iv 0])) (pre := [iv size]) (post := [intsAV (.slice a2 (spOf (objI G i L)).s.length d2) (spOf (objI G i L)).s, intsAV (.slice a3 (spOf (objI G i L)).o.length d3) (spOf (objI G i L)).o]) (xs := (spOf (objI G i L)).c.map WordG.av) (sz := 2) (e := 65) hC0 rowc3 nc (fun x hx => by obtain ⟨y, _, rfl⟩ := List.mem_map.1 hx; rfl) (fun m _ => by rw [AV.oks_iff]; intro x hx; obtain ⟨y, _, rfl⟩ := List.mem_map.1 hx; exact ⟨trivial, trivial, trivial⟩) (by simp)
      have hlD : hpD.blk lb = some (65, ((collR G roots).map WordG.av).flatMap AV.cells ++ []) := by
        rw [hDf lb clo nl.2.1, hCf lb clo nl.2.2.1, hBf lb clo nl.2.2.2, hAf lb clo, ci0.row, hcr]; rfl
      have hcl2 : (collR G roots).length = roots.length := by simp [collR]
      have g4 := Gives.ret (n := roots.length) (cap := roots.length) (sz := 2) (pre := []) (post := [iv 0]) hlD (fun x hx => by obtain ⟨y, _, rfl⟩ := List.mem_map.1 hx; rfl) (fun m _ => by rw [AV.oks_iff]; intro x hx; obtain ⟨y, _, rfl⟩ := List.mem_map.1 hx; exact ⟨trivial, trivial, trivial⟩) (by simp [hcl2]) (Nat.le_refl _) (by simp only [maxLen]; omega) (by rw [List.append_nil]; have := flatW_len (collR G roots); rw [hcl2] at this; exact this)
      refine ⟨_, _, ((g1.trans g2).trans (g3.trans g4)).trans (.le (hp' := (hp'.setBlk hb 105 (HeapV size (.slice a1 (spOf (objI G i L)).c.length d1) (.slice a2 (spOf (objI G i L)).s.length d2) (.slice a3 (spOf (objI G i L)).o.length d3) (spOf (collG G roots)))).setSp (spE (.slice a1 (spOf (objI G i L)).c.length d1) (.slice a2 (spOf (objI G i L)).s.length d2) (.slice a3 (spOf (objI G i L)).o.length d3) l2)) ?_), .inr ⟨hval, _, _, _, _, rfl, rfl⟩⟩
      refine ⟨fun j x hj => ?_, fun j x hj => ?_, ?_, fun x hx => ?_⟩
      · rw [Hp.setSp_blk, Hp.setBlk_blk] at hj
        rw [Hp.setSp_blk, Hp.delBlk_blk]
        by_cases e : j = hb
        · subst e
          rw [if_pos rfl] at hj
          rw [if_neg n5, hD0, ← hj, ← hcg]; rfl
        · rw [if_neg e] at hj
          obtain ⟨r1, r2⟩ := ci0.fr j x hj
          simp only [Own3, not_or] at r2
          rw [if_neg (hfr j x hj).2.2, hDf j e r2.2.1, hCf j e r2.2.2.1, hBf j e r2.2.2.2, hAf j e]; exact r1
      · have : hpD.mp j = some x := by rw [hDm, hCm, hBm, hAm, ci0.mp]; exact hj
        exact this
      · have hs4 : ((hpD.delBlk lb).setSp ((65, 2, .slice (some ⟨lb, 0, none⟩) roots.length roots.length) :: hpD.sp)).sp = (65, 2, .slice (some ⟨lb, 0, none⟩) roots.length roots.length) :: hpD.sp := rfl
        have hl2 : l2.Sublist hpi.sp := by
          refine List.Sublist.trans ?_ ci0.sp
          rw [hsp]
          exact List.sublist_append_right [_, _, _] _
        show (spE _ _ _ l2).Sublist ((65, 2, .slice (some ⟨lb, 0, none⟩) roots.length roots.length) :: hpD.sp)
        rw [hDs, hCs, hBs, hAs]
        exact (((hl2.cons_cons _).cons_cons _).cons_cons _).cons _
      · have : x ∈ hpD.gl := by rw [hDg, hCg, hBg, hAg, ci0.gl]; exact hx
        exact this
end Go.Proofs.Ytfdlfcafcjhpmaa

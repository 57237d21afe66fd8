/- The space that a collection fills: rows that are tracked as a whole. -/
import Derived.Test.YtfdlfcafcjhpmaaCH4
set_option linter.unusedSimpArgs false
set_option linter.unusedVariables false
set_option maxRecDepth 20000
set_option maxHeartbeats 4000000
namespace Go.Proofs.Ytfdlfcafcjhpmaa
open Go.AL

theorem rowB_ne {hp : Hp} {e T : TypeId} {sz n j : Nat} {h : Value} {xs cs : List AV} (r : RowB hp e sz h n xs) (hj : hp.blk j = some (T, cs)) (ht : T ≠ e) : blockOf h ≠ some j := by
  rcases r with ⟨rfl, _, _⟩ | ⟨b, cap, rest, rfl, _, _, _, _, hb⟩
  · intro h; cases h
  · intro h
    simp only [blockOf, Option.some.injEq] at h
    subst h
    rw [hb] at hj
    exact ht (congrArg Prod.fst (Option.some.inj hj)).symm
theorem rowB_setBlk {hp : Hp} {e T : TypeId} {sz n j : Nat} {h : Value} {xs cs : List AV} (r : RowB hp e sz h n xs) (hj : blockOf h ≠ some j) : RowB (hp.setBlk j T cs) e sz h n xs := by
  rcases r with ⟨rfl, h1, h2⟩ | ⟨b, cap, rest, rfl, h1, h2, h3, h4, hb⟩
  · exact .inl ⟨rfl, h1, h2⟩
  · refine .inr ⟨b, cap, rest, rfl, h1, h2, h3, h4, ?_⟩
    rw [Hp.setBlk_blk, if_neg (fun e => hj (by rw [e]; rfl))]; exact hb
theorem rowB_shape {hp : Hp} {e : TypeId} {sz n : Nat} {h : Value} {xs : List AV} (r : RowB hp e sz h n xs) : ∃ a c, h = .slice a n c := by
  rcases r with ⟨rfl, rfl, _⟩ | ⟨b, cap, rest, rfl, _⟩
  · exact ⟨none, 0, rfl⟩
  · exact ⟨_, _, rfl⟩

/-- A row has been turned, or another has taken its place: what else was there stays. -/
structure RowK (hp : Hp) (h : Value) (hp' : Hp) (h' : Value) : Prop where
  mp : hp'.mp = hp.mp
  sp : hp'.sp = hp.sp
  gl : hp'.gl = hp.gl
  kp : ∀ j x, hp.blk j = some x → blockOf h ≠ some j → hp'.blk j = some x ∧ blockOf h' ≠ some j
theorem rowK_of {hp hp' : Hp} {h h' : Value} (r : RowTo hp h hp' h') : RowK hp h hp' h' := ⟨r.mp, r.sp, r.gl, fun j x hj hn => r.keep hj hn⟩
theorem RowK.trans {hp hp' hp2 : Hp} {h h' h2 : Value} (r : RowK hp h hp' h') (k : RowK hp' h' hp2 h2) : RowK hp h hp2 h2 :=
  ⟨k.mp.trans r.mp, k.sp.trans r.sp, k.gl.trans r.gl, fun j x hj hn => k.kp j x (r.kp j x hj hn).1 (r.kp j x hj hn).2⟩
theorem rowB_keep {hp hp' : Hp} {h h' g : Value} {e : TypeId} {sz n : Nat} {xs : List AV} (r : RowK hp h hp' h') (k : RowB hp e sz g n xs) (hne : ∀ b, blockOf g = some b → blockOf h ≠ some b) :
    RowB hp' e sz g n xs ∧ ∀ b, blockOf g = some b → blockOf h' ≠ some b := by
  rcases k with ⟨rfl, rfl, rfl⟩ | ⟨b, cap, rest, rfl, h1, h2, h3, h4, h5⟩
  · exact ⟨.inl ⟨rfl, rfl, rfl⟩, fun b hb => by cases hb⟩
  · obtain ⟨k1, k2⟩ := r.kp b _ h5 (hne b rfl)
    exact ⟨.inr ⟨b, cap, rest, rfl, h1, h2, h3, h4, k1⟩, fun c hc => by simp only [blockOf, Option.some.injEq] at hc; subst hc; exact k2⟩

def flatW (l : List WordG) : List AV := (l.map WordG.av).flatMap AV.cells
theorem flatW_app (a b : List WordG) : flatW (a ++ b) = flatW a ++ flatW b := by simp [flatW]
theorem flatW_len (l : List WordG) : (flatW l).length = l.length * 2 := by
  induction l with
  | nil => rfl
  | cons a l ih => rw [show a :: l = [a] ++ l from rfl, flatW_app, List.length_append, ih]; simp [flatW, WordG.av, WordG.cs, AV.cells]; omega
def Own3 (tb : Nat) (hc hs ho : Value) (j : Nat) : Prop := j = tb ∨ blockOf hc = some j ∨ blockOf hs = some j ∨ blockOf ho = some j
/-- How the space stands, and what has not been turned since 'hp0'. -/
structure PutI (hp0 : Hp) (tb : Nat) (hc0 hs0 ho0 : Value) (hp : Hp) (hc hs ho : Value) (g : SpG) : Prop where
  blk : hp.blk tb = some (103, [.v hc, .v hs, .v ho])
  c : RowB hp 65 2 hc g.c.length (flatW g.c)
  s : RowB hp 3 1 hs g.s.length (g.s.map iv)
  o : RowB hp 3 1 ho g.o.length (g.o.map iv)
  so : ∀ b, blockOf hs = some b → blockOf ho ≠ some b
  fr : ∀ j x, hp0.blk j = some x → ¬ Own3 tb hc0 hs0 ho0 j → hp.blk j = some x ∧ ¬ Own3 tb hc hs ho j
  mp : hp.mp = hp0.mp
  gl : hp.gl = hp0.gl
  sp : hp0.sp.Sublist hp.sp

section
variable {hp0 : Hp} {tb : Nat} {hc0 hs0 ho0 : Value} {hp hp1 : Hp} {hc hs ho h' : Value} {g : SpG}
theorem PutI.spx (h : PutI hp0 tb hc0 hs0 ho0 hp hc hs ho g) (x : TypeId × Nat × Value) : PutI hp0 tb hc0 hs0 ho0 (hp.setSp (x :: hp.sp)) hc hs ho g :=
  ⟨h.blk, h.c, h.s, h.o, h.so, h.fr, h.mp, h.gl, h.sp.trans (List.sublist_cons_self _ _)⟩
theorem PutI.mo (h : PutI hp0 tb hc0 hs0 ho0 hp hc hs ho g) (r : RowK hp ho hp1 h') (o' : List Int) (k : RowB hp1 3 1 h' o'.length (o'.map iv)) :
    PutI hp0 tb hc0 hs0 ho0 (hp1.setBlk tb 103 [.v hc, .v hs, .v h']) hc hs h' ⟨g.c, g.s, o'⟩ := by
  have ntc := rowB_ne h.c h.blk (by decide)
  have nts := rowB_ne h.s h.blk (by decide)
  have nto := rowB_ne h.o h.blk (by decide)
  obtain ⟨t1, t2⟩ := r.kp _ _ h.blk nto
  obtain ⟨c1, c2⟩ := rowB_keep r h.c (fun b hb => by
    rcases h.c with ⟨rfl, _, _⟩ | ⟨b', cap, rest, rfl, _, _, _, _, hb'⟩
    · cases hb
    · simp only [blockOf, Option.some.injEq] at hb; subst hb; exact rowB_ne h.o hb' (by decide))
  obtain ⟨s1, s2⟩ := rowB_keep r h.s h.so
  refine ⟨by rw [Hp.setBlk_blk, if_pos rfl], rowB_setBlk c1 ntc, rowB_setBlk s1 nts, rowB_setBlk k t2, s2, fun j x hj hn => ?_, r.mp.trans h.mp, r.gl.trans h.gl, by rw [Hp.setBlk_sp, r.sp]; exact h.sp⟩
  obtain ⟨f1, f2⟩ := h.fr j x hj hn
  simp only [Own3, not_or] at f2 ⊢
  obtain ⟨k1, k2⟩ := r.kp _ _ f1 f2.2.2.2
  exact ⟨by rw [Hp.setBlk_blk, if_neg f2.1]; exact k1, f2.1, f2.2.1, f2.2.2.1, k2⟩
theorem PutI.ms (h : PutI hp0 tb hc0 hs0 ho0 hp hc hs ho g) (r : RowK hp hs hp1 h') (s' : List Int) (k : RowB hp1 3 1 h' s'.length (s'.map iv)) :
    PutI hp0 tb hc0 hs0 ho0 (hp1.setBlk tb 103 [.v hc, .v h', .v ho]) hc h' ho ⟨g.c, s', g.o⟩ := by
  have ntc := rowB_ne h.c h.blk (by decide)
  have nts := rowB_ne h.s h.blk (by decide)
  have nto := rowB_ne h.o h.blk (by decide)
  obtain ⟨t1, t2⟩ := r.kp _ _ h.blk nts
  obtain ⟨c1, c2⟩ := rowB_keep r h.c (fun b hb => by
    rcases h.c with ⟨rfl, _, _⟩ | ⟨b', cap, rest, rfl, _, _, _, _, hb'⟩
    · cases hb
    · simp only [blockOf, Option.some.injEq] at hb; subst hb; exact rowB_ne h.s hb' (by decide))
  obtain ⟨o1, o2⟩ := rowB_keep r h.o (fun b hb hs => h.so b hs hb)
  refine ⟨by rw [Hp.setBlk_blk, if_pos rfl], rowB_setBlk c1 ntc, rowB_setBlk k t2, rowB_setBlk o1 nto, fun b hb ho => o2 b ho hb, fun j x hj hn => ?_, r.mp.trans h.mp, r.gl.trans h.gl, by rw [Hp.setBlk_sp, r.sp]; exact h.sp⟩
  obtain ⟨f1, f2⟩ := h.fr j x hj hn
  simp only [Own3, not_or] at f2 ⊢
  obtain ⟨k1, k2⟩ := r.kp _ _ f1 f2.2.2.1
  exact ⟨by rw [Hp.setBlk_blk, if_neg f2.1]; exact k1, f2.1, f2.2.1, k2, f2.2.2.2⟩
theorem PutI.mc (h : PutI hp0 tb hc0 hs0 ho0 hp hc hs ho g) (r : RowK hp hc hp1 h') (c' : List WordG) (k : RowB hp1 65 2 h' c'.length (flatW c')) :
    PutI hp0 tb hc0 hs0 ho0 (hp1.setBlk tb 103 [.v h', .v hs, .v ho]) h' hs ho ⟨c', g.s, g.o⟩ := by
  have ntc := rowB_ne h.c h.blk (by decide)
  have nts := rowB_ne h.s h.blk (by decide)
  have nto := rowB_ne h.o h.blk (by decide)
  obtain ⟨t1, t2⟩ := r.kp _ _ h.blk ntc
  obtain ⟨s1, s2⟩ := rowB_keep r h.s (fun b hb => by
    rcases h.s with ⟨rfl, _, _⟩ | ⟨b', cap, rest, rfl, _, _, _, _, hb'⟩
    · cases hb
    · simp only [blockOf, Option.some.injEq] at hb; subst hb; exact rowB_ne h.c hb' (by decide))
  obtain ⟨o1, o2⟩ := rowB_keep r h.o (fun b hb => by
    rcases h.o with ⟨rfl, _, _⟩ | ⟨b', cap, rest, rfl, _, _, _, _, hb'⟩
    · cases hb
    · simp only [blockOf, Option.some.injEq] at hb; subst hb; exact rowB_ne h.c hb' (by decide))
  refine ⟨by rw [Hp.setBlk_blk, if_pos rfl], rowB_setBlk k t2, rowB_setBlk s1 nts, rowB_setBlk o1 nto, h.so, fun j x hj hn => ?_, r.mp.trans h.mp, r.gl.trans h.gl, by rw [Hp.setBlk_sp, r.sp]; exact h.sp⟩
  obtain ⟨f1, f2⟩ := h.fr j x hj hn
  simp only [Own3, not_or] at f2 ⊢
  obtain ⟨k1, k2⟩ := r.kp _ _ f1 f2.2.1
  exact ⟨by rw [Hp.setBlk_blk, if_neg f2.1]; exact k1, f2.1, k2, f2.2.2.1, f2.2.2.2⟩
end
end Go.Proofs.Ytfdlfcafcjhpmaa
/- Placing an object in the space that a collection fills. -/
set_option linter.unusedSimpArgs false
set_option linter.unusedVariables false
set_option maxRecDepth 20000
set_option maxHeartbeats 4000000
namespace Go.Proofs.Ytfdlfcafcjhpmaa
open Go.AL

def tptrAV (b : Nat) : AV := .v (.pointer (some ⟨b, 0, none⟩))
theorem PutI.le {hp0 : Hp} {tb : Nat} {hc0 hs0 ho0 : Value} {hp : Hp} {hc hs ho : Value} {g : SpG} (h : PutI hp0 tb hc0 hs0 ho0 hp hc hs ho g) : (hp.setSp hp0.sp).le hp := ⟨fun _ _ h => h, fun _ _ h => h, h.sp, fun _ h => h⟩
theorem PutI.back {hp0 : Hp} {tb : Nat} {hc0 hs0 ho0 : Value} {hp : Hp} {hc hs ho : Value} {g : SpG} (h : PutI hp0 tb hc0 hs0 ho0 hp hc hs ho g) : PutI hp0 tb hc0 hs0 ho0 (hp.setSp hp0.sp) hc hs ho g :=
  ⟨h.blk, h.c, h.s, h.o, h.so, h.fr, h.mp, h.gl, List.Sublist.refl _⟩
theorem flat_iv (l : List Int) : (l.map iv).flatMap AV.cells = l.map iv := by
  induction l with
  | nil => rfl
  | cons a l ih => rw [List.map_cons, List.flatMap_cons, ih]; rfl

theorem putB_calls {hp : Hp} {tb : Nat} {hc hs ho : Value} {g : SpG} (h0 : PutI hp tb hc hs ho hp hc hs ho g) (tag : Int) (hf : Value) (fs : List WordG) (hfit : SpFit g fs.length) :
    ACalls Try.prog 70 [tptrAV tb, iv tag, wordsAV hf fs] hp
      (fun r hp' => r = iv g.c.length ∧ hp'.sp = hp.sp ∧ ∃ hc' hs' ho', PutI hp tb hc hs ho hp' hc' hs' ho' (putG g tag fs)) := by
  obtain ⟨f1, f2, f3⟩ := hfit
  refine acalls_of Try.func70 rfl (by decide +kernel) (awp_sound (mu := [22, 35, 47, 60]) _ _ _ ?_)
  obtain ⟨a1, c1, ec⟩ := rowB_shape h0.c
  obtain ⟨a2, c2, es⟩ := rowB_shape h0.s
  obtain ⟨a3, c3, eo⟩ := rowB_shape h0.o
  subst ec; subst es; subst eo
  have hb0 := h0.blk
  simp only [go_sem, Int.natCast_nonneg, Nat.reduceEqDiff, Nat.reduceAdd, Nat.reduceSub, Nat.reduceLT, Nat.reduceMul, Nat.reduceBEq, Nat.reduceLeDiff, ↓reduceIte, Int.toNat_natCast, Int.reduceToNat, Int.toNat_zero, Int.toNat_one, not_true_eq_false, false_or, or_self, Nat.reduceGT, Option.isSome_some, Bool.and_self, Nat.zero_add, Nat.mul_one, List.length_map, List.take_length, Int.cast_ofNat_Int, Int.reduceLE, Int.reduceLT, Int.reduceGE, Int.reduceGT, Int.reduceEq, Int.reduceNe, Int.le_refl, Nat.le_refl, Nat.reduceAdd, ne_eq, not_false_eq_true, reduceCtorEq, beq_true, beq_false, BEq.rfl, Bool.not_true, Bool.not_false, decide_true, decide_false, exists_prop, hb0, tptrAV, wordsAV, iv]
  refine ⟨rfl, by simp, fun hd1 => ?_⟩
  have p1 := h0.spx (3, 1, hd1)
  refine appendRow_by (h := .slice a3 g.o.length c3) (n := g.o.length) (xs := g.o.map iv) (b := .lst 1 hd1 [iv g.c.length]) (h2 := hd1) Try.k41 Try.s3 Try.y3 Try.z3 rfl (by decide)
    (by simp [go_sem]) p1.o (by simp [go_sem, iv]) (Cast.refl _) (by simp [go_sem, iv]) (by simp [maxLen]; omega) (by simp; omega) (by simp [go_sem]) (fun ho' hpa ra ta => ?_)
  have ka : RowK (hp.setSp ((3, 1, hd1) :: hp.sp)) (.slice a3 g.o.length c3) hpa ho' := rowK_of ta
  have p2 := p1.mo ka (g.o ++ [(g.c.length : Int)]) (by rw [List.map_append, List.length_append]; exact ra)
  have t1 := (ka.kp _ _ p1.blk (rowB_ne p1.o p1.blk (by decide))).1
  clear ta ra
  obtain ⟨a3', c3', rfl⟩ := rowB_shape p2.o
  simp only [go_sem, Int.natCast_nonneg, Nat.reduceEqDiff, Nat.reduceAdd, Nat.reduceSub, Nat.reduceLT, Nat.reduceMul, Nat.reduceBEq, Nat.reduceLeDiff, ↓reduceIte, Int.toNat_natCast, Int.reduceToNat, Int.toNat_zero, Int.toNat_one, not_true_eq_false, false_or, or_self, Nat.reduceGT, Option.isSome_some, Bool.and_self, Nat.zero_add, Nat.mul_one, List.length_map, List.take_length, Int.cast_ofNat_Int, Int.reduceLE, Int.reduceLT, Int.reduceGE, Int.reduceGT, Int.reduceEq, Int.reduceNe, Int.le_refl, Nat.le_refl, Nat.reduceAdd, ne_eq, not_false_eq_true, reduceCtorEq, beq_true, beq_false, BEq.rfl, Bool.not_true, Bool.not_false, decide_true, decide_false, exists_prop, t1]
  refine ⟨rfl, by simp, fun hd2 => ?_⟩
  have p3 := p2.spx (65, 2, hd2)
  refine appendRow_by (h := .slice a1 g.c.length c1) (n := g.c.length) (xs := flatW g.c) (b := .lst 2 hd2 [WordG.av ⟨false, tag⟩]) (h2 := hd2) Try.k32 Try.s65 Try.y65 Try.z65 rfl (by decide)
    (by simp [go_sem]) p3.c (by simp [go_sem, WordG.av, WordG.cs]) (Cast.refl _) (by simp [go_sem, WordG.av, WordG.cs]) (by simp [maxLen]; omega) (by simp; omega) (by simp [go_sem]) (fun hc1 hpc rc tc => ?_)
  have kc := rowK_of tc
  clear tc
  simp only [go_sem, Int.natCast_nonneg, Nat.reduceEqDiff, Nat.reduceAdd, Nat.reduceSub, Nat.reduceLT, Nat.reduceMul, Nat.reduceBEq, Nat.reduceLeDiff, ↓reduceIte, Int.toNat_natCast, Int.reduceToNat, Int.toNat_zero, Int.toNat_one, not_true_eq_false, false_or, or_self, Nat.reduceGT, Option.isSome_some, Bool.and_self, Nat.zero_add, Nat.mul_one, List.length_map, List.take_length, Int.cast_ofNat_Int, Int.reduceLE, Int.reduceLT, Int.reduceGE, Int.reduceGT, Int.reduceEq, Int.reduceNe, Int.le_refl, Nat.le_refl, Nat.reduceAdd, ne_eq, not_false_eq_true, reduceCtorEq, beq_true, beq_false, BEq.rfl, Bool.not_true, Bool.not_false, decide_true, decide_false, exists_prop]
  refine appendRow_by (h := hc1) (n := g.c.length + 1) (xs := flatW g.c ++ flatW [⟨false, tag⟩]) (b := wordsAV hf fs) (h2 := hf) Try.k32 Try.s65 Try.y65 Try.z65 rfl (by decide)
    (by simp [go_sem]) rc (by simp [go_sem, wordsAV]) (Cast.refl _) (ones_word fs) (by simp [maxLen]; omega) (by simp; omega) (by simp [go_sem]) (fun hc2 hpd rd td => ?_)
  have kd : RowK hpc hc1 hpd hc2 := rowK_of td
  clear td
  have kcd := kc.trans kd
  have p4 := p3.mc kcd (g.c ++ ⟨false, tag⟩ :: fs) (by
    have e1 : (g.c ++ ⟨false, tag⟩ :: fs).length = g.c.length + 1 + (fs.map WordG.av).length := by simp; omega
    have e2 : flatW (g.c ++ ⟨false, tag⟩ :: fs) = flatW g.c ++ flatW [⟨false, tag⟩] ++ (fs.map WordG.av).flatMap AV.cells := by
      rw [show (⟨false, tag⟩ :: fs : List WordG) = [⟨false, tag⟩] ++ fs from rfl, flatW_app, flatW_app, ← List.append_assoc]; rfl
    rw [e1, e2]; exact rd)
  have t4 := (kcd.kp _ _ p3.blk (rowB_ne p3.c p3.blk (by decide))).1
  clear rc rd kc kd
  obtain ⟨a1', c1', rfl⟩ := rowB_shape p4.c
  simp only [go_sem, Int.natCast_nonneg, Nat.reduceEqDiff, Nat.reduceAdd, Nat.reduceSub, Nat.reduceLT, Nat.reduceMul, Nat.reduceBEq, Nat.reduceLeDiff, ↓reduceIte, Int.toNat_natCast, Int.reduceToNat, Int.toNat_zero, Int.toNat_one, not_true_eq_false, false_or, or_self, Nat.reduceGT, Option.isSome_some, Bool.and_self, Nat.zero_add, Nat.mul_one, List.length_map, List.take_length, Int.cast_ofNat_Int, Int.reduceLE, Int.reduceLT, Int.reduceGE, Int.reduceGT, Int.reduceEq, Int.reduceNe, Int.le_refl, Nat.le_refl, Nat.reduceAdd, ne_eq, not_false_eq_true, reduceCtorEq, beq_true, beq_false, BEq.rfl, Bool.not_true, Bool.not_false, decide_true, decide_false, exists_prop, t4]
  clear kcd t1 ka
  have w1 : IntKind.i64.wrap ((fs.length : Int) + 1) = (fs.length : Int) + 1 := IntWalk.i64_in _ (by omega)
  simp only [w1]
  refine ⟨rfl, by simp, fun hd3 => ?_⟩
  have p5 := p4.spx (3, 1, hd3)
  refine appendRow_by (h := .slice a2 g.s.length c2) (n := g.s.length) (xs := g.s.map iv) (b := .lst 1 hd3 [iv ((fs.length : Int) + 1)]) (h2 := hd3) Try.k41 Try.s3 Try.y3 Try.z3 rfl (by decide)
    (by simp [go_sem]) p5.s (by simp [go_sem, iv]) (Cast.refl _) (by simp [go_sem, iv]) (by simp [maxLen]; omega) (by simp; omega) (by simp [go_sem]) (fun hs1 hpe re te => ?_)
  have ke := rowK_of te
  have p6 := p5.ms ke (g.s ++ [(fs.length : Int) + 1]) (by rw [List.map_append, List.length_append]; exact re)
  have t5 := (ke.kp _ _ p5.blk (rowB_ne p5.s p5.blk (by decide))).1
  clear te re
  obtain ⟨a2', c2', rfl⟩ := rowB_shape p6.s
  simp only [go_sem, Int.natCast_nonneg, Nat.reduceEqDiff, Nat.reduceAdd, Nat.reduceSub, Nat.reduceLT, Nat.reduceMul, Nat.reduceBEq, Nat.reduceLeDiff, ↓reduceIte, Int.toNat_natCast, Int.reduceToNat, Int.toNat_zero, Int.toNat_one, not_true_eq_false, false_or, or_self, Nat.reduceGT, Option.isSome_some, Bool.and_self, Nat.zero_add, Nat.mul_one, List.length_map, List.take_length, Int.cast_ofNat_Int, Int.reduceLE, Int.reduceLT, Int.reduceGE, Int.reduceGT, Int.reduceEq, Int.reduceNe, Int.le_refl, Nat.le_refl, Nat.reduceAdd, ne_eq, not_false_eq_true, reduceCtorEq, beq_true, beq_false, BEq.rfl, Bool.not_true, Bool.not_false, decide_true, decide_false, exists_prop, t5]
  clear ke t4
  refine aw_loopX 63 (fun x : Nat × Hp × Value × Value × Value => [(0, tptrAV tb), (7, .v (.int .i64 g.c.length)), (49, .v (.int .i64 fs.length)), (50, .v (.int .i64 x.1))])
    (fun x => x.2.1) (fun x => x.1 ≤ fs.length ∧ PutI hp tb (.slice a1 g.c.length c1) (.slice a2 g.s.length c2) (.slice a3 g.o.length c3) x.2.1 x.2.2.1 x.2.2.2.1 x.2.2.2.2 ⟨g.c ++ ⟨false, tag⟩ :: fs, g.s ++ [(fs.length : Int) + 1] ++ List.replicate x.1 0, g.o ++ [(g.c.length : Int)]⟩) (fun x => fs.length - x.1)
    (0, _, _, _, _) ⟨Nat.zero_le _, by rw [List.replicate_zero, List.append_nil]; exact p6⟩ (le_mkSl rfl (by simp only [go_sem, Int.natCast_nonneg, Nat.reduceEqDiff, Nat.reduceAdd, Nat.reduceSub, Nat.reduceLT, Nat.reduceMul, Nat.reduceBEq, Nat.reduceLeDiff, ↓reduceIte, Int.toNat_natCast, Int.reduceToNat, Int.toNat_zero, Int.toNat_one, not_true_eq_false, false_or, or_self, Nat.reduceGT, Option.isSome_some, Bool.and_self, Nat.zero_add, Nat.mul_one, List.length_map, List.take_length, Int.cast_ofNat_Int, Int.reduceLE, Int.reduceLT, Int.reduceGE, Int.reduceGT, Int.reduceEq, Int.reduceNe, Int.le_refl, Nat.le_refl, Nat.reduceAdd, ne_eq, not_false_eq_true, reduceCtorEq, beq_true, beq_false, BEq.rfl, Bool.not_true, Bool.not_false, decide_true, decide_false, exists_prop]; exact Hp.le_refl _) (by simp [go_sem, tptrAV])) ?_
  rintro ⟨j, hpj, hcj, hsj, hoj⟩ ⟨hj, pj⟩
  simp only at hj pj
  clear p1 p2 p3 p4 p5 p6 t5
  obtain ⟨b1, d1, rfl⟩ := rowB_shape pj.c
  obtain ⟨b2, d2, rfl⟩ := rowB_shape pj.s
  obtain ⟨b3, d3, rfl⟩ := rowB_shape pj.o
  have hbj := pj.blk
  refine awp_sound (mu := [22, 35, 47, 60]) _ _ _ ?_
  simp only [go_sem, Int.natCast_nonneg, Nat.reduceEqDiff, Nat.reduceAdd, Nat.reduceSub, Nat.reduceLT, Nat.reduceMul, Nat.reduceBEq, Nat.reduceLeDiff, ↓reduceIte, Int.toNat_natCast, Int.reduceToNat, Int.toNat_zero, Int.toNat_one, not_true_eq_false, false_or, or_self, Nat.reduceGT, Option.isSome_some, Bool.and_self, Nat.zero_add, Nat.mul_one, List.length_map, List.take_length, Int.cast_ofNat_Int, Int.reduceLE, Int.reduceLT, Int.reduceGE, Int.reduceGT, Int.reduceEq, Int.reduceNe, Int.le_refl, Nat.le_refl, Nat.reduceAdd, ne_eq, not_false_eq_true, reduceCtorEq, beq_true, beq_false, BEq.rfl, Bool.not_true, Bool.not_false, decide_true, decide_false, exists_prop, tptrAV, hbj]
  refine brK_mk (fun h1 => ?_) (fun h1 => ?_) <;> simp only [go_sem, Int.natCast_nonneg, Nat.reduceEqDiff, Nat.reduceAdd, Nat.reduceSub, Nat.reduceLT, Nat.reduceMul, Nat.reduceBEq, Nat.reduceLeDiff, ↓reduceIte, Int.toNat_natCast, Int.reduceToNat, Int.toNat_zero, Int.toNat_one, not_true_eq_false, false_or, or_self, Nat.reduceGT, Option.isSome_some, Bool.and_self, Nat.zero_add, Nat.mul_one, List.length_map, List.take_length, Int.cast_ofNat_Int, Int.reduceLE, Int.reduceLT, Int.reduceGE, Int.reduceGT, Int.reduceEq, Int.reduceNe, Int.le_refl, Nat.le_refl, Nat.reduceAdd, ne_eq, not_false_eq_true, reduceCtorEq, beq_true, beq_false, BEq.rfl, Bool.not_true, Bool.not_false, decide_true, decide_false, exists_prop, h1, hbj]
  · have hj' : j < fs.length := by simpa using h1
    have wj : IntKind.i64.wrap ((j : Int) + 1) = ((j + 1 : Nat) : Int) := IntWalk.i64_in _ (by omega)
    refine ⟨rfl, by simp, fun hd4 => ?_⟩
    have q1 := pj.spx (3, 1, hd4)
    have q1s : RowB (hpj.setSp ((3, 1, hd4) :: hpj.sp)) 3 1 (.slice b2 (g.s ++ [(fs.length : Int) + 1] ++ List.replicate j 0).length d2) (g.s ++ [(fs.length : Int) + 1] ++ List.replicate j 0).length ((g.s ++ [(fs.length : Int) + 1] ++ List.replicate j 0).map iv) := q1.s
    refine appendRow_by (b := .lst 1 hd4 [iv 0]) (ys := [iv 0]) (h2 := hd4) Try.k41 Try.s3 Try.y3 Try.z3 rfl (by decide)
      (by simp [go_sem]) q1s (by simp [go_sem, iv]) (Cast.refl _) (by simp [go_sem, iv]) (by simp [maxLen]; omega) (by simp; omega) (by simp [go_sem]) (fun hs2 hpk rk tk => ?_)
    have kk := rowK_of tk
    have q2 := q1.ms kk (g.s ++ [(fs.length : Int) + 1] ++ List.replicate (j + 1) 0) (by
      have e : g.s ++ [(fs.length : Int) + 1] ++ List.replicate (j + 1) 0 = (g.s ++ [(fs.length : Int) + 1] ++ List.replicate j 0) ++ [0] := by rw [List.replicate_succ']; simp
      rw [e, List.map_append, List.length_append]; exact rk)
    have t6 := (kk.kp _ _ q1.blk (rowB_ne q1.s q1.blk (by decide))).1
    clear tk rk
    obtain ⟨b2', d2', rfl⟩ := rowB_shape q2.s
    simp only [go_sem, Int.natCast_nonneg, Nat.reduceEqDiff, Nat.reduceAdd, Nat.reduceSub, Nat.reduceLT, Nat.reduceMul, Nat.reduceBEq, Nat.reduceLeDiff, ↓reduceIte, Int.toNat_natCast, Int.reduceToNat, Int.toNat_zero, Int.toNat_one, not_true_eq_false, false_or, or_self, Nat.reduceGT, Option.isSome_some, Bool.and_self, Nat.zero_add, Nat.mul_one, List.length_map, List.take_length, Int.cast_ofNat_Int, Int.reduceLE, Int.reduceLT, Int.reduceGE, Int.reduceGT, Int.reduceEq, Int.reduceNe, Int.le_refl, Nat.le_refl, Nat.reduceAdd, ne_eq, not_false_eq_true, reduceCtorEq, beq_true, beq_false, BEq.rfl, Bool.not_true, Bool.not_false, decide_true, decide_false, exists_prop, t6, wj]
    refine ⟨(j + 1, _, _, _, _), by simp only; omega, ⟨by simp only; omega, q2⟩, le_mkSl rfl (by simp only [go_sem, Int.natCast_nonneg, Nat.reduceEqDiff, Nat.reduceAdd, Nat.reduceSub, Nat.reduceLT, Nat.reduceMul, Nat.reduceBEq, Nat.reduceLeDiff, ↓reduceIte, Int.toNat_natCast, Int.reduceToNat, Int.toNat_zero, Int.toNat_one, not_true_eq_false, false_or, or_self, Nat.reduceGT, Option.isSome_some, Bool.and_self, Nat.zero_add, Nat.mul_one, List.length_map, List.take_length, Int.cast_ofNat_Int, Int.reduceLE, Int.reduceLT, Int.reduceGE, Int.reduceGT, Int.reduceEq, Int.reduceNe, Int.le_refl, Nat.le_refl, Nat.reduceAdd, ne_eq, not_false_eq_true, reduceCtorEq, beq_true, beq_false, BEq.rfl, Bool.not_true, Bool.not_false, decide_true, decide_false, exists_prop]; exact Hp.le_refl _) ?_⟩
    simp [go_sem, tptrAV]
  · have e : j = fs.length := by simp at h1; omega
    subst e
    have e : putG g tag fs = ⟨g.c ++ ⟨false, tag⟩ :: fs, g.s ++ [(fs.length : Int) + 1] ++ List.replicate fs.length 0, g.o ++ [(g.c.length : Int)]⟩ := by simp [putG]
    have pf := pj.back
    rw [← e] at pf
    exact ret_le (hp' := hpj.setSp hp.sp) pj.le ⟨rfl, rfl, _, _, _, pf⟩
end Go.Proofs.Ytfdlfcafcjhpmaa

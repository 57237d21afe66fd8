/- The text of declarations. -/
import Derived.Test.YtfdlfcafcjhpmaaCD10
set_option linter.unusedSimpArgs false
set_option linter.unusedVariables false
set_option maxRecDepth 20000
namespace Go.Proofs.Ytfdlfcafcjhpmaa
open Go.AL

def argT (l : List DeclG) (a : ArgG) : List UInt8 := if a.co = true then [126] ++ typeNameL l a.typ else typeNameL l a.typ
def xtorT (l : List DeclG) (x : XtorG) : List UInt8 := x.name ++ [40] ++ Lib.join (x.args.map (argT l)) [44, 32] ++ [41]
def wordT (co : Bool) : List UInt8 := if co = true then [99, 111, 100, 97, 116, 97, 32] else [100, 97, 116, 97, 32]
def declT (l : List DeclG) (d : DeclG) : List UInt8 := wordT d.codata ++ d.name ++ [32, 123, 32] ++ Lib.join (d.xtors.map (xtorT l)) [44, 32] ++ [32, 125, 10]
def textL (l : List DeclG) : List UInt8 := l.flatMap (declT l)

/-- Sizes of valid declarations. -/
structure Short (l : List DeclG) : Prop where
  len : l.length ≤ 8
  name : ∀ d ∈ l, d.name.length ≤ 10
  xt : ∀ d ∈ l, d.xtors.length ≤ 6
  xname : ∀ d ∈ l, ∀ x ∈ d.xtors, x.name.length ≤ 10
  ar : ∀ d ∈ l, ∀ x ∈ d.xtors, x.args.length ≤ 6
  ty : Typed l

theorem nameB_len {s : List UInt8} (h : nameB s = true) : s.length ≤ 10 := by
  cases s with
  | nil => simp
  | cons c r => simp only [nameB, Bool.and_eq_true, decide_eq_true_eq] at h; simp; omega
theorem xtorNameB_len {s : List UInt8} (h : xtorNameB s = true) : s.length ≤ 10 := by
  cases s with
  | nil => simp
  | cons c r => simp only [xtorNameB, Bool.and_eq_true, decide_eq_true_eq] at h; simp; omega

theorem short_of {l : List DeclG} (h : validB l = true) : Short l := by
  obtain ⟨hn, ht⟩ := validB_typed h
  simp only [validB, Bool.and_eq_true] at h
  have hx : ∀ (n : Nat) (xs : List XtorG) (sn sn' : List (List UInt8)), fitsAll n sn xs = some sn' → ∀ x ∈ xs, x.name.length ≤ 10 ∧ x.args.length ≤ 6 := by
    intro n xs
    induction xs with
    | nil => intro sn sn' _ x hx; cases hx
    | cons y r ih =>
      intro sn sn' h x hx
      simp only [fitsAll] at h
      split at h
      · rename_i hy
        rcases List.mem_cons.1 hx with rfl | hx
        · simp only [xtorB, Bool.and_eq_true, Bool.not_eq_true', decide_eq_false_iff_not] at hy
          exact ⟨xtorNameB_len hy.1.1.1, by omega⟩
        · exact ih _ _ h x hx
      · cases h
  have hd : ∀ (n : Nat) (r : List DeclG) (names seen : List (List UInt8)), validFrom n names seen r = true → ∀ d ∈ r, d.name.length ≤ 10 ∧ d.xtors.length ≤ 6 ∧ ∀ x ∈ d.xtors, x.name.length ≤ 10 ∧ x.args.length ≤ 6 := by
    intro n r
    induction r with
    | nil => intro _ _ _ d hd; cases hd
    | cons e r ih =>
      intro names seen h d hd
      simp only [validFrom, Bool.and_eq_true] at h
      obtain ⟨h0, h⟩ := h
      split at h
      · rename_i sn' hf
        rcases List.mem_cons.1 hd with rfl | hd
        · simp only [declB, Bool.and_eq_true, Bool.not_eq_true', decide_eq_false_iff_not] at h0
          exact ⟨nameB_len h0.1.1.1, by omega, hx n _ _ _ hf⟩
        · exact ih _ _ h d hd
      · cases h
  have := hd l.length l [] [] h.2
  exact ⟨hn, fun d hd => (this d hd).1, fun d hd => (this d hd).2.1, fun d hd x hx => ((this d hd).2.2 x hx).1, fun d hd x hx => ((this d hd).2.2 x hx).2, ht⟩

theorem tail_len (M : Nat) (sep : List UInt8) : ∀ (L : List (List UInt8)), (∀ x ∈ L, x.length ≤ M) → (Lib.joinTail sep L).length ≤ L.length * (M + sep.length)
  | [], _ => by simp [Lib.joinTail]
  | x :: r, h => by
    have h1 := tail_len M sep r (fun z hz => h z (by simp [hz]))
    have h2 := h x (by simp)
    simp only [Lib.joinTail, List.map_cons, List.flatten_cons, List.length_append, List.length_cons] at h1 ⊢
    rw [Nat.add_mul r.length 1]
    omega
theorem join_len (M : Nat) (sep : List UInt8) (L : List (List UInt8)) (h : ∀ x ∈ L, x.length ≤ M) : (Lib.join L sep).length ≤ L.length * (M + sep.length) := by
  cases L with
  | nil => simp [Lib.join_nil]
  | cons x r =>
    have h1 := tail_len M sep r (fun z hz => h z (by simp [hz]))
    have h2 := h x (by simp)
    rw [Lib.join_cons, List.length_append, List.length_cons, Nat.add_mul r.length 1]
    omega

theorem typeName_len {l : List DeclG} (hs : Short l) (t : Int) : (typeNameL l t).length ≤ 10 := by
  unfold typeNameL
  split
  · simp
  · cases h : l[(t - 1).toNat]? with
    | none => simp
    | some d => simp; exact hs.name d (List.mem_of_getElem? h)
theorem argT_len {l : List DeclG} (hs : Short l) (a : ArgG) : (argT l a).length ≤ 11 := by
  have := typeName_len hs a.typ
  unfold argT; split <;> simp <;> omega
theorem joinA_len {l : List DeclG} (hs : Short l) (xs : List ArgG) (h : xs.length ≤ 6) : (Lib.join (xs.map (argT l)) [44, 32]).length ≤ 78 := by
  have := join_len 11 [44, 32] (xs.map (argT l)) (fun x hx => by obtain ⟨a, _, rfl⟩ := List.mem_map.1 hx; exact argT_len hs a)
  simp at this; omega
theorem xtorT_len {l : List DeclG} (hs : Short l) {d : DeclG} (hd : d ∈ l) {x : XtorG} (hx : x ∈ d.xtors) : (xtorT l x).length ≤ 90 := by
  have h1 := joinA_len hs x.args (hs.ar d hd x hx)
  have h2 := hs.xname d hd x hx
  simp only [xtorT, List.length_append, List.length_cons, List.length_nil]; omega
theorem joinX_len {l : List DeclG} (hs : Short l) {d : DeclG} (hd : d ∈ l) : (Lib.join (d.xtors.map (xtorT l)) [44, 32]).length ≤ 552 := by
  have := join_len 90 [44, 32] (d.xtors.map (xtorT l)) (fun x hx => by obtain ⟨a, ha, rfl⟩ := List.mem_map.1 hx; exact xtorT_len hs hd ha)
  have h2 := hs.xt d hd
  simp at this; omega
theorem declT_len {l : List DeclG} (hs : Short l) {d : DeclG} (hd : d ∈ l) : (declT l d).length ≤ 600 := by
  have h1 := joinX_len hs hd
  have h2 := hs.name d hd
  have h3 : (wordT d.codata).length ≤ 7 := by unfold wordT; split <;> simp
  simp only [declT, List.length_append, List.length_cons, List.length_nil]; omega
theorem textP_len {l : List DeclG} (hs : Short l) : ∀ (r : List DeclG), (∀ d ∈ r, d ∈ l) → (r.flatMap (declT l)).length ≤ r.length * 600
  | [], _ => by simp
  | d :: r, h => by
    have h1 := textP_len hs r (fun e he => h e (by simp [he]))
    have h2 := declT_len hs (h d (by simp))
    simp only [List.flatMap_cons, List.length_append, List.length_cons, Nat.add_mul]; omega

def hpT (hp : Hp) (vb : Nat) (q : Option Addr) (hb : Value) (out : List UInt8) (extra : List (TypeId × Nat × Value)) : Hp :=
  (hp.setBlk vb 148 [.v (.pointer q), .lst 1 hb (byAV out)]).setSp (extra ++ (5, 1, hb) :: hp.sp)
def QOk (vb : Nat) (q : Option Addr) (hb : Value) (out : List UInt8) : Prop := (q = none ∨ q = some ⟨vb, 0, none⟩) ∧ (out = [] → hb = .slice none 0 0)
theorem hpT_ok {hp : Hp} {vb : Nat} {q : Option Addr} {hb : Value} {out : List UInt8} (extra : List (TypeId × Nat × Value)) (h : QOk vb q hb out) : BuilderOk vb hb out extra hp.sp (hpT hp vb q hb out extra) :=
  ⟨⟨q, h.1, by simp [hpT, Hp.setBlk, Hp.setSp]⟩, rfl, h.2⟩
theorem hpT_wrote {hp : Hp} {vb : Nat} {q : Option Addr} {hb hb' : Value} {out out' : List UInt8} (extra : List (TypeId × Nat × Value)) :
    wrote vb hb' out' extra hp.sp (hpT hp vb q hb out extra) = hpT hp vb (some ⟨vb, 0, none⟩) hb' out' extra := by
  cases hp with | mk blk mp sp gl =>
  simp only [wrote, hpT, Hp.setBlk, Hp.setSp, bself, Hp.mk.injEq, and_true, true_and]
  funext i; by_cases h : i = vb <;> simp [h]
theorem hpT_less (hp : Hp) (vb : Nat) (q : Option Addr) (hb : Value) (out : List UInt8) (x : TypeId × Nat × Value) (extra : List (TypeId × Nat × Value)) : (hpT hp vb q hb out extra).le (hpT hp vb q hb out (x :: extra)) :=
  ⟨fun _ _ h => h, fun _ _ h => h, List.sublist_cons_self _ _, fun _ h => h⟩

theorem text_calls (hd : Value) (l : List DeclG) (hs : Short l) (hp : Hp) : ACalls Try.prog 75 [declsAV hd l] hp (fun r hp' => r = .v (.string (bs (textL l))) ∧ hp' = hp) := by
  refine acalls_fit (callable_of Try.func75 (by decide +kernel)) fun hfit => ?_
  have hl := fit_decls hfit.1
  refine acalls_of Try.func75 rfl (by decide +kernel) (awp_sound (mu := []) _ _ _ ?_)
  simp only [go_sem, Int.natCast_nonneg, Nat.reduceEqDiff, Nat.reduceAdd, Nat.reduceSub, Nat.reduceLT, Nat.reduceMul, Nat.reduceBEq, Nat.reduceLeDiff, ↓reduceIte, Int.toNat_natCast, Int.reduceToNat, Int.toNat_zero, Int.toNat_one, not_true_eq_false, false_or, or_self, Nat.reduceGT, Option.isSome_some, Bool.and_self, Nat.zero_add, Nat.mul_one, List.length_map, List.take_length, Int.cast_ofNat_Int, Int.reduceLE, Int.reduceLT, Int.reduceGE, Int.reduceGT, Int.reduceEq, Int.reduceNe, Int.le_refl, Nat.le_refl, Nat.reduceAdd, ne_eq, not_false_eq_true, reduceCtorEq, beq_true, beq_false, BEq.rfl, Bool.not_true, Bool.not_false, decide_true, decide_false, exists_prop, declsAV]
  intro vb hvb
  refine castBlk_by vb 148 [.v (.pointer none), .v (.slice none 0 0)] [.v (.pointer none), .lst 1 (.slice none 0 0) (byAV [])] (by simp [go_sem]) rfl (fun m _ => ⟨trivial, (Cast.nil 1).2 m trivial, trivial⟩) ?_
  refine addNil_by 5 1 ?_
  refine aw_loopX 72 (fun g : Nat × Option Addr × Value => [(0, .lst 3 hd (l.map DeclG.av)), (3, bptr vb), (14, .lst 3 hd (l.map DeclG.av)), (15, .v (.int .i64 l.length)), (16, .v (.int .i64 g.1))])
    (fun g => hpT hp vb g.2.1 g.2.2 ((l.take g.1).flatMap (declT l)) []) (fun g => g.1 ≤ l.length ∧ QOk vb g.2.1 g.2.2 ((l.take g.1).flatMap (declT l))) (fun g => l.length - g.1) (0, none, .slice none 0 0)
    ⟨Nat.zero_le _, .inl rfl, fun _ => rfl⟩ (le_mkSl rfl (by simp only [go_sem]; exact Hp.le_refl _) (by simp [go_sem, bptr])) ?_
  rintro ⟨k, q, hb⟩ ⟨hk, hq⟩
  simp only at hk hq
  have hl8 := hs.len
  generalize hout : (l.take k).flatMap (declT l) = out at hq
  have houtl : out.length ≤ 4800 := by
    rw [← hout]
    have := textP_len hs (l.take k) (fun d hd => List.mem_of_mem_take hd)
    have h8 : (l.take k).length ≤ 8 := by simp; omega
    omega
  refine awp_sound (mu := []) _ _ _ ?_
  simp only [go_sem, Int.natCast_nonneg, Nat.reduceEqDiff, Nat.reduceAdd, Nat.reduceSub, Nat.reduceLT, Nat.reduceMul, Nat.reduceBEq, Nat.reduceLeDiff, ↓reduceIte, Int.toNat_natCast, Int.reduceToNat, Int.toNat_zero, Int.toNat_one, not_true_eq_false, false_or, or_self, Nat.reduceGT, Option.isSome_some, Bool.and_self, Nat.zero_add, Nat.mul_one, List.length_map, List.take_length, Int.cast_ofNat_Int, Int.reduceLE, Int.reduceLT, Int.reduceGE, Int.reduceGT, Int.reduceEq, Int.reduceNe, Int.le_refl, Nat.le_refl, Nat.reduceAdd, ne_eq, not_false_eq_true, reduceCtorEq, beq_true, beq_false, BEq.rfl, Bool.not_true, Bool.not_false, decide_true, decide_false, exists_prop, hout]
  refine brK_mk (fun h => ?_) (fun h => ?_) <;> simp only [go_sem, Int.natCast_nonneg, Nat.reduceEqDiff, Nat.reduceAdd, Nat.reduceSub, Nat.reduceLT, Nat.reduceMul, Nat.reduceBEq, Nat.reduceLeDiff, ↓reduceIte, Int.toNat_natCast, Int.reduceToNat, Int.toNat_zero, Int.toNat_one, not_true_eq_false, false_or, or_self, Nat.reduceGT, Option.isSome_some, Bool.and_self, Nat.zero_add, Nat.mul_one, List.length_map, List.take_length, Int.cast_ofNat_Int, Int.reduceLE, Int.reduceLT, Int.reduceGE, Int.reduceGT, Int.reduceEq, Int.reduceNe, Int.le_refl, Nat.le_refl, Nat.reduceAdd, ne_eq, not_false_eq_true, reduceCtorEq, beq_true, beq_false, BEq.rfl, Bool.not_true, Bool.not_false, decide_true, decide_false, exists_prop, h]
  · have hk' : k < l.length := by simpa using h
    obtain ⟨d, hgd⟩ := some_at l k hk'
    have hmem := List.mem_of_getElem? hgd
    have hxl := hl.xt d hmem
    have hcd : d.cs = [.v (.string (bs d.name)), .v (.bool d.codata), .lst 2 d.h (d.xtors.map XtorG.av)] := rfl
    simp only [go_sem, Int.natCast_nonneg, Nat.reduceEqDiff, Nat.reduceAdd, Nat.reduceSub, Nat.reduceLT, Nat.reduceMul, Nat.reduceBEq, Nat.reduceLeDiff, ↓reduceIte, Int.toNat_natCast, Int.reduceToNat, Int.toNat_zero, Int.toNat_one, not_true_eq_false, false_or, or_self, Nat.reduceGT, Option.isSome_some, Bool.and_self, Nat.zero_add, Nat.mul_one, List.length_map, List.take_length, Int.cast_ofNat_Int, Int.reduceLE, Int.reduceLT, Int.reduceGE, Int.reduceGT, Int.reduceEq, Int.reduceNe, Int.le_refl, Nat.le_refl, Nat.reduceAdd, ne_eq, not_false_eq_true, reduceCtorEq, beq_true, beq_false, BEq.rfl, Bool.not_true, Bool.not_false, decide_true, decide_false, exists_prop, h, map_at DeclG.av _ _ _ hgd, DeclG.av, DeclG.cs]
    intro v hv
    have hds := fun T cs => Hp.del_set _ _ T cs hv.1
    have hwl : (wordT d.codata).length ≤ 7 := by unfold wordT; split <;> simp
    have hnl := hs.name d hmem
    have hd6 := hs.xt d hmem
    refine brK_mk (fun h2 => ?_) (fun h2 => ?_) <;> simp only [go_sem, Int.natCast_nonneg, Nat.reduceEqDiff, Nat.reduceAdd, Nat.reduceSub, Nat.reduceLT, Nat.reduceMul, Nat.reduceBEq, Nat.reduceLeDiff, ↓reduceIte, Int.toNat_natCast, Int.reduceToNat, Int.toNat_zero, Int.toNat_one, not_true_eq_false, false_or, or_self, Nat.reduceGT, Option.isSome_some, Bool.and_self, Nat.zero_add, Nat.mul_one, List.length_map, List.take_length, Int.cast_ofNat_Int, Int.reduceLE, Int.reduceLT, Int.reduceGE, Int.reduceGT, Int.reduceEq, Int.reduceNe, Int.le_refl, Nat.le_refl, Nat.reduceAdd, ne_eq, not_false_eq_true, reduceCtorEq, beq_true, beq_false, BEq.rfl, Bool.not_true, Bool.not_false, decide_true, decide_false, exists_prop, h2, hds] <;>
    (refine addNil_by 9 1 ?_
     refine aw_loopX 72 (fun g : Nat × Value => [(0, .lst 3 hd (l.map DeclG.av)), (3, bptr vb), (14, .lst 3 hd (l.map DeclG.av)), (15, .v (.int .i64 l.length)), (16, .v (.int .i64 k)), (5, .ref (.pointer (some ⟨v, 0, none⟩)) d.cs), (6, .v (.string (bs (wordT d.codata)))), (23, .lst 2 d.h (d.xtors.map XtorG.av)), (24, .v (.int .i64 d.xtors.length)), (7, strsAV g.2 ((d.xtors.take g.1).map (xtorT l))), (25, .v (.int .i64 g.1))])
       (fun g => hpT hp vb q hb out [(9, 1, g.2)]) (fun g => g.1 ≤ d.xtors.length) (fun g => d.xtors.length - g.1) (0, .slice none 0 0)
       (Nat.zero_le _) (le_of_cast rfl (by simp only [go_sem, hds]; exact Hp.le_refl _) (by simp [go_sem, Cast.refl, hcd, h2, wordT, bptr]; exact Cast.nil 1)) ?_
     rintro ⟨j, h7⟩ hj
     simp only at hj
     refine awp_sound (mu := []) _ _ _ ?_
     simp only [go_sem, Int.natCast_nonneg, Nat.reduceEqDiff, Nat.reduceAdd, Nat.reduceSub, Nat.reduceLT, Nat.reduceMul, Nat.reduceBEq, Nat.reduceLeDiff, ↓reduceIte, Int.toNat_natCast, Int.reduceToNat, Int.toNat_zero, Int.toNat_one, not_true_eq_false, false_or, or_self, Nat.reduceGT, Option.isSome_some, Bool.and_self, Nat.zero_add, Nat.mul_one, List.length_map, List.take_length, Int.cast_ofNat_Int, Int.reduceLE, Int.reduceLT, Int.reduceGE, Int.reduceGT, Int.reduceEq, Int.reduceNe, Int.le_refl, Nat.le_refl, Nat.reduceAdd, ne_eq, not_false_eq_true, reduceCtorEq, beq_true, beq_false, BEq.rfl, Bool.not_true, Bool.not_false, decide_true, decide_false, exists_prop]
     refine brK_mk (fun h3 => ?_) (fun h3 => ?_)
     · have hj' : j < d.xtors.length := by simpa using h3
       obtain ⟨x, hx⟩ := some_at d.xtors j hj'
       have hxm := List.mem_of_getElem? hx
       have hal := hl.ar d hmem x hxm
       have hxc : x.cs = [.v (.string (bs x.name)), .lst 2 x.h (x.args.map ArgG.av)] := rfl
       have hxn := hs.xname d hmem x hxm
       have hx6 := hs.ar d hmem x hxm
       simp only [go_sem, Int.natCast_nonneg, Nat.reduceEqDiff, Nat.reduceAdd, Nat.reduceSub, Nat.reduceLT, Nat.reduceMul, Nat.reduceBEq, Nat.reduceLeDiff, ↓reduceIte, Int.toNat_natCast, Int.reduceToNat, Int.toNat_zero, Int.toNat_one, not_true_eq_false, false_or, or_self, Nat.reduceGT, Option.isSome_some, Bool.and_self, Nat.zero_add, Nat.mul_one, List.length_map, List.take_length, Int.cast_ofNat_Int, Int.reduceLE, Int.reduceLT, Int.reduceGE, Int.reduceGT, Int.reduceEq, Int.reduceNe, Int.le_refl, Nat.le_refl, Nat.reduceAdd, ne_eq, not_false_eq_true, reduceCtorEq, beq_true, beq_false, BEq.rfl, Bool.not_true, Bool.not_false, decide_true, decide_false, exists_prop, h3, map_at XtorG.av _ _ _ hx, XtorG.av, XtorG.cs]
       intro u hu
       have hdu := fun T cs => Hp.del_set _ _ T cs hu.1
       simp only [hdu]
       refine addNil_by 9 1 ?_
       refine aw_loopX 72 (fun g : Nat × Value => [(0, .lst 3 hd (l.map DeclG.av)), (3, bptr vb), (14, .lst 3 hd (l.map DeclG.av)), (15, .v (.int .i64 l.length)), (16, .v (.int .i64 k)), (5, .ref (.pointer (some ⟨v, 0, none⟩)) d.cs), (6, .v (.string (bs (wordT d.codata)))), (23, .lst 2 d.h (d.xtors.map XtorG.av)), (24, .v (.int .i64 d.xtors.length)), (7, strsAV h7 ((d.xtors.take j).map (xtorT l))), (25, .v (.int .i64 j)), (9, .ref (.pointer (some ⟨u, 0, none⟩)) x.cs),
           (10, strsAV g.2 ((x.args.take g.1).map (argT l))), (30, .lst 2 x.h (x.args.map ArgG.av)), (31, .v (.int .i64 x.args.length)), (32, .v (.int .i64 g.1))])
         (fun g => hpT hp vb q hb out [(9, 1, g.2), (9, 1, h7)]) (fun g => g.1 ≤ x.args.length) (fun g => x.args.length - g.1) (0, .slice none 0 0)
         (Nat.zero_le _) (le_of_cast rfl (by simp only [go_sem, hdu]; exact Hp.le_refl _) (by simp [go_sem, Cast.refl, hxc, bptr]; exact Cast.nil 1)) ?_
       rintro ⟨i, h10⟩ hi
       simp only at hi
       refine awp_sound (mu := []) _ _ _ ?_
       simp only [go_sem, Int.natCast_nonneg, Nat.reduceEqDiff, Nat.reduceAdd, Nat.reduceSub, Nat.reduceLT, Nat.reduceMul, Nat.reduceBEq, Nat.reduceLeDiff, ↓reduceIte, Int.toNat_natCast, Int.reduceToNat, Int.toNat_zero, Int.toNat_one, not_true_eq_false, false_or, or_self, Nat.reduceGT, Option.isSome_some, Bool.and_self, Nat.zero_add, Nat.mul_one, List.length_map, List.take_length, Int.cast_ofNat_Int, Int.reduceLE, Int.reduceLT, Int.reduceGE, Int.reduceGT, Int.reduceEq, Int.reduceNe, Int.le_refl, Nat.le_refl, Nat.reduceAdd, ne_eq, not_false_eq_true, reduceCtorEq, beq_true, beq_false, BEq.rfl, Bool.not_true, Bool.not_false, decide_true, decide_false, exists_prop]
       refine brK_mk (fun h4 => ?_) (fun h4 => ?_)
       · have hi' : i < x.args.length := by simpa using h4
         obtain ⟨a, ha⟩ := some_at x.args i hi'
         have hat := hs.ty d hmem x hxm a (List.mem_of_getElem? ha)
         have htl := typeName_len hs a.typ
         simp only [go_sem, Int.natCast_nonneg, Nat.reduceEqDiff, Nat.reduceAdd, Nat.reduceSub, Nat.reduceLT, Nat.reduceMul, Nat.reduceBEq, Nat.reduceLeDiff, ↓reduceIte, Int.toNat_natCast, Int.reduceToNat, Int.toNat_zero, Int.toNat_one, not_true_eq_false, false_or, or_self, Nat.reduceGT, Option.isSome_some, Bool.and_self, Nat.zero_add, Nat.mul_one, List.length_map, List.take_length, Int.cast_ofNat_Int, Int.reduceLE, Int.reduceLT, Int.reduceGE, Int.reduceGT, Int.reduceEq, Int.reduceNe, Int.le_refl, Nat.le_refl, Nat.reduceAdd, ne_eq, not_false_eq_true, reduceCtorEq, beq_true, beq_false, BEq.rfl, Bool.not_true, Bool.not_false, decide_true, decide_false, exists_prop, h4, map_at ArgG.av _ _ _ ha, ArgG.av, ArgG.cs]
         intro w hw
         have hdw := fun T cs => Hp.del_set _ _ T cs hw.1
         simp only [hdw]
         refine callX_by (typeName_calls hd l a.typ hat.1 hat.2 _) ?_
         rintro r hp2 ⟨rfl, rfl⟩
         simp only [go_sem, Int.natCast_nonneg, Nat.reduceEqDiff, Nat.reduceAdd, Nat.reduceSub, Nat.reduceLT, Nat.reduceMul, Nat.reduceBEq, Nat.reduceLeDiff, ↓reduceIte, Int.toNat_natCast, Int.reduceToNat, Int.toNat_zero, Int.toNat_one, not_true_eq_false, false_or, or_self, Nat.reduceGT, Option.isSome_some, Bool.and_self, Nat.zero_add, Nat.mul_one, List.length_map, List.take_length, Int.cast_ofNat_Int, Int.reduceLE, Int.reduceLT, Int.reduceGE, Int.reduceGT, Int.reduceEq, Int.reduceNe, Int.le_refl, Nat.le_refl, Nat.reduceAdd, ne_eq, not_false_eq_true, reduceCtorEq, beq_true, beq_false, BEq.rfl, Bool.not_true, Bool.not_false, decide_true, decide_false, exists_prop, hdw]
         have hta : x.args.take (i + 1) = x.args.take i ++ [a] := by rw [List.take_add_one, ha]; rfl
         refine brK_mk (fun h5 => ?_) (fun h5 => ?_) <;> simp only [go_sem, Int.natCast_nonneg, Nat.reduceEqDiff, Nat.reduceAdd, Nat.reduceSub, Nat.reduceLT, Nat.reduceMul, Nat.reduceBEq, Nat.reduceLeDiff, ↓reduceIte, Int.toNat_natCast, Int.reduceToNat, Int.toNat_zero, Int.toNat_one, not_true_eq_false, false_or, or_self, Nat.reduceGT, Option.isSome_some, Bool.and_self, Nat.zero_add, Nat.mul_one, List.length_map, List.take_length, Int.cast_ofNat_Int, Int.reduceLE, Int.reduceLT, Int.reduceGE, Int.reduceGT, Int.reduceEq, Int.reduceNe, Int.le_refl, Nat.le_refl, Nat.reduceAdd, ne_eq, not_false_eq_true, reduceCtorEq, beq_true, beq_false, BEq.rfl, Bool.not_true, Bool.not_false, decide_true, decide_false, exists_prop, h5, hdw]
         · refine ⟨(by first | omega | (simp; omega)), ?_⟩
           · refine ⟨rfl, by simp, fun hd2 => ?_⟩
             refine append_by (a := strsAV h10 ((x.args.take i).map (argT l))) (b := .lst 1 hd2 [.v (.string (bs (argT l a)))]) (l1 := [(9, 1, hd2)]) (l2 := (9, 1, h7) :: (5, 1, hb) :: hp.sp) (h := h10) (h2 := hd2) Try.k127 Try.s9 Try.y9 Try.z9 rfl (by decide)
               (by simp [go_sem, strsAV]) (Cast.refl _) (by simp [go_sem, argT, h5]) (Cast.refl _) (by simp [go_sem, hpT]) (by simp [go_sem]) (by simp [maxLen]; omega) (by simp; omega) (by simp [go_sem]) (fun h' => ?_)
             simp only [go_sem, Int.natCast_nonneg, Nat.reduceEqDiff, Nat.reduceAdd, Nat.reduceSub, Nat.reduceLT, Nat.reduceMul, Nat.reduceBEq, Nat.reduceLeDiff, ↓reduceIte, Int.toNat_natCast, Int.reduceToNat, Int.toNat_zero, Int.toNat_one, not_true_eq_false, false_or, or_self, Nat.reduceGT, Option.isSome_some, Bool.and_self, Nat.zero_add, Nat.mul_one, List.length_map, List.take_length, Int.cast_ofNat_Int, Int.reduceLE, Int.reduceLT, Int.reduceGE, Int.reduceGT, Int.reduceEq, Int.reduceNe, Int.le_refl, Nat.le_refl, Nat.reduceAdd, ne_eq, not_false_eq_true, reduceCtorEq, beq_true, beq_false, BEq.rfl, Bool.not_true, Bool.not_false, decide_true, decide_false, exists_prop]
             refine ⟨(i + 1, h'), by simp only; omega, by simp only; omega, le_mkSl rfl (hpT_less hp vb q hb out (9, 1, hd2) [(9, 1, h'), (9, 1, h7)]) ?_⟩
             simp [go_sem, wrap_up i _ hi' hal, strsAV, hta, hxc, bptr]
         · · refine ⟨rfl, by simp, fun hd2 => ?_⟩
             refine append_by (a := strsAV h10 ((x.args.take i).map (argT l))) (b := .lst 1 hd2 [.v (.string (bs (argT l a)))]) (l1 := [(9, 1, hd2)]) (l2 := (9, 1, h7) :: (5, 1, hb) :: hp.sp) (h := h10) (h2 := hd2) Try.k127 Try.s9 Try.y9 Try.z9 rfl (by decide)
               (by simp [go_sem, strsAV]) (Cast.refl _) (by simp [go_sem, argT, h5]) (Cast.refl _) (by simp [go_sem, hpT]) (by simp [go_sem]) (by simp [maxLen]; omega) (by simp; omega) (by simp [go_sem]) (fun h' => ?_)
             simp only [go_sem, Int.natCast_nonneg, Nat.reduceEqDiff, Nat.reduceAdd, Nat.reduceSub, Nat.reduceLT, Nat.reduceMul, Nat.reduceBEq, Nat.reduceLeDiff, ↓reduceIte, Int.toNat_natCast, Int.reduceToNat, Int.toNat_zero, Int.toNat_one, not_true_eq_false, false_or, or_self, Nat.reduceGT, Option.isSome_some, Bool.and_self, Nat.zero_add, Nat.mul_one, List.length_map, List.take_length, Int.cast_ofNat_Int, Int.reduceLE, Int.reduceLT, Int.reduceGE, Int.reduceGT, Int.reduceEq, Int.reduceNe, Int.le_refl, Nat.le_refl, Nat.reduceAdd, ne_eq, not_false_eq_true, reduceCtorEq, beq_true, beq_false, BEq.rfl, Bool.not_true, Bool.not_false, decide_true, decide_false, exists_prop]
             refine ⟨(i + 1, h'), by simp only; omega, by simp only; omega, le_mkSl rfl (hpT_less hp vb q hb out (9, 1, hd2) [(9, 1, h'), (9, 1, h7)]) ?_⟩
             simp [go_sem, wrap_up i _ hi' hal, strsAV, hta, hxc, bptr]
       · simp only [go_sem, Int.natCast_nonneg, Nat.reduceEqDiff, Nat.reduceAdd, Nat.reduceSub, Nat.reduceLT, Nat.reduceMul, Nat.reduceBEq, Nat.reduceLeDiff, ↓reduceIte, Int.toNat_natCast, Int.reduceToNat, Int.toNat_zero, Int.toNat_one, not_true_eq_false, false_or, or_self, Nat.reduceGT, Option.isSome_some, Bool.and_self, Nat.zero_add, Nat.mul_one, List.length_map, List.take_length, Int.cast_ofNat_Int, Int.reduceLE, Int.reduceLT, Int.reduceGE, Int.reduceGT, Int.reduceEq, Int.reduceNe, Int.le_refl, Nat.le_refl, Nat.reduceAdd, ne_eq, not_false_eq_true, reduceCtorEq, beq_true, beq_false, BEq.rfl, Bool.not_true, Bool.not_false, decide_true, decide_false, exists_prop, h4, XtorG.cs]
         have e : i = x.args.length := by simp at h4; omega
         subst e
         rw [List.take_length]
         have hjl := joinA_len hs x.args hx6
         refine draw_by (mu := []) (fun _ => True) (.take 0 (.take 1 (.take 2 (.take 3 (.take 4 (.br 5 (.take 6 (.take 7 (.br 8 (.br 9 (.take 10 (.done)) (.stop)) (.stop)))) (.stop))))))) (by decide +kernel) trivial (by decide +kernel) (by decide +kernel) ?_
         simp only [go_sem, Int.natCast_nonneg, Nat.reduceEqDiff, Nat.reduceAdd, Nat.reduceSub, Nat.reduceLT, Nat.reduceMul, Nat.reduceBEq, Nat.reduceLeDiff, ↓reduceIte, Int.toNat_natCast, Int.reduceToNat, Int.toNat_zero, Int.toNat_one, not_true_eq_false, false_or, or_self, Nat.reduceGT, Option.isSome_some, Bool.and_self, Nat.zero_add, Nat.mul_one, List.length_map, List.take_length, Int.cast_ofNat_Int, Int.reduceLE, Int.reduceLT, Int.reduceGE, Int.reduceGT, Int.reduceEq, Int.reduceNe, Int.le_refl, Nat.le_refl, Nat.reduceAdd, ne_eq, not_false_eq_true, reduceCtorEq, beq_true, beq_false, BEq.rfl, Bool.not_true, Bool.not_false, decide_true, decide_false, exists_prop, hxc]
         refine ⟨(by first | omega | (simp; omega)), fun _ _ => (by first | omega | (simp; omega)), ?_⟩
         refine callX_by (join_calls h10 (x.args.map (argT l)) _ (by omega) (by simp; omega) _) ?_
         rintro r hp2 ⟨rfl, rfl⟩
         simp only [go_sem, Int.natCast_nonneg, Nat.reduceEqDiff, Nat.reduceAdd, Nat.reduceSub, Nat.reduceLT, Nat.reduceMul, Nat.reduceBEq, Nat.reduceLeDiff, ↓reduceIte, Int.toNat_natCast, Int.reduceToNat, Int.toNat_zero, Int.toNat_one, not_true_eq_false, false_or, or_self, Nat.reduceGT, Option.isSome_some, Bool.and_self, Nat.zero_add, Nat.mul_one, List.length_map, List.take_length, Int.cast_ofNat_Int, Int.reduceLE, Int.reduceLT, Int.reduceGE, Int.reduceGT, Int.reduceEq, Int.reduceNe, Int.le_refl, Nat.le_refl, Nat.reduceAdd, ne_eq, not_false_eq_true, reduceCtorEq, beq_true, beq_false, BEq.rfl, Bool.not_true, Bool.not_false, decide_true, decide_false, exists_prop]
         refine ⟨(by first | omega | (simp; omega)), fun _ _ => (by first | omega | (simp; omega)), (by first | omega | (simp; omega)), fun _ _ => (by first | omega | (simp; omega)), rfl, by simp, fun hd2 => ?_⟩
         refine append_by (a := strsAV h7 ((d.xtors.take j).map (xtorT l))) (b := .lst 1 hd2 [.v (.string (bs (xtorT l x)))]) (l1 := [(9, 1, hd2), (9, 1, h10)]) (l2 := (5, 1, hb) :: hp.sp) (h := h7) (h2 := hd2) Try.k127 Try.s9 Try.y9 Try.z9 rfl (by decide)
           (by simp [go_sem, strsAV]) (Cast.refl _) (by simp [go_sem, xtorT]) (Cast.refl _) (by simp [go_sem, hpT]) (by simp [go_sem]) (by simp [maxLen]; omega) (by simp; omega) (by simp [go_sem]) (fun h' => ?_)
         simp only [go_sem, Int.natCast_nonneg, Nat.reduceEqDiff, Nat.reduceAdd, Nat.reduceSub, Nat.reduceLT, Nat.reduceMul, Nat.reduceBEq, Nat.reduceLeDiff, ↓reduceIte, Int.toNat_natCast, Int.reduceToNat, Int.toNat_zero, Int.toNat_one, not_true_eq_false, false_or, or_self, Nat.reduceGT, Option.isSome_some, Bool.and_self, Nat.zero_add, Nat.mul_one, List.length_map, List.take_length, Int.cast_ofNat_Int, Int.reduceLE, Int.reduceLT, Int.reduceGE, Int.reduceGT, Int.reduceEq, Int.reduceNe, Int.le_refl, Nat.le_refl, Nat.reduceAdd, ne_eq, not_false_eq_true, reduceCtorEq, beq_true, beq_false, BEq.rfl, Bool.not_true, Bool.not_false, decide_true, decide_false, exists_prop]
         have htx : d.xtors.take (j + 1) = d.xtors.take j ++ [x] := by rw [List.take_add_one, hx]; rfl
         refine ⟨(j + 1, h'), by simp only; omega, by simp only; omega, le_mkSl rfl (Hp.le_trans (hpT_less hp vb q hb out (9, 1, h10) [(9, 1, h')]) (hpT_less hp vb q hb out (9, 1, hd2) [(9, 1, h10), (9, 1, h')])) ?_⟩
         simp [go_sem, wrap_up j _ hj' hxl, strsAV, htx, hcd, bptr]
     · simp only [go_sem, Int.natCast_nonneg, Nat.reduceEqDiff, Nat.reduceAdd, Nat.reduceSub, Nat.reduceLT, Nat.reduceMul, Nat.reduceBEq, Nat.reduceLeDiff, ↓reduceIte, Int.toNat_natCast, Int.reduceToNat, Int.toNat_zero, Int.toNat_one, not_true_eq_false, false_or, or_self, Nat.reduceGT, Option.isSome_some, Bool.and_self, Nat.zero_add, Nat.mul_one, List.length_map, List.take_length, Int.cast_ofNat_Int, Int.reduceLE, Int.reduceLT, Int.reduceGE, Int.reduceGT, Int.reduceEq, Int.reduceNe, Int.le_refl, Nat.le_refl, Nat.reduceAdd, ne_eq, not_false_eq_true, reduceCtorEq, beq_true, beq_false, BEq.rfl, Bool.not_true, Bool.not_false, decide_true, decide_false, exists_prop, h3, DeclG.cs]
       have e : j = d.xtors.length := by simp at h3; omega
       subst e
       rw [List.take_length]
       have hjl := joinX_len hs hmem
       refine draw_by (mu := []) (fun _ => True) (.take 0 (.take 1 (.take 2 (.take 3 (.take 4 (.take 5 (.br 6 (.take 7 (.take 8 (.br 9 (.done) (.stop)))) (.stop)))))))) (by decide +kernel) trivial (by decide +kernel) (by decide +kernel) ?_
       simp only [go_sem, Int.natCast_nonneg, Nat.reduceEqDiff, Nat.reduceAdd, Nat.reduceSub, Nat.reduceLT, Nat.reduceMul, Nat.reduceBEq, Nat.reduceLeDiff, ↓reduceIte, Int.toNat_natCast, Int.reduceToNat, Int.toNat_zero, Int.toNat_one, not_true_eq_false, false_or, or_self, Nat.reduceGT, Option.isSome_some, Bool.and_self, Nat.zero_add, Nat.mul_one, List.length_map, List.take_length, Int.cast_ofNat_Int, Int.reduceLE, Int.reduceLT, Int.reduceGE, Int.reduceGT, Int.reduceEq, Int.reduceNe, Int.le_refl, Nat.le_refl, Nat.reduceAdd, ne_eq, not_false_eq_true, reduceCtorEq, beq_true, beq_false, BEq.rfl, Bool.not_true, Bool.not_false, decide_true, decide_false, exists_prop, hcd]
       refine ⟨(by first | omega | (simp; omega)), fun _ _ => (by first | omega | (simp; omega)), (by first | omega | (simp; omega)), fun _ _ => (by first | omega | (simp; omega)), ?_⟩
       refine callX_by (join_calls h7 (d.xtors.map (xtorT l)) _ (by omega) (by have := hs.xt d hmem; simp; omega) _) ?_
       rintro r hp2 ⟨rfl, rfl⟩
       simp only [go_sem, Int.natCast_nonneg, Nat.reduceEqDiff, Nat.reduceAdd, Nat.reduceSub, Nat.reduceLT, Nat.reduceMul, Nat.reduceBEq, Nat.reduceLeDiff, ↓reduceIte, Int.toNat_natCast, Int.reduceToNat, Int.toNat_zero, Int.toNat_one, not_true_eq_false, false_or, or_self, Nat.reduceGT, Option.isSome_some, Bool.and_self, Nat.zero_add, Nat.mul_one, List.length_map, List.take_length, Int.cast_ofNat_Int, Int.reduceLE, Int.reduceLT, Int.reduceGE, Int.reduceGT, Int.reduceEq, Int.reduceNe, Int.le_refl, Nat.le_refl, Nat.reduceAdd, ne_eq, not_false_eq_true, reduceCtorEq, beq_true, beq_false, BEq.rfl, Bool.not_true, Bool.not_false, decide_true, decide_false, exists_prop]
       have hdl := declT_len hs hmem
       have hed : wordT d.codata ++ d.name ++ [32, 123, 32] ++ Lib.join (d.xtors.map (xtorT l)) [44, 32] ++ [32, 125, 10] = declT l d := rfl
       refine ⟨(by first | omega | (simp; omega)), fun _ _ => (by first | omega | (simp; omega)), (by first | omega | (simp; omega)), fun _ _ => (by first | omega | (simp; omega)), ?_⟩
       rw [hed]
       refine callX_by (writeString_calls vb hb out (declT l d) [(9, 1, h7)] hp.sp _ (hpT_ok [(9, 1, h7)] hq) (by omega)) ?_
       rintro r hp2 ⟨hb', rfl, rfl, hok⟩
       rw [hpT_wrote] at hok
       simp only [go_sem, Int.natCast_nonneg, Nat.reduceEqDiff, Nat.reduceAdd, Nat.reduceSub, Nat.reduceLT, Nat.reduceMul, Nat.reduceBEq, Nat.reduceLeDiff, ↓reduceIte, Int.toNat_natCast, Int.reduceToNat, Int.toNat_zero, Int.toNat_one, not_true_eq_false, false_or, or_self, Nat.reduceGT, Option.isSome_some, Bool.and_self, Nat.zero_add, Nat.mul_one, List.length_map, List.take_length, Int.cast_ofNat_Int, Int.reduceLE, Int.reduceLT, Int.reduceGE, Int.reduceGT, Int.reduceEq, Int.reduceNe, Int.le_refl, Nat.le_refl, Nat.reduceAdd, ne_eq, not_false_eq_true, reduceCtorEq, beq_true, beq_false, BEq.rfl, Bool.not_true, Bool.not_false, decide_true, decide_false, exists_prop, hpT_wrote]
       have htd : (l.take (k + 1)).flatMap (declT l) = out ++ declT l d := by rw [List.take_add_one, hgd, List.flatMap_append, hout]; simp
       refine ⟨(k + 1, some ⟨vb, 0, none⟩, hb'), by simp only; omega, ⟨by simp only; omega, .inr rfl, ?_⟩, le_mkSl rfl ?_ ?_⟩
       · intro h; exact hok.2.2 (by rw [← htd]; exact h)
       · simp only [htd]; exact hpT_less hp vb _ hb' (out ++ declT l d) (9, 1, h7) []
       · simp [go_sem, wrap_up k _ hk' hl.len, bptr])
  · have e : k = l.length := by simp at h; omega
    subst e
    rw [List.take_length] at hout
    refine callX_by (string_calls vb hb out [] hp.sp _ (hpT_ok [] hq) (by simp only [maxLen]; omega)) ?_
    rintro r hp' ⟨rfl, rfl⟩
    simp only [go_sem, Int.natCast_nonneg, Nat.reduceEqDiff, Nat.reduceAdd, Nat.reduceSub, Nat.reduceLT, Nat.reduceMul, Nat.reduceBEq, Nat.reduceLeDiff, ↓reduceIte, Int.toNat_natCast, Int.reduceToNat, Int.toNat_zero, Int.toNat_one, not_true_eq_false, false_or, or_self, Nat.reduceGT, Option.isSome_some, Bool.and_self, Nat.zero_add, Nat.mul_one, List.length_map, List.take_length, Int.cast_ofNat_Int, Int.reduceLE, Int.reduceLT, Int.reduceGE, Int.reduceGT, Int.reduceEq, Int.reduceNe, Int.le_refl, Nat.le_refl, Nat.reduceAdd, ne_eq, not_false_eq_true, reduceCtorEq, beq_true, beq_false, BEq.rfl, Bool.not_true, Bool.not_false, decide_true, decide_false, exists_prop]
    refine ret_le (hp' := hp) ?_ ⟨by rw [← hout]; rfl, rfl⟩
    exact Hp.le_setBlk hp vb _ _ hvb.1

theorem decl_string_calls (hd : Value) (l : List DeclG) (hp : Hp) (hg : GOk hp) : ACalls Try.prog 38 [declsAV hd l] hp
    (fun r hp' => r = .tup [.v (.string (bs (if validB l = true then textL l else []))), .v (.int .i64 (checkE l))] ∧ hp' = hp) := by
  refine acalls_of Try.func38 rfl (by decide +kernel) (awp_sound (mu := []) _ _ _ ?_)
  simp only [go_sem, Int.natCast_nonneg, Nat.reduceEqDiff, Nat.reduceAdd, Nat.reduceSub, Nat.reduceLT, Nat.reduceMul, Nat.reduceBEq, Nat.reduceLeDiff, ↓reduceIte, Int.toNat_natCast, Int.reduceToNat, Int.toNat_zero, Int.toNat_one, not_true_eq_false, false_or, or_self, Nat.reduceGT, Option.isSome_some, Bool.and_self, Nat.zero_add, Nat.mul_one, List.length_map, List.take_length, Int.cast_ofNat_Int, Int.reduceLE, Int.reduceLT, Int.reduceGE, Int.reduceGT, Int.reduceEq, Int.reduceNe, Int.le_refl, Nat.le_refl, Nat.reduceAdd, ne_eq, not_false_eq_true, reduceCtorEq, beq_true, beq_false, BEq.rfl, Bool.not_true, Bool.not_false, decide_true, decide_false, exists_prop]
  refine callX_by (valid_calls hd l _ hg) ?_
  rintro r hp' ⟨rfl, rfl⟩
  simp only [go_sem, Int.natCast_nonneg, Nat.reduceEqDiff, Nat.reduceAdd, Nat.reduceSub, Nat.reduceLT, Nat.reduceMul, Nat.reduceBEq, Nat.reduceLeDiff, ↓reduceIte, Int.toNat_natCast, Int.reduceToNat, Int.toNat_zero, Int.toNat_one, not_true_eq_false, false_or, or_self, Nat.reduceGT, Option.isSome_some, Bool.and_self, Nat.zero_add, Nat.mul_one, List.length_map, List.take_length, Int.cast_ofNat_Int, Int.reduceLE, Int.reduceLT, Int.reduceGE, Int.reduceGT, Int.reduceEq, Int.reduceNe, Int.le_refl, Nat.le_refl, Nat.reduceAdd, ne_eq, not_false_eq_true, reduceCtorEq, beq_true, beq_false, BEq.rfl, Bool.not_true, Bool.not_false, decide_true, decide_false, exists_prop]
  refine brK_mk (fun h => ?_) (fun h => ?_) <;> simp only [go_sem, Int.natCast_nonneg, Nat.reduceEqDiff, Nat.reduceAdd, Nat.reduceSub, Nat.reduceLT, Nat.reduceMul, Nat.reduceBEq, Nat.reduceLeDiff, ↓reduceIte, Int.toNat_natCast, Int.reduceToNat, Int.toNat_zero, Int.toNat_one, not_true_eq_false, false_or, or_self, Nat.reduceGT, Option.isSome_some, Bool.and_self, Nat.zero_add, Nat.mul_one, List.length_map, List.take_length, Int.cast_ofNat_Int, Int.reduceLE, Int.reduceLT, Int.reduceGE, Int.reduceGT, Int.reduceEq, Int.reduceNe, Int.le_refl, Nat.le_refl, Nat.reduceAdd, ne_eq, not_false_eq_true, reduceCtorEq, beq_true, beq_false, BEq.rfl, Bool.not_true, Bool.not_false, decide_true, decide_false, exists_prop, h]
  · refine callX_by (text_calls hd l (short_of h) _) ?_
    rintro r hp2 ⟨rfl, rfl⟩
    simp only [go_sem, Int.natCast_nonneg, Nat.reduceEqDiff, Nat.reduceAdd, Nat.reduceSub, Nat.reduceLT, Nat.reduceMul, Nat.reduceBEq, Nat.reduceLeDiff, ↓reduceIte, Int.toNat_natCast, Int.reduceToNat, Int.toNat_zero, Int.toNat_one, not_true_eq_false, false_or, or_self, Nat.reduceGT, Option.isSome_some, Bool.and_self, Nat.zero_add, Nat.mul_one, List.length_map, List.take_length, Int.cast_ofNat_Int, Int.reduceLE, Int.reduceLT, Int.reduceGE, Int.reduceGT, Int.reduceEq, Int.reduceNe, Int.le_refl, Nat.le_refl, Nat.reduceAdd, ne_eq, not_false_eq_true, reduceCtorEq, beq_true, beq_false, BEq.rfl, Bool.not_true, Bool.not_false, decide_true, decide_false, exists_prop]
    exact ret_same ⟨by simp only [checkE, h, ↓reduceIte], rfl⟩
  · exact ret_same ⟨by simp only [checkE, h, ↓reduceIte, Bool.false_eq_true], rfl⟩
end Go.Proofs.Ytfdlfcafcjhpmaa

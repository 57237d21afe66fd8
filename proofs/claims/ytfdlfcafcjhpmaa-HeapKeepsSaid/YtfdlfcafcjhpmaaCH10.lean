/- The closure that moves words. -/
import Derived.Test.YtfdlfcafcjhpmaaCH8
import Derived.Test.YtfdlfcafcjhpmaaCAL30
set_option linter.unusedSimpArgs false
set_option linter.unusedVariables false
set_option maxRecDepth 20000
set_option maxHeartbeats 4000000
namespace Go.Proofs.Ytfdlfcafcjhpmaa
open Go.AL

/-- The space stands. -/
structure ToI (hp : Hp) (tb : Nat) (hc hs ho : Value) (g : SpG) : Prop where
  blk : hp.blk tb = some (103, [.v hc, .v hs, .v ho])
  c : RowB hp 65 2 hc g.c.length (flatW g.c)
  s : RowB hp 3 1 hs g.s.length (g.s.map iv)
  o : RowB hp 3 1 ho g.o.length (g.o.map iv)
  so : ∀ b, blockOf hs = some b → blockOf ho ≠ some b
theorem ToI.put {hp : Hp} {tb : Nat} {hc hs ho : Value} {g : SpG} (h : ToI hp tb hc hs ho g) : PutI hp tb hc hs ho hp hc hs ho g := ⟨h.blk, h.c, h.s, h.o, h.so, fun j x hj hn => ⟨hj, hn⟩, rfl, rfl, List.Sublist.refl _⟩
theorem PutI.to {hp0 : Hp} {tb : Nat} {hc0 hs0 ho0 : Value} {hp : Hp} {hc hs ho : Value} {g : SpG} (h : PutI hp0 tb hc0 hs0 ho0 hp hc hs ho g) : ToI hp tb hc hs ho g := ⟨h.blk, h.c, h.s, h.o, h.so⟩
theorem ToI.setBlk {hp : Hp} {tb : Nat} {hc hs ho : Value} {g : SpG} (h : ToI hp tb hc hs ho g) {j : Nat} (hj : ¬ Own3 tb hc hs ho j) (T : TypeId) (cs : List AV) : ToI (hp.setBlk j T cs) tb hc hs ho g := by
  simp only [Own3, not_or] at hj
  exact ⟨by rw [Hp.setBlk_blk, if_neg (Ne.symm hj.1)]; exact h.blk, rowB_setBlk h.c hj.2.1, rowB_setBlk h.s hj.2.2.1, rowB_setBlk h.o hj.2.2.2, h.so⟩

abbrev fL (L : List Int) (l : List WordG) (i : Nat) : List Int := foundL L (l.take i)
structure MvI (G : List ObjG) (L : List Int) (X : List ObjG) (l : List WordG) (rest : List AV) (mb lb tb : Nat) (c0 s0 o0 : Value) (hp0 : Hp) (i : Nat) (hp : Hp) (c s o : Value) : Prop where
  to : ToI hp tb c s o (spOf (X ++ ((fL L l i).drop L.length).map (origO G)))
  mv : hp.blk mb = some (3, (mvArr G (endO G) (fL L l i)).map iv)
  row : hp.blk lb = some (65, flatW ((l.take i).map (mvWord G (fL L l i)) ++ l.drop i) ++ rest)
  fr : ∀ j x, hp0.blk j = some x → j ≠ mb → j ≠ lb → ¬ Own3 tb c0 s0 o0 j → hp.blk j = some x ∧ ¬ Own3 tb c s o j
  nm : ¬ Own3 tb c s o mb
  nl : ¬ Own3 tb c s o lb
  mp : hp.mp = hp0.mp
  gl : hp.gl = hp0.gl
  sp : hp.sp = hp0.sp

theorem flatW_at (A : List WordG) (w : WordG) (B : List WordG) (rest : List AV) (i : Nat) (hi : A.length = i) : (flatW (A ++ w :: B) ++ rest).drop (i * 2) = .v (.bool w.ref) :: .v (.int .i64 w.n) :: (flatW B ++ rest) := by
  rw [flatW_app, List.append_assoc, List.drop_append, flatW_len, hi, List.drop_of_length_le (by rw [flatW_len]; omega)]
  simp [flatW, WordG.av, WordG.cs, AV.cells]

theorem iv_drop (l : List Int) (i : Nat) (x : Int) (h : l[i]? = some x) : (l.map iv).drop i = .v (.int .i64 x) :: (l.map iv).drop (i + 1) := by
  have h' := map_at' iv l i x h
  obtain ⟨hlt, e⟩ := List.getElem?_eq_some_iff.1 h'
  rw [List.drop_eq_getElem_cons hlt, e]; rfl
theorem iv_set (l : List Int) (i : Nat) (n : Int) (h : i < l.length) : (l.map iv).take i ++ [.v (.int .i64 n)] ++ (l.map iv).drop (i + 1) = (l.set i n).map iv := by
  have hs : ∀ (r : List Int) (k : Nat), k < r.length → r.set k n = r.take k ++ n :: r.drop (k + 1) := by
    intro r
    induction r with
    | nil => intro k hk; cases hk
    | cons a r ih =>
      intro k hk
      cases k with
      | zero => rfl
      | succ k => rw [List.set_cons_succ, ih k (by simpa using hk)]; rfl
  rw [hs l i h, List.map_append, List.map_cons, List.map_take, List.map_drop]
  simp [iv]
theorem row_step {l : List WordG} {i : Nat} {w : WordG} (hw : l[i]? = some w) (f : WordG → WordG) : (l.take (i + 1)).map f ++ l.drop (i + 1) = (l.take i).map f ++ f w :: l.drop (i + 1) := by
  rw [List.take_add_one, hw]; simp

theorem flatW_set (A : List WordG) (w : WordG) (B : List WordG) (rest : List AV) (i : Nat) (hi : A.length = i) (n : Int) :
    (flatW (A ++ w :: B) ++ rest).take (i * 2 + 1) ++ [.v (.int .i64 n)] ++ (flatW (A ++ w :: B) ++ rest).drop (i * 2 + 1 + 1) = flatW (A ++ ⟨w.ref, n⟩ :: B) ++ rest := by
  have e : ∀ v : WordG, flatW (A ++ v :: B) ++ rest = flatW A ++ (.v (.bool v.ref) :: .v (.int .i64 v.n) :: (flatW B ++ rest)) := by
    intro v
    rw [flatW_app, List.append_assoc]
    simp [flatW, WordG.av, WordG.cs, AV.cells]
  have hl : (flatW A).length = i * 2 := by rw [flatW_len, hi]
  rw [e, e, List.take_append, List.drop_append, hl, List.take_of_length_le (by omega), List.drop_of_length_le (by omega), show i * 2 + 1 - i * 2 = 1 by omega, show i * 2 + 1 + 1 - i * 2 = 2 by omega]
  simp

section
variable {G : List ObjG} {L : List Int} {X : List ObjG} {l : List WordG} {rest : List AV} {mb lb tb : Nat} {c0 s0 o0 : Value} {hp0 hp : Hp} {i : Nat} {c s o : Value}
/-- The word itself is written. -/
theorem mv_row {w : WordG} (hw : l[i]? = some w) (hr : w.ref = true) (hml : mb ≠ lb)
    (to : ToI hp tb c s o (spOf (X ++ ((fL L l (i + 1)).drop L.length).map (origO G)))) (mv : hp.blk mb = some (3, (mvArr G (endO G) (fL L l (i + 1))).map iv))
    (fr : ∀ j x, hp0.blk j = some x → j ≠ mb → j ≠ lb → ¬ Own3 tb c0 s0 o0 j → hp.blk j = some x ∧ ¬ Own3 tb c s o j) (nm : ¬ Own3 tb c s o mb) (nl : ¬ Own3 tb c s o lb) (mp : hp.mp = hp0.mp) (gl : hp.gl = hp0.gl) (sp : hp.sp = hp0.sp) :
    MvI G L X l rest mb lb tb c0 s0 o0 hp0 (i + 1) (hp.setBlk lb 65 (flatW ((l.take i).map (mvWord G (fL L l i)) ++ ⟨w.ref, (newA G (fL L l (i + 1)) w.n : Int)⟩ :: l.drop (i + 1)) ++ rest)) c s o := by
  refine ⟨to.setBlk nl _ _, by rw [Hp.setBlk_blk, if_neg hml]; exact mv, ?_, fun j x hj h1 h2 h3 => ?_, nm, nl, mp, gl, sp⟩
  · rw [Hp.setBlk_blk, if_pos rfl, row_step hw]
    have e1 : mvWord G (fL L l (i + 1)) w = ⟨w.ref, (newA G (fL L l (i + 1)) w.n : Int)⟩ := by simp [mvWord, hr]
    have e2 : (l.take i).map (mvWord G (fL L l (i + 1))) = (l.take i).map (mvWord G (fL L l i)) := by
      apply List.map_congr_left
      intro v hv
      simp only [mvWord]
      split
      · rename_i hvr
        have hm := foundL_mem (l.take i) L v hv hvr
        have htk : l.take (i + 1) = l.take i ++ [w] := by rw [List.take_add_one, hw]; rfl
        have hfs : fL L l (i + 1) = if (w.ref && !(fL L l i).contains w.n) = true then fL L l i ++ [w.n] else fL L l i := by rw [fL, htk, foundL_snoc]
        rw [hfs]
        split
        · rw [newA_app _ hm]
        · rfl
      · rfl
    rw [e1, e2]
  · obtain ⟨k1, k2⟩ := fr j x hj h1 h2 h3
    exact ⟨by rw [Hp.setBlk_blk, if_neg h2]; exact k1, k2⟩
end

theorem move_calls {G : List ObjG} {hp : Hp} {hb : Nat} {size : Int} {hc hs ho : Value} {mb mcap tb : Nat} {c1 s1 o1 : Value} {lb cap : Nat} {l : List WordG} {rest : List AV} {L : List Int} {X : List ObjG} (pm ph : Value)
    (hblk : hp.blk hb = some (105, HeapV size hc hs ho (spOf G))) (hm : hp.blk mb = some (3, (mvArr G (endO G) L).map iv)) (ht : ToI hp tb c1 s1 o1 (spOf X)) (hl : hp.blk lb = some (65, flatW l ++ rest))
    (nb : ¬ Own3 tb c1 s1 o1 hb) (nm : ¬ Own3 tb c1 s1 o1 mb) (nl : ¬ Own3 tb c1 s1 o1 lb) (hLok : LOk G L) (hX : Shaped G L X) (hv : VW G l) (hN : endO G ≤ 2097152) (hln : l.length ≤ 8796093022000) :
    ACalls Try.prog 69 [.v (.slice (some ⟨lb, 0, none⟩) l.length cap), .ref pm [.v (.slice (some ⟨mb, 0, none⟩) (endO G) mcap)], tptrAV tb, .ref ph [hptrAV hb]] hp
      (fun r hp' => r = .tup [] ∧ ∃ c s o, MvI G L X l rest mb lb tb c1 s1 o1 hp l.length hp' c s o) := by
  refine acalls_of Try.func69 rfl (by decide +kernel) (awp_sound (mu := [40, 50]) _ _ _ ?_)
  have hbm : hb ≠ mb := by rintro rfl; rw [hblk] at hm; simp at hm
  have hbl : hb ≠ lb := by rintro rfl; rw [hblk] at hl; simp at hl
  have hml : mb ≠ lb := by rintro rfl; rw [hm] at hl; simp at hl
  simp only [go_sem, Int.natCast_nonneg, Nat.reduceEqDiff, Nat.reduceAdd, Nat.reduceSub, Nat.reduceLT, Nat.reduceMul, Nat.reduceBEq, Nat.reduceLeDiff, ↓reduceIte, Int.toNat_natCast, Int.reduceToNat, Int.toNat_zero, Int.toNat_one, not_true_eq_false, false_or, or_self, Nat.reduceGT, Option.isSome_some, Bool.and_self, Nat.zero_add, Nat.mul_one, List.length_map, List.take_length, Int.cast_ofNat_Int, Int.reduceLE, Int.reduceLT, Int.reduceGE, Int.reduceGT, Int.reduceEq, Int.reduceNe, Int.le_refl, Nat.le_refl, Nat.reduceAdd, ne_eq, not_false_eq_true, reduceCtorEq, beq_true, beq_false, BEq.rfl, Bool.not_true, Bool.not_false, decide_true, decide_false, exists_prop, tptrAV, hptrAV]
  refine aw_loopX 52 (fun x : Nat × Hp × Value × Value × Value => [(0, .v (.slice (some ⟨lb, 0, none⟩) l.length cap)), (1, .ref pm [.v (.slice (some ⟨mb, 0, none⟩) (endO G) mcap)]), (2, tptrAV tb), (3, .ref ph [hptrAV hb]), (7, .v (.slice (some ⟨lb, 0, none⟩) l.length cap)), (8, .v (.int .i64 l.length)), (9, .v (.int .i64 x.1))])
    (fun x => x.2.1) (fun x => x.1 ≤ l.length ∧ MvI G L X l rest mb lb tb c1 s1 o1 hp x.1 x.2.1 x.2.2.1 x.2.2.2.1 x.2.2.2.2) (fun x => l.length - x.1) (0, hp, c1, s1, o1)
    ⟨Nat.zero_le _, ⟨by simpa [fL, foundL] using ht, by simpa [fL, foundL] using hm, by simpa [fL, foundL] using hl, fun j x hj _ _ hn => ⟨hj, hn⟩, nm, nl, rfl, rfl, rfl⟩⟩ (le_mkSl rfl (Hp.le_refl _) (by simp [go_sem, tptrAV, hptrAV])) ?_
  rintro ⟨i, hpi, ci, si, oi⟩ ⟨hi, mi⟩
  simp only at hi mi
  obtain ⟨hbi, nbi⟩ := mi.fr hb _ hblk hbm hbl nb
  have hmi := mi.mv
  have hli := mi.row
  have hlok : LOk G (fL L l i) := foundL_ok _ _ hLok (fun w hw => hv w (List.mem_of_mem_take hw))
  refine awp_sound (mu := [40, 50]) _ _ _ ?_
  simp only [go_sem, Int.natCast_nonneg, Nat.reduceEqDiff, Nat.reduceAdd, Nat.reduceSub, Nat.reduceLT, Nat.reduceMul, Nat.reduceBEq, Nat.reduceLeDiff, ↓reduceIte, Int.toNat_natCast, Int.reduceToNat, Int.toNat_zero, Int.toNat_one, not_true_eq_false, false_or, or_self, Nat.reduceGT, Option.isSome_some, Bool.and_self, Nat.zero_add, Nat.mul_one, List.length_map, List.take_length, Int.cast_ofNat_Int, Int.reduceLE, Int.reduceLT, Int.reduceGE, Int.reduceGT, Int.reduceEq, Int.reduceNe, Int.le_refl, Nat.le_refl, Nat.reduceAdd, ne_eq, not_false_eq_true, reduceCtorEq, beq_true, beq_false, BEq.rfl, Bool.not_true, Bool.not_false, decide_true, decide_false, exists_prop, tptrAV, hptrAV]
  refine brK_mk (fun h1 => ?_) (fun h1 => ?_) <;> simp only [go_sem, Int.natCast_nonneg, Nat.reduceEqDiff, Nat.reduceAdd, Nat.reduceSub, Nat.reduceLT, Nat.reduceMul, Nat.reduceBEq, Nat.reduceLeDiff, ↓reduceIte, Int.toNat_natCast, Int.reduceToNat, Int.toNat_zero, Int.toNat_one, not_true_eq_false, false_or, or_self, Nat.reduceGT, Option.isSome_some, Bool.and_self, Nat.zero_add, Nat.mul_one, List.length_map, List.take_length, Int.cast_ofNat_Int, Int.reduceLE, Int.reduceLT, Int.reduceGE, Int.reduceGT, Int.reduceEq, Int.reduceNe, Int.le_refl, Nat.le_refl, Nat.reduceAdd, ne_eq, not_false_eq_true, reduceCtorEq, beq_true, beq_false, BEq.rfl, Bool.not_true, Bool.not_false, decide_true, decide_false, exists_prop, h1]
  · have hi' : i < l.length := by simpa using h1
    have wi : IntKind.i64.wrap ((i : Int) + 1) = ((i + 1 : Nat) : Int) := IntWalk.i64_in _ (by omega)
    obtain ⟨w, hw⟩ := some_at' l i hi'
    have hd : l.drop i = w :: l.drop (i + 1) := by
      obtain ⟨hlt, rfl⟩ := List.getElem?_eq_some_iff.1 hw
      exact List.drop_eq_getElem_cons hlt
    have htk : l.take (i + 1) = l.take i ++ [w] := by rw [List.take_add_one, hw]; rfl
    have hfs : fL L l (i + 1) = if (w.ref && !(fL L l i).contains w.n) = true then fL L l i ++ [w.n] else fL L l i := by rw [fL, htk, foundL_snoc]
    have hcell := flatW_at ((l.take i).map (mvWord G (fL L l i))) w (l.drop (i + 1)) rest i (by simp; omega)
    rw [← hd] at hcell
    simp only [go_sem, Int.natCast_nonneg, Nat.reduceEqDiff, Nat.reduceAdd, Nat.reduceSub, Nat.reduceLT, Nat.reduceMul, Nat.reduceBEq, Nat.reduceLeDiff, ↓reduceIte, Int.toNat_natCast, Int.reduceToNat, Int.toNat_zero, Int.toNat_one, not_true_eq_false, false_or, or_self, Nat.reduceGT, Option.isSome_some, Bool.and_self, Nat.zero_add, Nat.mul_one, List.length_map, List.take_length, Int.cast_ofNat_Int, Int.reduceLE, Int.reduceLT, Int.reduceGE, Int.reduceGT, Int.reduceEq, Int.reduceNe, Int.le_refl, Nat.le_refl, Nat.reduceAdd, ne_eq, not_false_eq_true, reduceCtorEq, beq_true, beq_false, BEq.rfl, Bool.not_true, Bool.not_false, decide_true, decide_false, exists_prop, hli, hcell]
    refine ⟨by omega, fun u hu => ?_⟩
    have hdu := fun T cs => Hp.del_set _ _ T cs hu.1
    refine brK_mk (fun h2 => ?_) (fun h2 => ?_) <;> simp only [go_sem, Int.natCast_nonneg, Nat.reduceEqDiff, Nat.reduceAdd, Nat.reduceSub, Nat.reduceLT, Nat.reduceMul, Nat.reduceBEq, Nat.reduceLeDiff, ↓reduceIte, Int.toNat_natCast, Int.reduceToNat, Int.toNat_zero, Int.toNat_one, not_true_eq_false, false_or, or_self, Nat.reduceGT, Option.isSome_some, Bool.and_self, Nat.zero_add, Nat.mul_one, List.length_map, List.take_length, Int.cast_ofNat_Int, Int.reduceLE, Int.reduceLT, Int.reduceGE, Int.reduceGT, Int.reduceEq, Int.reduceNe, Int.le_refl, Nat.le_refl, Nat.reduceAdd, ne_eq, not_false_eq_true, reduceCtorEq, beq_true, beq_false, BEq.rfl, Bool.not_true, Bool.not_false, decide_true, decide_false, exists_prop, h2, hdu]
    · have hvn := hv w (List.mem_of_getElem? hw) h2
      obtain ⟨ob, hob⟩ := Option.isSome_iff_exists.1 (objF_mem.2 hvn)
      obtain ⟨k0, k1, k2, k3, k4⟩ := obj_spec hob
      have kN : w.n < endO G := by rw [cellsO_len] at k3; omega
      have hat := mvArr_at (G := G) (L := fL L l i) k0 kN
      simp only [go_sem, Int.natCast_nonneg, Nat.reduceEqDiff, Nat.reduceAdd, Nat.reduceSub, Nat.reduceLT, Nat.reduceMul, Nat.reduceBEq, Nat.reduceLeDiff, ↓reduceIte, Int.toNat_natCast, Int.reduceToNat, Int.toNat_zero, Int.toNat_one, not_true_eq_false, false_or, or_self, Nat.reduceGT, Option.isSome_some, Bool.and_self, Nat.zero_add, Nat.mul_one, List.length_map, List.take_length, Int.cast_ofNat_Int, Int.reduceLE, Int.reduceLT, Int.reduceGE, Int.reduceGT, Int.reduceEq, Int.reduceNe, Int.le_refl, Nat.le_refl, Nat.reduceAdd, ne_eq, not_false_eq_true, reduceCtorEq, beq_true, beq_false, BEq.rfl, Bool.not_true, Bool.not_false, decide_true, decide_false, exists_prop, hmi, iv_drop _ _ _ hat]
      refine ⟨k0, kN, ?_⟩
      cases hct : (fL L l i).contains w.n with
      | true =>
        have hz : decide (((newA G (fL L l i) w.n : Int) + 1) = 0) = false := by simp; omega
        have wz : IntKind.i64.wrap ((newA G (fL L l i) w.n : Int) + 1 - 1) = (newA G (fL L l i) w.n : Int) := by
          rw [Int.add_sub_cancel]
          refine IntWalk.i64_in _ ?_
          have hq := lok_end hlok
          have : newA G (fL L l i) w.n ≤ endO ((fL L l i).map (origO G)) := by
            rw [newA]
            have := List.takeWhile_append_dropWhile (p := fun b => b != w.n) (l := fL L l i)
            conv => rhs; rw [← this, List.map_append, endO_app]
            omega
          omega
        have e1 : fL L l (i + 1) = fL L l i := by rw [hfs, hct]; simp
        have hset := flatW_set ((l.take i).map (mvWord G (fL L l i))) w (l.drop (i + 1)) rest i (by simp; omega) (newA G (fL L l i) w.n)
        rw [← hd] at hset
        simp only [go_sem, Int.natCast_nonneg, Nat.reduceEqDiff, Nat.reduceAdd, Nat.reduceSub, Nat.reduceLT, Nat.reduceMul, Nat.reduceBEq, Nat.reduceLeDiff, ↓reduceIte, Int.toNat_natCast, Int.reduceToNat, Int.toNat_zero, Int.toNat_one, not_true_eq_false, false_or, or_self, Nat.reduceGT, Option.isSome_some, Bool.and_self, Nat.zero_add, Nat.mul_one, List.length_map, List.take_length, Int.cast_ofNat_Int, Int.reduceLE, Int.reduceLT, Int.reduceGE, Int.reduceGT, Int.reduceEq, Int.reduceNe, Int.le_refl, Nat.le_refl, Nat.reduceAdd, ne_eq, not_false_eq_true, reduceCtorEq, beq_true, beq_false, BEq.rfl, Bool.not_true, Bool.not_false, decide_true, decide_false, exists_prop, hct, hz, hmi, iv_drop _ _ _ hat, wz, hli]
        refine ⟨k0, kN, by omega, by rw [List.length_append, flatW_len]; simp; omega, ?_⟩
        refine ⟨(i + 1, hpi.setBlk lb 65 (flatW ((l.take i).map (mvWord G (fL L l i)) ++ ⟨w.ref, (newA G (fL L l (i + 1)) w.n : Int)⟩ :: l.drop (i + 1)) ++ rest), ci, si, oi), by simp only; omega, ⟨by simp only; omega, ?_⟩, le_mkSl rfl ?_ (by simp [go_sem, wi, tptrAV, hptrAV])⟩
        · exact mv_row hw h2 hml (by rw [e1]; exact mi.to) (by rw [e1]; exact mi.mv) mi.fr mi.nm mi.nl mi.mp mi.gl mi.sp
        · simp only [go_sem, Int.natCast_nonneg, Nat.reduceEqDiff, Nat.reduceAdd, Nat.reduceSub, Nat.reduceLT, Nat.reduceMul, Nat.reduceBEq, Nat.reduceLeDiff, ↓reduceIte, Int.toNat_natCast, Int.reduceToNat, Int.toNat_zero, Int.toNat_one, not_true_eq_false, false_or, or_self, Nat.reduceGT, Option.isSome_some, Bool.and_self, Nat.zero_add, Nat.mul_one, List.length_map, List.take_length, Int.cast_ofNat_Int, Int.reduceLE, Int.reduceLT, Int.reduceGE, Int.reduceGT, Int.reduceEq, Int.reduceNe, Int.le_refl, Nat.le_refl, Nat.reduceAdd, ne_eq, not_false_eq_true, reduceCtorEq, beq_true, beq_false, BEq.rfl, Bool.not_true, Bool.not_false, decide_true, decide_false, exists_prop, e1]
          rw [hset]
          exact Hp.le_refl _
      | false =>
        simp only [go_sem, Int.natCast_nonneg, Nat.reduceEqDiff, Nat.reduceAdd, Nat.reduceSub, Nat.reduceLT, Nat.reduceMul, Nat.reduceBEq, Nat.reduceLeDiff, ↓reduceIte, Int.toNat_natCast, Int.reduceToNat, Int.toNat_zero, Int.toNat_one, not_true_eq_false, false_or, or_self, Nat.reduceGT, Option.isSome_some, Bool.and_self, Nat.zero_add, Nat.mul_one, List.length_map, List.take_length, Int.cast_ofNat_Int, Int.reduceLE, Int.reduceLT, Int.reduceGE, Int.reduceGT, Int.reduceEq, Int.reduceNe, Int.le_refl, Nat.le_refl, Nat.reduceAdd, ne_eq, not_false_eq_true, reduceCtorEq, beq_true, beq_false, BEq.rfl, Bool.not_true, Bool.not_false, decide_true, decide_false, exists_prop, hct]
        refine draw_by (mu := [40, 50]) (fun _ => True) (.take 0 (.take 1 (.take 2 (.take 3 (.take 4 (.take 5 (.take 6 (.take 7 (.take 9 (.take 10 (.take 11 (.take 12 (.take 13 (.br 8 (.br 14 (.br 15 (.take 16 (.take 17 (.br 18 (.done) (.stop)))) (.stop)) (.stop)) (.stop))))))))))))))) (by decide +kernel) trivial (by decide +kernel) (by decide +kernel) ?_
        simp only [go_sem, Int.natCast_nonneg, Nat.reduceEqDiff, Nat.reduceAdd, Nat.reduceSub, Nat.reduceLT, Nat.reduceMul, Nat.reduceBEq, Nat.reduceLeDiff, ↓reduceIte, Int.toNat_natCast, Int.reduceToNat, Int.toNat_zero, Int.toNat_one, not_true_eq_false, false_or, or_self, Nat.reduceGT, Option.isSome_some, Bool.and_self, Nat.zero_add, Nat.mul_one, List.length_map, List.take_length, Int.cast_ofNat_Int, Int.reduceLE, Int.reduceLT, Int.reduceGE, Int.reduceGT, Int.reduceEq, Int.reduceNe, Int.le_refl, Nat.le_refl, Nat.reduceAdd, ne_eq, not_false_eq_true, reduceCtorEq, beq_true, beq_false, BEq.rfl, Bool.not_true, Bool.not_false, decide_true, decide_false, exists_prop]
        have hni : w.n ∉ fL L l i := by simpa using hct
        have e1 : fL L l (i + 1) = fL L l i ++ [w.n] := by rw [hfs, h2, hct]; rfl
        obtain ⟨M, hM⟩ := foundL_pre (l.take i) L
        have hdM : (fL L l i).drop L.length = M := by rw [fL, hM]; simp
        have hdM1 : (fL L l (i + 1)).drop L.length = M ++ [w.n] := by rw [e1, fL, hM, List.append_assoc]; simp
        have hlok1 : LOk G (fL L l (i + 1)) := foundL_ok _ _ hLok (fun v hv' => hv v (List.mem_of_mem_take hv'))
        have horig : origO G w.n = ob := by simp only [origO, objAt, hob, Option.getD_some]
        have hXe : endO (X ++ M.map (origO G)) = endO ((fL L l i).map (origO G)) := by
          have := shaped_end (shaped_app hX M)
          rw [this, fL, hM]
        have hroom : endO (X ++ M.map (origO G)) + osz ob ≤ endO G := by
          have := lok_end hlok1
          rw [e1, List.map_append, endO_app, ← hXe] at this
          simpa [endO, horig] using this
        have htoi := mi.to
        rw [hdM] at htoi
        refine callX_by (tag_calls' hbi w.n ⟨false, ob.tag⟩ k0 k1) ?_
        rintro r hp2 ⟨rfl, rfl⟩
        simp only [go_sem, Int.natCast_nonneg, Nat.reduceEqDiff, Nat.reduceAdd, Nat.reduceSub, Nat.reduceLT, Nat.reduceMul, Nat.reduceBEq, Nat.reduceLeDiff, ↓reduceIte, Int.toNat_natCast, Int.reduceToNat, Int.toNat_zero, Int.toNat_one, not_true_eq_false, false_or, or_self, Nat.reduceGT, Option.isSome_some, Bool.and_self, Nat.zero_add, Nat.mul_one, List.length_map, List.take_length, Int.cast_ofNat_Int, Int.reduceLE, Int.reduceLT, Int.reduceGE, Int.reduceGT, Int.reduceEq, Int.reduceNe, Int.le_refl, Nat.le_refl, Nat.reduceAdd, ne_eq, not_false_eq_true, reduceCtorEq, beq_true, beq_false, BEq.rfl, Bool.not_true, Bool.not_false, decide_true, decide_false, exists_prop, iv]
        refine callX_by (fields_calls' hbi w.n ((ob.fs.length : Int) + 1) k0 k2 (by omega) k3 (by simp only [spOf, cellsO_len, maxLen]; omega)) ?_
        rintro r hp3 ⟨⟨hfh, rfl⟩, rfl⟩
        have hff : ((spOf G).c.take (w.n + ((ob.fs.length : Int) + 1)).toNat).drop (w.n + 1).toNat = ob.fs := by
          have hk := k4
          rw [fieldsL, show (spOf G).s[w.n.toNat]? = some ((ob.fs.length : Int) + 1) from k2, Option.getD_some] at hk
          exact hk
        rw [hff]
        simp only [go_sem, Int.natCast_nonneg, Nat.reduceEqDiff, Nat.reduceAdd, Nat.reduceSub, Nat.reduceLT, Nat.reduceMul, Nat.reduceBEq, Nat.reduceLeDiff, ↓reduceIte, Int.toNat_natCast, Int.reduceToNat, Int.toNat_zero, Int.toNat_one, not_true_eq_false, false_or, or_self, Nat.reduceGT, Option.isSome_some, Bool.and_self, Nat.zero_add, Nat.mul_one, List.length_map, List.take_length, Int.cast_ofNat_Int, Int.reduceLE, Int.reduceLT, Int.reduceGE, Int.reduceGT, Int.reduceEq, Int.reduceNe, Int.le_refl, Nat.le_refl, Nat.reduceAdd, ne_eq, not_false_eq_true, reduceCtorEq, beq_true, beq_false, BEq.rfl, Bool.not_true, Bool.not_false, decide_true, decide_false, exists_prop]
        refine callX_by (putB_calls htoi.put ob.tag hfh ob.fs ⟨by simp only [spOf, cellsO_len]; simp only [osz] at hroom; omega, by simp only [spOf, sizesO_len]; simp only [osz] at hroom; omega, by
          have := len_endO (X ++ M.map (origO G))
          simp only [spOf, addrsF_len]; simp only [osz] at hroom; omega⟩) ?_
        rintro r hp4 ⟨rfl, hsp4, c4, s4, o4, p4⟩
        have wput : IntKind.i64.wrap (((spOf (X ++ M.map (origO G))).c.length : Int) + 1) = ((spOf (X ++ M.map (origO G))).c.length : Int) + 1 := by
          refine IntWalk.i64_in _ ?_
          simp only [spOf, cellsO_len]; simp only [osz] at hroom; omega
        obtain ⟨hb4, nb4⟩ := p4.fr hb _ hbi nbi
        obtain ⟨hm4, nm4⟩ := p4.fr mb _ hmi mi.nm
        obtain ⟨hl4, nl4⟩ := p4.fr lb _ hli mi.nl
        have hspX : (spOf (X ++ M.map (origO G))).c.length = endO ((fL L l i).map (origO G)) := by rw [← hXe]; simp only [spOf, cellsO_len]
        simp only [go_sem, Int.natCast_nonneg, Nat.reduceEqDiff, Nat.reduceAdd, Nat.reduceSub, Nat.reduceLT, Nat.reduceMul, Nat.reduceBEq, Nat.reduceLeDiff, ↓reduceIte, Int.toNat_natCast, Int.reduceToNat, Int.toNat_zero, Int.toNat_one, not_true_eq_false, false_or, or_self, Nat.reduceGT, Option.isSome_some, Bool.and_self, Nat.zero_add, Nat.mul_one, List.length_map, List.take_length, Int.cast_ofNat_Int, Int.reduceLE, Int.reduceLT, Int.reduceGE, Int.reduceGT, Int.reduceEq, Int.reduceNe, Int.le_refl, Nat.le_refl, Nat.reduceAdd, ne_eq, not_false_eq_true, reduceCtorEq, beq_true, beq_false, BEq.rfl, Bool.not_true, Bool.not_false, decide_true, decide_false, exists_prop, iv, wput, hm4]
        have kN' : w.n.toNat < (mvArr G (endO G) (fL L l i)).length := by rw [mvArr_len]; omega
        have hms := iv_set (mvArr G (endO G) (fL L l i)) w.n.toNat (((spOf (X ++ M.map (origO G))).c.length : Int) + 1) kN'
        rw [hspX, mvArr_set k0 kN hni, ← e1] at hms
        have hat1 := mvArr_at (G := G) (L := fL L l (i + 1)) k0 kN
        have hct1 : (fL L l (i + 1)).contains w.n = true := by rw [e1]; simp
        rw [if_pos hct1] at hat1
        have hnA : newA G (fL L l (i + 1)) w.n = endO ((fL L l i).map (origO G)) := by rw [e1, newA_new [] hni]
        have wz : IntKind.i64.wrap ((newA G (fL L l (i + 1)) w.n : Int) + 1 - 1) = (newA G (fL L l (i + 1)) w.n : Int) := by
          rw [Int.add_sub_cancel]
          refine IntWalk.i64_in _ ?_
          rw [hnA, ← hXe]
          omega
        have hset := flatW_set ((l.take i).map (mvWord G (fL L l i))) w (l.drop (i + 1)) rest i (by simp; omega) (newA G (fL L l (i + 1)) w.n)
        rw [← hd] at hset
        refine ⟨k0, kN, fun _ _ => ⟨k0, kN⟩, by omega, k0, kN, ?_⟩
        rw [hspX, hms, iv_drop _ _ _ hat1, if_neg (Ne.symm hml)]
        simp only [go_sem, Int.natCast_nonneg, Nat.reduceEqDiff, Nat.reduceAdd, Nat.reduceSub, Nat.reduceLT, Nat.reduceMul, Nat.reduceBEq, Nat.reduceLeDiff, ↓reduceIte, Int.toNat_natCast, Int.reduceToNat, Int.toNat_zero, Int.toNat_one, not_true_eq_false, false_or, or_self, Nat.reduceGT, Option.isSome_some, Bool.and_self, Nat.zero_add, Nat.mul_one, List.length_map, List.take_length, Int.cast_ofNat_Int, Int.reduceLE, Int.reduceLT, Int.reduceGE, Int.reduceGT, Int.reduceEq, Int.reduceNe, Int.le_refl, Nat.le_refl, Nat.reduceAdd, ne_eq, not_false_eq_true, reduceCtorEq, beq_true, beq_false, BEq.rfl, Bool.not_true, Bool.not_false, decide_true, decide_false, exists_prop, wz, hl4]
        refine ⟨by omega, by rw [List.length_append, flatW_len]; simp; omega, ?_⟩
        refine ⟨(i + 1, (hp4.setBlk mb 3 ((mvArr G (endO G) (fL L l (i + 1))).map iv)).setBlk lb 65 (flatW ((l.take i).map (mvWord G (fL L l i)) ++ ⟨w.ref, (newA G (fL L l (i + 1)) w.n : Int)⟩ :: l.drop (i + 1)) ++ rest), c4, s4, o4), by simp only; omega, ⟨by simp only; omega, ?_⟩, le_mkSl rfl ?_ (by simp [go_sem, wi, tptrAV, hptrAV])⟩
        · refine mv_row hw h2 hml ?_ (by rw [Hp.setBlk_blk, if_pos rfl]) (fun j x hj h1 h2 h3 => ?_) nm4 nl4 (p4.mp.trans mi.mp) (p4.gl.trans mi.gl) (hsp4.trans mi.sp)
          · have ht4 := p4.to
            rw [spOf_app] at ht4
            rw [hdM1]
            have ex : X ++ (M ++ [w.n]).map (origO G) = X ++ M.map (origO G) ++ [⟨ob.tag, ob.fs⟩] := by simp [horig]
            rw [ex]
            exact ht4.setBlk nm4 _ _
          · obtain ⟨q1, q2⟩ := mi.fr j x hj h1 h2 h3
            obtain ⟨q3, q4⟩ := p4.fr j x q1 q2
            exact ⟨by rw [Hp.setBlk_blk, if_neg h1]; exact q3, q4⟩
        · simp only [go_sem, Int.natCast_nonneg, Nat.reduceEqDiff, Nat.reduceAdd, Nat.reduceSub, Nat.reduceLT, Nat.reduceMul, Nat.reduceBEq, Nat.reduceLeDiff, ↓reduceIte, Int.toNat_natCast, Int.reduceToNat, Int.toNat_zero, Int.toNat_one, not_true_eq_false, false_or, or_self, Nat.reduceGT, Option.isSome_some, Bool.and_self, Nat.zero_add, Nat.mul_one, List.length_map, List.take_length, Int.cast_ofNat_Int, Int.reduceLE, Int.reduceLT, Int.reduceGE, Int.reduceGT, Int.reduceEq, Int.reduceNe, Int.le_refl, Nat.le_refl, Nat.reduceAdd, ne_eq, not_false_eq_true, reduceCtorEq, beq_true, beq_false, BEq.rfl, Bool.not_true, Bool.not_false, decide_true, decide_false, exists_prop]
          rw [hset]
          exact Hp.le_refl _
    · have e1 : fL L l (i + 1) = fL L l i := by rw [hfs, h2]; rfl
      refine ⟨(i + 1, hpi, ci, si, oi), by simp only; omega, ⟨by simp only; omega, ?_⟩, le_mkSl rfl (Hp.le_refl _) (by simp [go_sem, wi, tptrAV, hptrAV])⟩
      simp only
      refine ⟨by rw [e1]; exact mi.to, by rw [e1]; exact mi.mv, ?_, mi.fr, mi.nm, mi.nl, mi.mp, mi.gl, mi.sp⟩
      rw [e1, row_step hw, show mvWord G (fL L l i) w = w by simp [mvWord, h2], ← hd]
      exact mi.row
  · have e : i = l.length := by simp at h1; omega
    subst e
    exact ret_same ⟨rfl, ci, si, oi, mi⟩
end Go.Proofs.Ytfdlfcafcjhpmaa
/- Fields of the new space; clones of its parts. -/
set_option linter.unusedSimpArgs false
set_option linter.unusedVariables false
set_option maxRecDepth 20000
set_option maxHeartbeats 4000000
namespace Go.Proofs.Ytfdlfcafcjhpmaa
open Go.AL

theorem fieldsB_calls {hp : Hp} {tb : Nat} {s o : Value} {g : SpG} {bc n cap : Nat} (h : ToI hp tb (.slice (some ⟨bc, 0, none⟩) n cap) s o g) (a k : Int) (h0 : 0 ≤ a) (hk : g.s[a.toNat]? = some k) (h1 : 1 ≤ k) (h2 : a + k ≤ g.c.length) (hl : g.c.length ≤ maxLen) :
    ACalls Try.prog 66 [tptrAV tb, iv a] hp
      (fun r hp' => (∃ off, r = .v (.slice (some ⟨bc, off, none⟩) (k - 1).toNat (k - 1).toNat) ∧ ((k - 1).toNat ≠ 0 → off = (a + 1).toNat * 2) ∧ off + (k - 1).toNat * 2 ≤ g.c.length * 2) ∧ hp' = hp) := by
  have w1 : IntKind.i64.wrap (a + k) = a + k := by simp only [maxLen] at hl; exact IntWalk.i64_in _ (by omega)
  have w2 : IntKind.i64.wrap (a + 1) = a + 1 := by simp only [maxLen] at hl; exact IntWalk.i64_in _ (by omega)
  have hbt := h.blk
  have hkl : a.toNat < g.s.length := (List.getElem?_eq_some_iff.1 hk).1
  obtain ⟨bs', cs', rest, es, q1, q2, q3, q4, q5⟩ : ∃ b c rest, s = .slice (some ⟨b, 0, none⟩) g.s.length c ∧ g.s.length ≤ c ∧ (g.s.map iv).length = g.s.length * 1 ∧ ((g.s.map iv) ++ rest).length = c * 1 ∧ True ∧ hp.blk b = some (3, g.s.map iv ++ rest) := by
    rcases h.s with ⟨_, e, _⟩ | ⟨b, c, rest, e, x1, x2, x3, x4, x5⟩
    · omega
    · exact ⟨b, c, rest, e, x1, x3, x4, trivial, x5⟩
  subst es
  have hrd : (g.s.map iv ++ rest).drop a.toNat = .v (.int .i64 k) :: ((g.s.map iv).drop (a.toNat + 1) ++ rest) := by
    rw [List.drop_append_of_le_length (by simpa using Nat.le_of_lt hkl), iv_drop _ _ _ hk]; rfl
  obtain ⟨hnc, hcap⟩ : n = g.c.length ∧ n ≤ cap := by
    rcases h.c with ⟨e, _, _⟩ | ⟨b, c, rest, e, x1, x2, x3, x4, x5⟩
    · cases e
    · simp only [Value.slice.injEq] at e
      obtain ⟨_, rfl, rfl⟩ := e
      exact ⟨rfl, x1⟩
  refine acalls_of Try.func66 rfl (by decide +kernel) (awp_sound (mu := []) _ _ _ ?_)
  simp only [go_sem, Int.natCast_nonneg, Nat.reduceEqDiff, Nat.reduceAdd, Nat.reduceSub, Nat.reduceLT, Nat.reduceMul, Nat.reduceBEq, Nat.reduceLeDiff, ↓reduceIte, Int.toNat_natCast, Int.reduceToNat, Int.toNat_zero, Int.toNat_one, not_true_eq_false, false_or, or_self, Nat.reduceGT, Option.isSome_some, Bool.and_self, Nat.zero_add, Nat.mul_one, List.length_map, List.take_length, Int.cast_ofNat_Int, Int.reduceLE, Int.reduceLT, Int.reduceGE, Int.reduceGT, Int.reduceEq, Int.reduceNe, Int.le_refl, Nat.le_refl, Nat.reduceAdd, ne_eq, not_false_eq_true, reduceCtorEq, beq_true, beq_false, BEq.rfl, Bool.not_true, Bool.not_false, decide_true, decide_false, exists_prop, tptrAV, hbt, iv, q5, hrd, w1, w2]
  refine ⟨h0, by omega, by omega, by omega, by omega, ret_same ⟨?_, rfl⟩⟩
  by_cases e : k = 1
  · subst e
    exact ⟨0, by simp [rawSl], fun hne => absurd rfl hne, by simp⟩
  · refine ⟨(a + 1).toNat * 2, ?_, fun _ => rfl, by omega⟩
    have hn : ¬ ((a + k).toNat = (a + 1).toNat) := by omega
    have hsub : (a + k).toNat - (a + 1).toNat = (k - 1).toNat := by omega
    simp only [rawSl, if_neg hn, Option.map_some, addr_add, Nat.zero_add, hsub]

theorem cloneB_calls {hp : Hp} {b o n : Nat} {T : TypeId} {cs : List AV} (hb : hp.blk b = some (T, cs)) (ho : o + n * 2 ≤ cs.length) (hn : n ≤ 8796093022000) :
    ACalls Try.prog 57 [.v (.slice (some ⟨b, o, none⟩) n n)] hp (fun r hp' =>
      (n = 0 ∧ (∃ x, r = .v (.slice (some ⟨x, 0, none⟩) 0 0)) ∧ hp' = hp) ∨
      (0 < n ∧ ∃ b' cap rest, Fresh hp b' ∧ n ≤ cap ∧ cap ≤ maxLen ∧ ((cs.drop o).take (n * 2) ++ rest).length = cap * 2 ∧ r = .v (.slice (some ⟨b', 0, none⟩) n cap) ∧ hp' = hp.setBlk b' 65 ((cs.drop o).take (n * 2) ++ rest))) := by
  refine acalls_of Try.func57 rfl (by decide +kernel) (awp_sound (mu := []) _ _ _ ?_)
  simp only [go_sem, Int.natCast_nonneg, Nat.reduceEqDiff, Nat.reduceAdd, Nat.reduceSub, Nat.reduceLT, Nat.reduceMul, Nat.reduceBEq, Nat.reduceLeDiff, ↓reduceIte, Int.toNat_natCast, Int.reduceToNat, Int.toNat_zero, Int.toNat_one, not_true_eq_false, false_or, or_self, Nat.reduceGT, Option.isSome_some, Bool.and_self, Nat.zero_add, Nat.mul_one, List.length_map, List.take_length, Int.cast_ofNat_Int, Int.reduceLE, Int.reduceLT, Int.reduceGE, Int.reduceGT, Int.reduceEq, Int.reduceNe, Int.le_refl, Nat.le_refl, Nat.reduceAdd, ne_eq, not_false_eq_true, reduceCtorEq, beq_true, beq_false, BEq.rfl, Bool.not_true, Bool.not_false, decide_true, decide_false, exists_prop]
  refine ⟨rfl, by simp, fun x => ?_⟩
  refine appendR_by (x0 := x) (b := b) (o := o) (n := n) (c := n) (T := T) (cs := cs) Try.k32 Try.s65 Try.y65 Try.z65 rfl (by decide)
    (by simp [go_sem]) (by simp [go_sem]) (by simp [go_sem, hb]) ho (by simp only [maxLen]; omega) (by omega) (by simp [go_sem]) (fun h0 => ?_) (fun h0 b' cap rest hf h1 h2 h3 => ?_)
  · simp only [go_sem, Int.natCast_nonneg, Nat.reduceEqDiff, Nat.reduceAdd, Nat.reduceSub, Nat.reduceLT, Nat.reduceMul, Nat.reduceBEq, Nat.reduceLeDiff, ↓reduceIte, Int.toNat_natCast, Int.reduceToNat, Int.toNat_zero, Int.toNat_one, not_true_eq_false, false_or, or_self, Nat.reduceGT, Option.isSome_some, Bool.and_self, Nat.zero_add, Nat.mul_one, List.length_map, List.take_length, Int.cast_ofNat_Int, Int.reduceLE, Int.reduceLT, Int.reduceGE, Int.reduceGT, Int.reduceEq, Int.reduceNe, Int.le_refl, Nat.le_refl, Nat.reduceAdd, ne_eq, not_false_eq_true, reduceCtorEq, beq_true, beq_false, BEq.rfl, Bool.not_true, Bool.not_false, decide_true, decide_false, exists_prop]
    refine ret_cast (b := .v (.slice (some ⟨x, 0, none⟩) 0 0)) ⟨rfl, fun m _ => trivial⟩ (Hp.le_addSp _ _) (.inl ⟨h0, ⟨x, rfl⟩, rfl⟩)
  · simp only [go_sem, Int.natCast_nonneg, Nat.reduceEqDiff, Nat.reduceAdd, Nat.reduceSub, Nat.reduceLT, Nat.reduceMul, Nat.reduceBEq, Nat.reduceLeDiff, ↓reduceIte, Int.toNat_natCast, Int.reduceToNat, Int.toNat_zero, Int.toNat_one, not_true_eq_false, false_or, or_self, Nat.reduceGT, Option.isSome_some, Bool.and_self, Nat.zero_add, Nat.mul_one, List.length_map, List.take_length, Int.cast_ofNat_Int, Int.reduceLE, Int.reduceLT, Int.reduceGE, Int.reduceGT, Int.reduceEq, Int.reduceNe, Int.le_refl, Nat.le_refl, Nat.reduceAdd, ne_eq, not_false_eq_true, reduceCtorEq, beq_true, beq_false, BEq.rfl, Bool.not_true, Bool.not_false, decide_true, decide_false, exists_prop]
    have hf' : Fresh hp b' := ⟨hf.1, hf.2.1, fun p hp => hf.2.2 p (List.mem_cons_of_mem _ hp)⟩
    refine ret_le (hp' := hp.setBlk b' 65 ((cs.drop o).take (n * 2) ++ rest)) ?_ (.inr ⟨h0, b', cap, rest, hf', h1, h2, h3, rfl, rfl⟩)
    exact ⟨fun _ _ h => h, fun _ _ h => h, List.sublist_cons_self _ _, fun _ h => h⟩

/-- Nothing to move. -/
theorem move0_calls (a : Option Addr) (c : Nat) (x y z : AV) (hp : Hp) : ACalls Try.prog 69 [.v (.slice a 0 c), x, y, z] hp (fun r hp' => r = .tup [] ∧ hp' = hp) := by
  refine acalls_of Try.func69 rfl (by decide +kernel) (awp_sound (mu := [40, 50]) _ _ _ ?_)
  simp only [go_sem, Int.natCast_nonneg, Nat.reduceEqDiff, Nat.reduceAdd, Nat.reduceSub, Nat.reduceLT, Nat.reduceMul, Nat.reduceBEq, Nat.reduceLeDiff, ↓reduceIte, Int.toNat_natCast, Int.reduceToNat, Int.toNat_zero, Int.toNat_one, not_true_eq_false, false_or, or_self, Nat.reduceGT, Option.isSome_some, Bool.and_self, Nat.zero_add, Nat.mul_one, List.length_map, List.take_length, Int.cast_ofNat_Int, Int.reduceLE, Int.reduceLT, Int.reduceGE, Int.reduceGT, Int.reduceEq, Int.reduceNe, Int.le_refl, Nat.le_refl, Nat.reduceAdd, ne_eq, not_false_eq_true, reduceCtorEq, beq_true, beq_false, BEq.rfl, Bool.not_true, Bool.not_false, decide_true, decide_false, exists_prop]
  refine aw_loopX 52 (fun k : Nat => [(8, .v (.int .i64 0)), (9, .v (.int .i64 0))]) (fun _ => hp) (fun k => True) (fun k => 0) 0 trivial (le_mkSl rfl (Hp.le_refl _) (by simp [go_sem])) ?_
  intro k _
  refine awp_sound (mu := [40, 50]) _ _ _ ?_
  simp only [go_sem, Int.natCast_nonneg, Nat.reduceEqDiff, Nat.reduceAdd, Nat.reduceSub, Nat.reduceLT, Nat.reduceMul, Nat.reduceBEq, Nat.reduceLeDiff, ↓reduceIte, Int.toNat_natCast, Int.reduceToNat, Int.toNat_zero, Int.toNat_one, not_true_eq_false, false_or, or_self, Nat.reduceGT, Option.isSome_some, Bool.and_self, Nat.zero_add, Nat.mul_one, List.length_map, List.take_length, Int.cast_ofNat_Int, Int.reduceLE, Int.reduceLT, Int.reduceGE, Int.reduceGT, Int.reduceEq, Int.reduceNe, Int.le_refl, Nat.le_refl, Nat.reduceAdd, ne_eq, not_false_eq_true, reduceCtorEq, beq_true, beq_false, BEq.rfl, Bool.not_true, Bool.not_false, decide_true, decide_false, exists_prop]
  exact ret_same ⟨rfl, rfl⟩
end Go.Proofs.Ytfdlfcafcjhpmaa

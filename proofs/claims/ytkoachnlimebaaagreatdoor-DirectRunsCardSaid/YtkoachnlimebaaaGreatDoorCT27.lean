/- The reference of the layer 'term': Valid. -/
import Derived.Test.YtkoachnlimebaaaGreatDoorCT25
import Derived.Test.YtkoachnlimebaaaGreatDoorCT19
set_option linter.unusedSimpArgs false
set_option linter.unusedVariables false
set_option maxRecDepth 20000
set_option maxHeartbeats 4000000
namespace Go.Proofs.YtkoachnlimebaaaGreatDoor
open Go.AL

theorem has_snoc (V : List Bytes) (s : Bytes) : hasB (V ++ [s]) = addP (hasB V) s := by
  funext x
  simp only [hasB, addP, List.any_append, List.any_cons, List.any_nil, Bool.or_false]
  rw [Bool.or_comm]
theorem has_append (V l : List Bytes) : hasB (V ++ l) = addL (hasB V) l := by
  funext x
  simp only [hasB, addL, List.any_append]
  rw [Bool.or_comm]
structure PreR (p : ProgG) : Prop where
  hsm : SmallX p.ds
  hdl : p.ds.length ≤ 8
  hsrc : sourceB p.ds = true
theorem cls_names6 {ds : List DeclG} {pf : List Nat} {V L : Bytes → Bool} {t : TermG} (hsm : SmallX ds) (h : nodeB ds pf V L t = true) : ∀ c ∈ t.cls, c.names.length ≤ 6 := by
  by_cases hc : t.cls = []
  · rw [hc]; intro c hm; cases hm
  · have hx : ∃ b, clsNames (xtorsOf ds t.ty) t.cls = true ∧ dataB ds t.ty b = true := by
      by_cases h5 : t.op = 5
      · rw [node_5 h5, Bool.and_eq_true, Bool.and_eq_true] at h; exact ⟨_, h.2.2, h.2.1⟩
      · by_cases h7 : t.op = 7
        · rw [node_7 h7, Bool.and_eq_true, Bool.and_eq_true] at h; exact ⟨_, h.2.2, h.2.1⟩
        · exact absurd (node_nocls h5 h7 h) hc
    obtain ⟨b, hn, hd⟩ := hx
    obtain ⟨h1, h2⟩ := data_ty hd
    obtain ⟨d, hdl⟩ := someAt ds (t.ty - 1).toNat (by omega)
    have hxs : xtorsOf ds t.ty = d.xtors := by simp only [xtorsOf, hdl, Option.map_some, Option.getD_some]
    intro c hm
    obtain ⟨i, hi⟩ := List.mem_iff_getElem?.1 hm
    have hl := clsNames_len' hn
    have hlt := (List.getElem?_eq_some_iff.1 hi).1
    obtain ⟨x, hx⟩ := someAt (xtorsOf ds t.ty) i (by omega)
    rw [clsNames_at hn hx hi]
    have hx' : d.xtors[i]? = some x := by rw [← hxs]; exact hx
    exact Nat.le_trans (List.length_filter_le _ _) (hsm d (List.mem_of_getElem? hdl) x (List.mem_of_getElem? hx'))
theorem rvalid_calls {p : ProgG} (ok : PreR p) : ∀ (N : Nat) (t : TermG), nodesT t ≤ N → ∀ (h1 h2 : Value) (V L : List Bytes), V.length + 6 * nodesT t ≤ 6000000000000 → L.length + nodesT t ≤ 6000000000000 → ∀ (hp : Hp),
    ACalls Tryz.prog 89 [p.av, strsAV h1 V, strsAV h2 L, t.av] hp (fun r hp' => r = .v (.bool (validT p.ds p.pf (hasB V) (hasB L) t)) ∧ hp' = hp)
  | 0, t, hN, _, _, _, _, _, _, _ => by have := nodesT_pos t; omega
  | N + 1, t, hN, h1, h2, V, L, hV, hL, hp => by
    have hrec := rvalid_calls ok N
    have hnt := nodesT_eq t
    have hlA := argsN_len t.args
    have hlC := clsN_len t.cls
    have hpos := nodesT_pos t
    refine acalls_fit (callable_of Tryz.func89 (by decide +kernel)) fun hfit => ?_
    obtain ⟨hla, hlc⟩ := fit_term hfit.2.2.2.1
    clear hfit
    have hvt := validT_eq p.ds p.pf (hasB V) (hasB L) t
    refine acalls_of Tryz.func89 rfl (by decide +kernel) (awp_sound (mu := []) _ _ _ ?_)
    simp only [go_sem, Nat.reduceEqDiff, Nat.reduceAdd, Nat.reduceSub, Nat.reduceLT, Nat.reduceBEq, Nat.reduceLeDiff, ↓reduceIte, Int.reduceToNat, Int.reduceLE, Int.reduceLT, Int.reduceEq, reduceCtorEq, TermG.av, TermG.cs_eq, ProgG.av, ProgG.cs, declsAV, funsAV]
    intro q1 q2
    have c := node_calls p ok.hsm ok.hdl h1 h2 V L t hp
    rw [node_same ok.hsrc ok.hdl] at c
    simp only [TermG.av, TermG.cs_eq, ProgG.av, ProgG.cs, declsAV, funsAV] at c
    refine callX_by c ?_
    clear c
    rintro r hp1 ⟨rfl, rfl⟩
    simp only [go_sem, Nat.reduceEqDiff, Nat.reduceAdd, Nat.reduceSub, Nat.reduceLT, Nat.reduceBEq, Nat.reduceLeDiff, ↓reduceIte, Int.reduceToNat, Int.reduceLE, Int.reduceLT, Int.reduceEq, reduceCtorEq]
    refine brK_mk (fun b0 => ?_) (fun b0 => ?_) <;> simp only [go_sem, Nat.reduceEqDiff, Nat.reduceAdd, Nat.reduceSub, Nat.reduceLT, Nat.reduceBEq, Nat.reduceLeDiff, ↓reduceIte, Int.reduceToNat, Int.reduceLE, Int.reduceLT, Int.reduceEq, reduceCtorEq, b0]
    · rw [b0, Bool.true_and] at hvt
      have hc6 := cls_names6 ok.hsm b0
      refine aw_loopX 76 (fun k : Nat => [(1, strsAV h1 V), (2, strsAV h2 L), (4, .ref q1 [.lst 3 p.hd (p.ds.map DeclG.av), .lst 9 p.hf (p.fs.map FunG.av)]), (7, .ref q2 [.v (.int .i64 t.op), .v (.int .i64 t.n), .v (.string (bs t.name)), .v (.int .i64 t.ty), .lst 6 t.ha (t.args.map TermG.av), .lst 7 t.hc (t.cls.map ClauseG.av)]), (22, .lst 6 t.ha (t.args.map TermG.av)), (23, .v (.int .i64 t.args.length)), (24, .v (.int .i64 k))])
        (fun _ => hp1) (fun k => k ≤ t.args.length ∧ validA p.ds p.pf (hasB V) (hasB L) t.op t.name k (t.args.drop k) = validA p.ds p.pf (hasB V) (hasB L) t.op t.name 0 t.args) (fun k => t.args.length - k) 0 ⟨Nat.zero_le _, rfl⟩ (le_mkSl rfl (Hp.le_refl _) (by simp [go_sem])) ?_
      rintro k ⟨hk, hva⟩
      refine awp_sound (mu := []) _ _ _ ?_
      simp only [go_sem, Nat.reduceEqDiff, Nat.reduceAdd, Nat.reduceSub, Nat.reduceLT, Nat.reduceBEq, Nat.reduceLeDiff, ↓reduceIte, Int.reduceToNat, Int.reduceLE, Int.reduceLT, Int.reduceEq, reduceCtorEq]
      refine brK_mk (fun b1 => ?_) (fun b1 => ?_) <;> simp only [go_sem, Nat.reduceEqDiff, Nat.reduceAdd, Nat.reduceSub, Nat.reduceLT, Nat.reduceBEq, Nat.reduceLeDiff, ↓reduceIte, Int.reduceToNat, Int.reduceLE, Int.reduceLT, Int.reduceEq, reduceCtorEq, b1]
      · have hk' : k < t.args.length := by simpa using b1
        obtain ⟨a, ha⟩ := someAt t.args k hk'
        have hmem := List.mem_of_getElem? ha
        have hwu := upK k _ hk' hla
        have hlt := args_lt hmem
        rw [dropK ha, validA_cons] at hva
        simp only [go_sem, Nat.reduceEqDiff, Nat.reduceAdd, Nat.reduceSub, Nat.reduceLT, Nat.reduceBEq, Nat.reduceLeDiff, ↓reduceIte, Int.reduceToNat, Int.reduceLE, Int.reduceLT, Int.reduceEq, reduceCtorEq, mapAt TermG.av _ _ _ ha, TermG.av, TermG.cs_eq]
        intro v hv
        have hdv := fun T cs => Hp.del_set _ _ T cs hv.1
        refine brK_mk (fun b2 => ?_) (fun b2 => ?_) <;> simp only [go_sem, Nat.reduceEqDiff, Nat.reduceAdd, Nat.reduceSub, Nat.reduceLT, Nat.reduceBEq, Nat.reduceLeDiff, ↓reduceIte, Int.reduceToNat, Int.reduceLE, Int.reduceLT, Int.reduceEq, reduceCtorEq, b2, hdv]
        · have o8 := of_decide_eq_true b2
          have o11 : decide (t.op = 11) = false := decide_eq_false (by omega)
          refine brK_mk (fun b3 => ?_) (fun b3 => ?_) <;> simp only [go_sem, Nat.reduceEqDiff, Nat.reduceAdd, Nat.reduceSub, Nat.reduceLT, Nat.reduceBEq, Nat.reduceLeDiff, ↓reduceIte, Int.reduceToNat, Int.reduceLE, Int.reduceLT, Int.reduceEq, reduceCtorEq, b3, hdv, o11]
          · have k1 := of_decide_eq_true b3
            refine ⟨rfl, by simp, fun hd => ?_⟩
            have c := rwith_calls h1 hd V [t.name] (by simp only [List.length_cons, List.length_nil]; omega) (hp1.setSp ((9, 1, hd) :: hp1.sp))
            simp only [strsAV, List.map_cons, List.map_nil] at c
            simp only [strsAV]
            refine callX_by c ?_
            clear c
            rintro r hp2 ⟨hw, rfl, rfl⟩
            simp only [go_sem, Nat.reduceEqDiff, Nat.reduceAdd, Nat.reduceSub, Nat.reduceLT, Nat.reduceBEq, Nat.reduceLeDiff, ↓reduceIte, Int.reduceToNat, Int.reduceLE, Int.reduceLT, Int.reduceEq, reduceCtorEq, o11]
            have ev : argV (hasB V) t.op t.name k = hasB (V ++ [t.name]) := by rw [argV, if_pos (by omega), has_snoc]
            have el : argL (hasB L) t.op t.name = hasB L := by rw [argL, if_neg (by omega)]
            rw [ev, el] at hva
            have c := hrec a (by omega) hw h2 (V ++ [t.name]) L (by simp only [List.length_append, List.length_cons, List.length_nil]; omega) (by omega) (hp1.setSp ((9, 1, hd) :: hp1.sp))
            simp only [strsAV, TermG.av, TermG.cs_eq, ProgG.av, ProgG.cs, declsAV, funsAV] at c
            refine callX_by c ?_
            clear c
            rintro r hp2 ⟨rfl, rfl⟩
            simp only [go_sem, Nat.reduceEqDiff, Nat.reduceAdd, Nat.reduceSub, Nat.reduceLT, Nat.reduceBEq, Nat.reduceLeDiff, ↓reduceIte, Int.reduceToNat, Int.reduceLE, Int.reduceLT, Int.reduceEq, reduceCtorEq]
            refine brK_mk (fun b9 => ?_) (fun b9 => ?_) <;> simp only [go_sem, Nat.reduceEqDiff, Nat.reduceAdd, Nat.reduceSub, Nat.reduceLT, Nat.reduceBEq, Nat.reduceLeDiff, ↓reduceIte, Int.reduceToNat, Int.reduceLE, Int.reduceLT, Int.reduceEq, reduceCtorEq, b9, hwu]
            · rw [b9, Bool.true_and] at hva
              exact ⟨k + 1, by omega, ⟨by omega, hva⟩, le_mkSl rfl (Hp.le_addSp _ _) (by simp [go_sem, hwu])⟩
            · rw [b9, Bool.false_and] at hva
              exact ret_le (Hp.le_addSp _ _) ⟨by rw [hvt, ← hva, Bool.false_and], rfl⟩
          · have k1 := of_decide_eq_false b3
            have ev : argV (hasB V) t.op t.name k = hasB V := by rw [argV, if_neg (by omega)]
            have el : argL (hasB L) t.op t.name = hasB L := by rw [argL, if_neg (by omega)]
            rw [ev, el] at hva
            have c := hrec a (by omega) h1 h2 V L (by omega) (by omega) (hp1)
            simp only [TermG.av, TermG.cs_eq, ProgG.av, ProgG.cs, declsAV, funsAV] at c
            refine callX_by c ?_
            clear c
            rintro r hp2 ⟨rfl, rfl⟩
            simp only [go_sem, Nat.reduceEqDiff, Nat.reduceAdd, Nat.reduceSub, Nat.reduceLT, Nat.reduceBEq, Nat.reduceLeDiff, ↓reduceIte, Int.reduceToNat, Int.reduceLE, Int.reduceLT, Int.reduceEq, reduceCtorEq]
            refine brK_mk (fun b9 => ?_) (fun b9 => ?_) <;> simp only [go_sem, Nat.reduceEqDiff, Nat.reduceAdd, Nat.reduceSub, Nat.reduceLT, Nat.reduceBEq, Nat.reduceLeDiff, ↓reduceIte, Int.reduceToNat, Int.reduceLE, Int.reduceLT, Int.reduceEq, reduceCtorEq, b9, hwu]
            · rw [b9, Bool.true_and] at hva
              exact ⟨k + 1, by omega, ⟨by omega, hva⟩, le_mkSl rfl (Hp.le_refl _) (by simp [go_sem, hwu])⟩
            · rw [b9, Bool.false_and] at hva
              exact ret_same ⟨by rw [hvt, ← hva, Bool.false_and], rfl⟩
        · have o8 := of_decide_eq_false b2
          refine brK_mk (fun b3 => ?_) (fun b3 => ?_) <;> simp only [go_sem, Nat.reduceEqDiff, Nat.reduceAdd, Nat.reduceSub, Nat.reduceLT, Nat.reduceBEq, Nat.reduceLeDiff, ↓reduceIte, Int.reduceToNat, Int.reduceLE, Int.reduceLT, Int.reduceEq, reduceCtorEq, b3, hdv]
          · have o11 := of_decide_eq_true b3
            refine ⟨rfl, by simp, fun hd => ?_⟩
            have c := rwith_calls h2 hd L [t.name] (by simp only [List.length_cons, List.length_nil]; omega) (hp1.setSp ((9, 1, hd) :: hp1.sp))
            simp only [strsAV, List.map_cons, List.map_nil] at c
            simp only [strsAV]
            refine callX_by c ?_
            clear c
            rintro r hp2 ⟨hw, rfl, rfl⟩
            simp only [go_sem, Nat.reduceEqDiff, Nat.reduceAdd, Nat.reduceSub, Nat.reduceLT, Nat.reduceBEq, Nat.reduceLeDiff, ↓reduceIte, Int.reduceToNat, Int.reduceLE, Int.reduceLT, Int.reduceEq, reduceCtorEq]
            have ev : argV (hasB V) t.op t.name k = hasB V := by rw [argV, if_neg (by omega)]
            have el : argL (hasB L) t.op t.name = hasB (L ++ [t.name]) := by rw [argL, if_pos (by omega), has_snoc]
            rw [ev, el] at hva
            have c := hrec a (by omega) h1 hw V (L ++ [t.name]) (by omega) (by simp only [List.length_append, List.length_cons, List.length_nil]; omega) (hp1.setSp ((9, 1, hd) :: hp1.sp))
            simp only [strsAV, TermG.av, TermG.cs_eq, ProgG.av, ProgG.cs, declsAV, funsAV] at c
            refine callX_by c ?_
            clear c
            rintro r hp2 ⟨rfl, rfl⟩
            simp only [go_sem, Nat.reduceEqDiff, Nat.reduceAdd, Nat.reduceSub, Nat.reduceLT, Nat.reduceBEq, Nat.reduceLeDiff, ↓reduceIte, Int.reduceToNat, Int.reduceLE, Int.reduceLT, Int.reduceEq, reduceCtorEq]
            refine brK_mk (fun b9 => ?_) (fun b9 => ?_) <;> simp only [go_sem, Nat.reduceEqDiff, Nat.reduceAdd, Nat.reduceSub, Nat.reduceLT, Nat.reduceBEq, Nat.reduceLeDiff, ↓reduceIte, Int.reduceToNat, Int.reduceLE, Int.reduceLT, Int.reduceEq, reduceCtorEq, b9, hwu]
            · rw [b9, Bool.true_and] at hva
              exact ⟨k + 1, by omega, ⟨by omega, hva⟩, le_mkSl rfl (Hp.le_addSp _ _) (by simp [go_sem, hwu])⟩
            · rw [b9, Bool.false_and] at hva
              exact ret_le (Hp.le_addSp _ _) ⟨by rw [hvt, ← hva, Bool.false_and], rfl⟩
          · have o11 := of_decide_eq_false b3
            have ev : argV (hasB V) t.op t.name k = hasB V := by rw [argV, if_neg (by omega)]
            have el : argL (hasB L) t.op t.name = hasB L := by rw [argL, if_neg (by omega)]
            rw [ev, el] at hva
            have c := hrec a (by omega) h1 h2 V L (by omega) (by omega) (hp1)
            simp only [TermG.av, TermG.cs_eq, ProgG.av, ProgG.cs, declsAV, funsAV] at c
            refine callX_by c ?_
            clear c
            rintro r hp2 ⟨rfl, rfl⟩
            simp only [go_sem, Nat.reduceEqDiff, Nat.reduceAdd, Nat.reduceSub, Nat.reduceLT, Nat.reduceBEq, Nat.reduceLeDiff, ↓reduceIte, Int.reduceToNat, Int.reduceLE, Int.reduceLT, Int.reduceEq, reduceCtorEq]
            refine brK_mk (fun b9 => ?_) (fun b9 => ?_) <;> simp only [go_sem, Nat.reduceEqDiff, Nat.reduceAdd, Nat.reduceSub, Nat.reduceLT, Nat.reduceBEq, Nat.reduceLeDiff, ↓reduceIte, Int.reduceToNat, Int.reduceLE, Int.reduceLT, Int.reduceEq, reduceCtorEq, b9, hwu]
            · rw [b9, Bool.true_and] at hva
              exact ⟨k + 1, by omega, ⟨by omega, hva⟩, le_mkSl rfl (Hp.le_refl _) (by simp [go_sem, hwu])⟩
            · rw [b9, Bool.false_and] at hva
              exact ret_same ⟨by rw [hvt, ← hva, Bool.false_and], rfl⟩
      · have e : k = t.args.length := by simp at b1; omega
        rw [e, List.drop_of_length_le (Nat.le_refl _), validA_nil] at hva
        rw [← hva, Bool.true_and] at hvt
        refine aw_loopX 76 (fun j : Nat => [(1, strsAV h1 V), (2, strsAV h2 L), (4, .ref q1 [.lst 3 p.hd (p.ds.map DeclG.av), .lst 9 p.hf (p.fs.map FunG.av)]), (59, .lst 7 t.hc (t.cls.map ClauseG.av)), (60, .v (.int .i64 t.cls.length)), (61, .v (.int .i64 j))])
          (fun _ => hp1) (fun j => j ≤ t.cls.length ∧ validC p.ds p.pf (hasB V) (hasB L) (t.cls.drop j) = validC p.ds p.pf (hasB V) (hasB L) t.cls) (fun j => t.cls.length - j) 0 ⟨Nat.zero_le _, rfl⟩ (le_mkSl rfl (Hp.le_refl _) (by simp [go_sem])) ?_
        rintro j ⟨hj, hvc⟩
        refine awp_sound (mu := []) _ _ _ ?_
        simp only [go_sem, Nat.reduceEqDiff, Nat.reduceAdd, Nat.reduceSub, Nat.reduceLT, Nat.reduceBEq, Nat.reduceLeDiff, ↓reduceIte, Int.reduceToNat, Int.reduceLE, Int.reduceLT, Int.reduceEq, reduceCtorEq]
        refine brK_mk (fun b2 => ?_) (fun b2 => ?_) <;> simp only [go_sem, Nat.reduceEqDiff, Nat.reduceAdd, Nat.reduceSub, Nat.reduceLT, Nat.reduceBEq, Nat.reduceLeDiff, ↓reduceIte, Int.reduceToNat, Int.reduceLE, Int.reduceLT, Int.reduceEq, reduceCtorEq, b2]
        · have hj' : j < t.cls.length := by simpa using b2
          obtain ⟨c, hc⟩ := someAt t.cls j hj'
          have hmem := List.mem_of_getElem? hc
          have hwu := upK j _ hj' hlc
          have hlt := cls_lt hmem
          have hn6 := hc6 c hmem
          rw [dropK hc, validC_cons, ← has_append] at hvc
          simp only [go_sem, Nat.reduceEqDiff, Nat.reduceAdd, Nat.reduceSub, Nat.reduceLT, Nat.reduceBEq, Nat.reduceLeDiff, ↓reduceIte, Int.reduceToNat, Int.reduceLE, Int.reduceLT, Int.reduceEq, reduceCtorEq, mapAt ClauseG.av _ _ _ hc, ClauseG.av, ClauseG.cs_eq]
          intro v hv
          have hdv := fun T cs => Hp.del_set _ _ T cs hv.1
          simp only [go_sem, Nat.reduceEqDiff, Nat.reduceAdd, Nat.reduceSub, Nat.reduceLT, Nat.reduceBEq, Nat.reduceLeDiff, ↓reduceIte, Int.reduceToNat, Int.reduceLE, Int.reduceLT, Int.reduceEq, reduceCtorEq, hdv]
          refine draw_by (mu := []) (fun _ => True) (.take 0 (.take 1 (.take 2 (.take 3 (.take 5 (.take 6 (.take 7 (.br 4 (.br 8 (.take 9 (.done)) (.stop)) (.stop))))))))) (by decide +kernel) trivial (by decide +kernel) (by decide +kernel) ?_
          simp only [go_sem, Nat.reduceEqDiff, Nat.reduceAdd, Nat.reduceSub, Nat.reduceLT, Nat.reduceBEq, Nat.reduceLeDiff, ↓reduceIte, Int.reduceToNat, Int.reduceLE, Int.reduceLT, Int.reduceEq, reduceCtorEq]
          have cw := rwith_calls h1 c.hn V c.names (by omega) hp1
          simp only [strsAV] at cw
          simp only [strsAV]
          refine callX_by cw ?_
          clear cw
          rintro r hp2 ⟨hw, rfl, rfl⟩
          simp only [go_sem, Nat.reduceEqDiff, Nat.reduceAdd, Nat.reduceSub, Nat.reduceLT, Nat.reduceBEq, Nat.reduceLeDiff, ↓reduceIte, Int.reduceToNat, Int.reduceLE, Int.reduceLT, Int.reduceEq, reduceCtorEq]
          have cv := hrec c.body (by omega) hw h2 (V ++ c.names) L (by rw [List.length_append]; omega) (by omega) hp2
          simp only [strsAV, TermG.av, TermG.cs_eq, ProgG.av, ProgG.cs, declsAV, funsAV] at cv
          refine callX_by cv ?_
          clear cv
          rintro r hp3 ⟨rfl, rfl⟩
          simp only [go_sem, Nat.reduceEqDiff, Nat.reduceAdd, Nat.reduceSub, Nat.reduceLT, Nat.reduceBEq, Nat.reduceLeDiff, ↓reduceIte, Int.reduceToNat, Int.reduceLE, Int.reduceLT, Int.reduceEq, reduceCtorEq]
          refine brK_mk (fun b9 => ?_) (fun b9 => ?_) <;> simp only [go_sem, Nat.reduceEqDiff, Nat.reduceAdd, Nat.reduceSub, Nat.reduceLT, Nat.reduceBEq, Nat.reduceLeDiff, ↓reduceIte, Int.reduceToNat, Int.reduceLE, Int.reduceLT, Int.reduceEq, reduceCtorEq, b9, hwu]
          · rw [b9, Bool.true_and] at hvc
            exact ⟨j + 1, by omega, ⟨by omega, hvc⟩, le_mkSl rfl (Hp.le_refl _) (by simp [go_sem, hwu])⟩
          · rw [b9, Bool.false_and] at hvc
            exact ret_same ⟨by rw [hvt, ← hvc], rfl⟩
        · have e : j = t.cls.length := by simp at b2; omega
          rw [e, List.drop_of_length_le (Nat.le_refl _), validC_nil] at hvc
          exact ret_same ⟨by rw [hvt, ← hvc], rfl⟩
    · exact ret_same ⟨by rw [hvt, b0, Bool.false_and], rfl⟩
end Go.Proofs.YtkoachnlimebaaaGreatDoor
/- The reference of the layer 'term': Params, Few, heads. -/
set_option linter.unusedSimpArgs false
set_option linter.unusedVariables false
set_option maxRecDepth 20000
set_option maxHeartbeats 4000000
namespace Go.Proofs.YtkoachnlimebaaaGreatDoor
open Go.AL

theorem rparams_calls (h : Value) (l : List ParamG) (hl : l.length ≤ 5864062014634) (hp : Hp) : ACalls Tryz.prog 90 [paramsAV h l] hp (fun r hp' => ∃ h', r = strsAV h' (l.map ParamG.name) ∧ hp' = hp) := by
  refine acalls_addNil 9 1 ?_
  refine acalls_of Tryz.func90 rfl (by decide +kernel) (awp_sound (mu := []) _ _ _ ?_)
  simp only [go_sem, Nat.reduceEqDiff, Nat.reduceAdd, Nat.reduceSub, Nat.reduceLT, Nat.reduceBEq, Nat.reduceLeDiff, ↓reduceIte, Int.reduceToNat, Int.reduceLE, Int.reduceLT, Int.reduceEq, reduceCtorEq, paramsAV]
  refine aw_loopX 19 (fun x : Nat × Value => [(3, strsAV x.2 ((l.take x.1).map ParamG.name)), (6, .lst 2 h (l.map ParamG.av)), (7, .v (.int .i64 l.length)), (8, .v (.int .i64 x.1))])
    (fun x => hp.setSp ((9, 1, x.2) :: hp.sp)) (fun x => x.1 ≤ l.length) (fun x => l.length - x.1) (0, .slice none 0 0) (Nat.zero_le _) (le_of_cast rfl (Hp.le_refl _) (by simp [go_sem, Cast.refl, strsAV]; exact Cast.nil 1)) ?_
  rintro ⟨k, h3⟩ hk
  simp only at hk
  refine awp_sound (mu := []) _ _ _ ?_
  simp only [go_sem, Nat.reduceEqDiff, Nat.reduceAdd, Nat.reduceSub, Nat.reduceLT, Nat.reduceBEq, Nat.reduceLeDiff, ↓reduceIte, Int.reduceToNat, Int.reduceLE, Int.reduceLT, Int.reduceEq, reduceCtorEq, strsAV]
  refine brK_mk (fun b1 => ?_) (fun b1 => ?_) <;> simp only [go_sem, Nat.reduceEqDiff, Nat.reduceAdd, Nat.reduceSub, Nat.reduceLT, Nat.reduceBEq, Nat.reduceLeDiff, ↓reduceIte, Int.reduceToNat, Int.reduceLE, Int.reduceLT, Int.reduceEq, reduceCtorEq, b1]
  · have hk' : k < l.length := by simpa using b1
    obtain ⟨x, hx⟩ := someAt l k hk'
    have hwu : IntKind.i64.wrap ((k : Int) + 1) = ((k + 1 : Nat) : Int) := IntWalk.i64_in _ (by omega)
    have htk : (l.take (k + 1)).map ParamG.name = (l.take k).map ParamG.name ++ [x.name] := by rw [List.take_add_one, hx]; simp
    simp only [go_sem, Nat.reduceEqDiff, Nat.reduceAdd, Nat.reduceSub, Nat.reduceLT, Nat.reduceBEq, Nat.reduceLeDiff, ↓reduceIte, Int.reduceToNat, Int.reduceLE, Int.reduceLT, Int.reduceEq, reduceCtorEq, mapAt ParamG.av _ _ _ hx, ParamG.av, ParamG.cs]
    intro v hv
    have hds := fun T cs => Hp.del_set _ _ T cs hv.1
    simp only [go_sem, Nat.reduceEqDiff, Nat.reduceAdd, Nat.reduceSub, Nat.reduceLT, Nat.reduceBEq, Nat.reduceLeDiff, ↓reduceIte, Int.reduceToNat, Int.reduceLE, Int.reduceLT, Int.reduceEq, reduceCtorEq, hds]
    refine ⟨rfl, by simp, fun hd => ?_⟩
    refine append_by (a := strsAV h3 ((l.take k).map ParamG.name)) (b := .lst 1 hd [.v (.string (bs x.name))]) (l1 := [(9, 1, hd)]) (l2 := hp.sp) (h := h3) (h2 := hd) Tryz.k101 Tryz.s9 Tryz.y9 Tryz.z9 rfl (by decide)
      (by simp [go_sem, strsAV]) (Cast.refl _) (by simp [go_sem]) (Cast.refl _) (by simp [go_sem]) (by simp [go_sem]) (by simp [maxLen]; omega) (by simp; omega) (by simp [go_sem]) (fun h4 => ?_)
    simp only [go_sem, Nat.reduceEqDiff, Nat.reduceAdd, Nat.reduceSub, Nat.reduceLT, Nat.reduceBEq, Nat.reduceLeDiff, ↓reduceIte, Int.reduceToNat, Int.reduceLE, Int.reduceLT, Int.reduceEq, reduceCtorEq, hwu]
    exact ⟨(k + 1, h4), by simp only; omega, by simp only; omega, le_mkSl rfl ⟨fun _ _ h => h, fun _ _ h => h, List.sublist_cons_self _ _, fun _ h => h⟩ (by rw [htk]; simp [go_sem, hwu, strsAV])⟩
  · have e : k = l.length := by simp at b1; omega
    subst e
    rw [List.take_length]
    exact ret_le (Hp.le_addSp _ _) ⟨h3, rfl, rfl⟩
def fewB (p : ProgG) (m : Nat) : Bool := !decide ((p.ds.length : Int) > 40) && (!decide ((p.fs.length : Int) > 40) && p.fs.all fun f => decide (nodesT f.body ≤ m))
theorem few_calls (p : ProgG) (m : Nat) (hm : m ≤ 4000) (hp : Hp) : ACalls Tryz.prog 10 [p.av, .v (.int .i64 m)] hp (fun r hp' => r = .v (.bool (fewB p m)) ∧ hp' = hp) := by
  refine acalls_of Tryz.func10 rfl (by decide +kernel) (awp_sound (mu := []) _ _ _ ?_)
  simp only [go_sem, Nat.reduceEqDiff, Nat.reduceAdd, Nat.reduceSub, Nat.reduceLT, Nat.reduceBEq, Nat.reduceLeDiff, ↓reduceIte, Int.reduceToNat, Int.reduceLE, Int.reduceLT, Int.reduceEq, reduceCtorEq, ProgG.av, ProgG.cs, declsAV, funsAV]
  intro q1
  refine brK_mk (fun b1 => ?_) (fun b1 => ?_) <;> simp only [go_sem, Nat.reduceEqDiff, Nat.reduceAdd, Nat.reduceSub, Nat.reduceLT, Nat.reduceBEq, Nat.reduceLeDiff, ↓reduceIte, Int.reduceToNat, Int.reduceLE, Int.reduceLT, Int.reduceEq, reduceCtorEq, b1]
  · exact ret_same ⟨by simp only [fewB, b1, Bool.and_true, Bool.true_and, Bool.and_false, Bool.false_and, Bool.or_true, Bool.true_or, Bool.or_false, Bool.false_or, Bool.not_true, Bool.not_false], rfl⟩
  · refine brK_mk (fun b2 => ?_) (fun b2 => ?_) <;> simp only [go_sem, Nat.reduceEqDiff, Nat.reduceAdd, Nat.reduceSub, Nat.reduceLT, Nat.reduceBEq, Nat.reduceLeDiff, ↓reduceIte, Int.reduceToNat, Int.reduceLE, Int.reduceLT, Int.reduceEq, reduceCtorEq, b2]
    · exact ret_same ⟨by simp only [fewB, b1, b2, Bool.and_true, Bool.true_and, Bool.and_false, Bool.false_and, Bool.or_true, Bool.true_or, Bool.or_false, Bool.false_or, Bool.not_true, Bool.not_false], rfl⟩
    · have hfl : p.fs.length ≤ 40 := by have := of_decide_eq_false b2; omega
      have hfw : fewB p m = p.fs.all fun f => decide (nodesT f.body ≤ m) := by simp only [fewB, b1, b2, Bool.and_true, Bool.true_and, Bool.and_false, Bool.false_and, Bool.or_true, Bool.true_or, Bool.or_false, Bool.false_or, Bool.not_true, Bool.not_false]
      refine aw_loopX 30 (fun k : Nat => [(1, .v (.int .i64 m)), (18, .lst 9 p.hf (p.fs.map FunG.av)), (19, .v (.int .i64 p.fs.length)), (20, .v (.int .i64 k))])
        (fun _ => hp) (fun k => k ≤ p.fs.length ∧ ((p.fs.drop k).all fun f => decide (nodesT f.body ≤ m)) = (p.fs.all fun f => decide (nodesT f.body ≤ m))) (fun k => p.fs.length - k) 0 ⟨Nat.zero_le _, rfl⟩ (le_mkSl rfl (Hp.le_refl _) (by simp [go_sem])) ?_
      rintro k ⟨hk, hd⟩
      refine awp_sound (mu := []) _ _ _ ?_
      simp only [go_sem, Nat.reduceEqDiff, Nat.reduceAdd, Nat.reduceSub, Nat.reduceLT, Nat.reduceBEq, Nat.reduceLeDiff, ↓reduceIte, Int.reduceToNat, Int.reduceLE, Int.reduceLT, Int.reduceEq, reduceCtorEq]
      refine brK_mk (fun b3 => ?_) (fun b3 => ?_) <;> simp only [go_sem, Nat.reduceEqDiff, Nat.reduceAdd, Nat.reduceSub, Nat.reduceLT, Nat.reduceBEq, Nat.reduceLeDiff, ↓reduceIte, Int.reduceToNat, Int.reduceLE, Int.reduceLT, Int.reduceEq, reduceCtorEq, b3]
      · have hk' : k < p.fs.length := by simpa using b3
        obtain ⟨f, hf⟩ := someAt p.fs k hk'
        have hwu : IntKind.i64.wrap ((k : Int) + 1) = ((k + 1 : Nat) : Int) := IntWalk.i64_in _ (by omega)
        rw [dropK hf, List.all_cons] at hd
        simp only [go_sem, Nat.reduceEqDiff, Nat.reduceAdd, Nat.reduceSub, Nat.reduceLT, Nat.reduceBEq, Nat.reduceLeDiff, ↓reduceIte, Int.reduceToNat, Int.reduceLE, Int.reduceLT, Int.reduceEq, reduceCtorEq, mapAt FunG.av _ _ _ hf, FunG.av, FunG.cs, paramsAV]
        intro v hv
        have hds := fun T cs => Hp.del_set _ _ T cs hv.1
        simp only [go_sem, Nat.reduceEqDiff, Nat.reduceAdd, Nat.reduceSub, Nat.reduceLT, Nat.reduceBEq, Nat.reduceLeDiff, ↓reduceIte, Int.reduceToNat, Int.reduceLE, Int.reduceLT, Int.reduceEq, reduceCtorEq, hds]
        have c := fits_t_calls f.body m hm hp
        simp only [TermG.av, TermG.cs_eq] at c
        refine callX_by c ?_
        clear c
        rintro r hp2 ⟨rfl, rfl⟩
        simp only [go_sem, Nat.reduceEqDiff, Nat.reduceAdd, Nat.reduceSub, Nat.reduceLT, Nat.reduceBEq, Nat.reduceLeDiff, ↓reduceIte, Int.reduceToNat, Int.reduceLE, Int.reduceLT, Int.reduceEq, reduceCtorEq]
        refine brK_mk (fun b4 => ?_) (fun b4 => ?_) <;> simp only [go_sem, Nat.reduceEqDiff, Nat.reduceAdd, Nat.reduceSub, Nat.reduceLT, Nat.reduceBEq, Nat.reduceLeDiff, ↓reduceIte, Int.reduceToNat, Int.reduceLE, Int.reduceLT, Int.reduceEq, reduceCtorEq, b4, hwu]
        · rw [b4, Bool.true_and] at hd
          exact ⟨k + 1, by omega, ⟨by omega, hd⟩, le_mkSl rfl (Hp.le_refl _) (by simp [go_sem, hwu])⟩
        · rw [b4, Bool.false_and] at hd
          exact ret_same ⟨by rw [hfw, ← hd], rfl⟩
      · have e : k = p.fs.length := by simp at b3; omega
        rw [e, List.drop_of_length_le (Nat.le_refl _)] at hd
        exact ret_same ⟨by rw [hfw, ← hd]; rfl, rfl⟩
/-! ### heads -/
def headR (ds : List DeclG) (i : Nat) (seen : List Bytes) (f : FunG) : Bool :=
  nameB f.name && (typB ds f.res && (!decide ((f.params.length : Int) > 6) && (distinctB (f.params.map ParamG.name) && (!hasB seen f.name && (f.params.all (paramX ds i) && !(decide ((i : Int) = 0) && !decide (f.res = 0)))))))
def headsR (ds : List DeclG) : Nat → List Bytes → List FunG → Bool
  | _, _, [] => true
  | i, seen, f :: r => headR ds i seen f && headsR ds (i + 1) (seen ++ [f.name]) r
theorem headsR_same (ds : List DeclG) : ∀ (l : List FunG) (i : Nat) (seen : List Bytes), headsR ds i seen l = (headsB ds i l && distinctF seen (l.map FunG.name))
  | [], _, _ => rfl
  | f :: r, i, seen => by
    rw [headsR, headsB, List.map_cons, distinctF, headsR_same ds r, headR, headX]
    rw [Bool.eq_iff_iff]
    simp only [Bool.and_eq_true]
    constructor
    · rintro ⟨⟨h1, h2, h3, h4, h5, h6, h7⟩, h8, h9⟩; exact ⟨⟨⟨h6, h3, h4, h2, h7⟩, h8⟩, ⟨h1, h5⟩, h9⟩
    · rintro ⟨⟨⟨h6, h3, h4, h2, h7⟩, h8⟩, ⟨h1, h5⟩, h9⟩; exact ⟨⟨h1, h2, h3, h4, h5, h6, h7⟩, h8, h9⟩
end Go.Proofs.YtkoachnlimebaaaGreatDoor

/- The law of the layer 'term': TermValid. -/
import Derived.Test.YtppoacgeiooppaaGreatCT80
import Derived.Test.YtppoacgeiooppaaGreatCT29
import Derived.Test.YtppoacgeiooppaaGreatCAL42
set_option linter.unusedSimpArgs false
set_option linter.unusedVariables false
set_option maxRecDepth 20000
set_option maxHeartbeats 4000000
namespace Go.Proofs.YtppoacgeiooppaaGreat
open Go.AL

theorem rwithW_calls (h1 h2 : Value) (a b : List Bytes) (hl : a.length + b.length ≤ 14000000000000) (hp : Hp) : ACalls Tryz.prog 32 [strsAV h1 a, strsAV h2 b] hp (fun r hp' => ∃ h, r = strsAV h (a ++ b) ∧ hp' = hp) := by
  refine acalls_addNil 9 1 ?_
  refine acalls_of Tryz.func32 rfl (by decide +kernel) (awp_sound (mu := []) _ _ _ ?_)
  simp only [go_sem, Nat.reduceEqDiff, Nat.reduceAdd, Nat.reduceSub, Nat.reduceLT, Nat.reduceMul, Nat.reduceBEq, Nat.reduceLeDiff, ↓reduceIte, Int.reduceToNat, Nat.reduceGT, Int.reduceLE, Int.reduceLT, Int.reduceGE, Int.reduceGT, Int.reduceEq, Int.reduceNe, reduceCtorEq, strsAV]
  refine append_byW (a := .v (.slice none 0 0)) (b := strsAV h1 a) (l1 := []) (l2 := hp.sp) (h := .slice none 0 0) (h2 := h1) (xs := []) (ys := a.map fun s => .v (.string (bs s))) Tryz.k48 Tryz.s9 Tryz.y9 Tryz.z9 rfl (by decide)
    (by simp [go_sem]) (Cast.nil 1) (by simp [go_sem, strsAV]) (Cast.refl _) (by simp [go_sem]) (ones_strs _) (by simp [maxLen]; omega) (by simp; omega) (by simp [go_sem]) (fun h3 => ?_)
  simp only [go_sem, Nat.reduceEqDiff, Nat.reduceAdd, Nat.reduceSub, Nat.reduceLT, Nat.reduceMul, Nat.reduceBEq, Nat.reduceLeDiff, ↓reduceIte, Int.reduceToNat, Nat.reduceGT, Int.reduceLE, Int.reduceLT, Int.reduceGE, Int.reduceGT, Int.reduceEq, Int.reduceNe, reduceCtorEq, List.nil_append]
  refine append_byW (a := strsAV h3 a) (b := strsAV h2 b) (l1 := []) (l2 := hp.sp) (h := h3) (h2 := h2) Tryz.k48 Tryz.s9 Tryz.y9 Tryz.z9 rfl (by decide)
    (by simp [go_sem, strsAV]) (Cast.refl _) (by simp [go_sem, strsAV]) (Cast.refl _) (by simp [go_sem]) (ones_strs _) (by simp [maxLen]; omega) (by simp; omega) (by simp [go_sem]) (fun h4 => ?_)
  simp only [go_sem, Nat.reduceEqDiff, Nat.reduceAdd, Nat.reduceSub, Nat.reduceLT, Nat.reduceMul, Nat.reduceBEq, Nat.reduceLeDiff, ↓reduceIte, Int.reduceToNat, Nat.reduceGT, Int.reduceLE, Int.reduceLT, Int.reduceGE, Int.reduceGT, Int.reduceEq, Int.reduceNe, reduceCtorEq]
  exact ret_le (Hp.le_addSp _ _) ⟨h4, by simp [strsAV], rfl⟩
theorem rvalidW_calls {p : ProgG} (ok : PreR p) : ∀ (N : Nat) (t : TermG), nodesT t ≤ N → ∀ (h1 h2 : Value) (V L : List Bytes), V.length + 6 * nodesT t ≤ 13000000000000 → L.length + nodesT t ≤ 13000000000000 → ∀ (hp : Hp),
    ACalls Tryz.prog 19 [p.av, strsAV h1 V, strsAV h2 L, t.av] hp (fun r hp' => r = .v (.bool (validT p.ds p.pf (hasB V) (hasB L) t)) ∧ hp' = hp)
  | 0, t, hN, _, _, _, _, _, _, _ => by have := nodesT_pos t; omega
  | N + 1, t, hN, h1, h2, V, L, hV, hL, hp => by
    have hrec := rvalidW_calls ok N
    have hnt := nodesT_eq t
    have hlA := argsN_len t.args
    have hlC := clsN_len t.cls
    have hpos := nodesT_pos t
    refine acalls_fit (callable_of Tryz.func19 (by decide +kernel)) fun hfit => ?_
    obtain ⟨hla, hlc⟩ := fit_term hfit.2.2.2.1
    clear hfit
    have hvt := validT_eq p.ds p.pf (hasB V) (hasB L) t
    refine acalls_of Tryz.func19 rfl (by decide +kernel) (awp_sound (mu := []) _ _ _ ?_)
    simp only [go_sem, Nat.reduceEqDiff, Nat.reduceAdd, Nat.reduceSub, Nat.reduceLT, Nat.reduceMul, Nat.reduceBEq, Nat.reduceLeDiff, ↓reduceIte, Int.reduceToNat, Nat.reduceGT, Int.reduceLE, Int.reduceLT, Int.reduceGE, Int.reduceGT, Int.reduceEq, Int.reduceNe, reduceCtorEq, TermG.av, TermG.cs_eq, ProgG.av, ProgG.cs, declsAV, funsAV]
    intro q1 q2
    have c := node_calls p ok.hsm ok.hdl h1 h2 V L t hp
    rw [node_same ok.hsrc ok.hdl] at c
    simp only [TermG.av, TermG.cs_eq, ProgG.av, ProgG.cs, declsAV, funsAV] at c
    refine callX_by c ?_
    clear c
    rintro r hp1 ⟨rfl, rfl⟩
    simp only [go_sem, Nat.reduceEqDiff, Nat.reduceAdd, Nat.reduceSub, Nat.reduceLT, Nat.reduceMul, Nat.reduceBEq, Nat.reduceLeDiff, ↓reduceIte, Int.reduceToNat, Nat.reduceGT, Int.reduceLE, Int.reduceLT, Int.reduceGE, Int.reduceGT, Int.reduceEq, Int.reduceNe, reduceCtorEq]
    refine brK_mk (fun b0 => ?_) (fun b0 => ?_) <;> simp only [go_sem, Nat.reduceEqDiff, Nat.reduceAdd, Nat.reduceSub, Nat.reduceLT, Nat.reduceMul, Nat.reduceBEq, Nat.reduceLeDiff, ↓reduceIte, Int.reduceToNat, Nat.reduceGT, Int.reduceLE, Int.reduceLT, Int.reduceGE, Int.reduceGT, Int.reduceEq, Int.reduceNe, reduceCtorEq, b0]
    · rw [b0, Bool.true_and] at hvt
      have hc6 := cls_names6 ok.hsm b0
      refine aw_loopX 76 (fun k : Nat => [(1, strsAV h1 V), (2, strsAV h2 L), (4, .ref q1 [.lst 3 p.hd (p.ds.map DeclG.av), .lst 9 p.hf (p.fs.map FunG.av)]), (7, .ref q2 [.v (.int .i64 t.op), .v (.int .i64 t.n), .v (.string (bs t.name)), .v (.int .i64 t.ty), .lst 6 t.ha (t.args.map TermG.av), .lst 7 t.hc (t.cls.map ClauseG.av)]), (22, .lst 6 t.ha (t.args.map TermG.av)), (23, .v (.int .i64 t.args.length)), (24, .v (.int .i64 k))])
        (fun _ => hp1) (fun k => k ≤ t.args.length ∧ validA p.ds p.pf (hasB V) (hasB L) t.op t.name k (t.args.drop k) = validA p.ds p.pf (hasB V) (hasB L) t.op t.name 0 t.args) (fun k => t.args.length - k) 0 ⟨Nat.zero_le _, rfl⟩ (le_mkSl rfl (Hp.le_refl _) (by simp [go_sem])) ?_
      rintro k ⟨hk, hva⟩
      refine awp_sound (mu := []) _ _ _ ?_
      simp only [go_sem, Nat.reduceEqDiff, Nat.reduceAdd, Nat.reduceSub, Nat.reduceLT, Nat.reduceMul, Nat.reduceBEq, Nat.reduceLeDiff, ↓reduceIte, Int.reduceToNat, Nat.reduceGT, Int.reduceLE, Int.reduceLT, Int.reduceGE, Int.reduceGT, Int.reduceEq, Int.reduceNe, reduceCtorEq]
      refine brK_mk (fun b1 => ?_) (fun b1 => ?_) <;> simp only [go_sem, Nat.reduceEqDiff, Nat.reduceAdd, Nat.reduceSub, Nat.reduceLT, Nat.reduceMul, Nat.reduceBEq, Nat.reduceLeDiff, ↓reduceIte, Int.reduceToNat, Nat.reduceGT, Int.reduceLE, Int.reduceLT, Int.reduceGE, Int.reduceGT, Int.reduceEq, Int.reduceNe, reduceCtorEq, b1]
      · have hk' : k < t.args.length := by simpa using b1
        obtain ⟨a, ha⟩ := someAt t.args k hk'
        have hmem := List.mem_of_getElem? ha
        have hwu := upK k _ hk' hla
        have hlt := args_lt hmem
        rw [dropK ha, validA_cons] at hva
        simp only [go_sem, Nat.reduceEqDiff, Nat.reduceAdd, Nat.reduceSub, Nat.reduceLT, Nat.reduceMul, Nat.reduceBEq, Nat.reduceLeDiff, ↓reduceIte, Int.reduceToNat, Nat.reduceGT, Int.reduceLE, Int.reduceLT, Int.reduceGE, Int.reduceGT, Int.reduceEq, Int.reduceNe, reduceCtorEq, mapAt TermG.av _ _ _ ha, TermG.av, TermG.cs_eq]
        intro v hv
        have hdv := fun T cs => Hp.del_set _ _ T cs hv.1
        refine brK_mk (fun b2 => ?_) (fun b2 => ?_) <;> simp only [go_sem, Nat.reduceEqDiff, Nat.reduceAdd, Nat.reduceSub, Nat.reduceLT, Nat.reduceMul, Nat.reduceBEq, Nat.reduceLeDiff, ↓reduceIte, Int.reduceToNat, Nat.reduceGT, Int.reduceLE, Int.reduceLT, Int.reduceGE, Int.reduceGT, Int.reduceEq, Int.reduceNe, reduceCtorEq, b2, hdv]
        · have o8 := of_decide_eq_true b2
          have o11 : decide (t.op = 11) = false := decide_eq_false (by omega)
          refine brK_mk (fun b3 => ?_) (fun b3 => ?_) <;> simp only [go_sem, Nat.reduceEqDiff, Nat.reduceAdd, Nat.reduceSub, Nat.reduceLT, Nat.reduceMul, Nat.reduceBEq, Nat.reduceLeDiff, ↓reduceIte, Int.reduceToNat, Nat.reduceGT, Int.reduceLE, Int.reduceLT, Int.reduceGE, Int.reduceGT, Int.reduceEq, Int.reduceNe, reduceCtorEq, b3, hdv, o11]
          · have k1 := of_decide_eq_true b3
            refine ⟨rfl, by simp, fun hd => ?_⟩
            have c := rwithW_calls h1 hd V [t.name] (by simp only [List.length_cons, List.length_nil]; omega) (hp1.setSp ((9, 1, hd) :: hp1.sp))
            simp only [strsAV, List.map_cons, List.map_nil] at c
            simp only [strsAV]
            refine callX_by c ?_
            clear c
            rintro r hp2 ⟨hw, rfl, rfl⟩
            simp only [go_sem, Nat.reduceEqDiff, Nat.reduceAdd, Nat.reduceSub, Nat.reduceLT, Nat.reduceMul, Nat.reduceBEq, Nat.reduceLeDiff, ↓reduceIte, Int.reduceToNat, Nat.reduceGT, Int.reduceLE, Int.reduceLT, Int.reduceGE, Int.reduceGT, Int.reduceEq, Int.reduceNe, reduceCtorEq, o11]
            have ev : argV (hasB V) t.op t.name k = hasB (V ++ [t.name]) := by rw [argV, if_pos (by omega), has_snoc]
            have el : argL (hasB L) t.op t.name = hasB L := by rw [argL, if_neg (by omega)]
            rw [ev, el] at hva
            have c := hrec a (by omega) hw h2 (V ++ [t.name]) L (by simp only [List.length_append, List.length_cons, List.length_nil]; omega) (by omega) (hp1.setSp ((9, 1, hd) :: hp1.sp))
            simp only [strsAV, TermG.av, TermG.cs_eq, ProgG.av, ProgG.cs, declsAV, funsAV] at c
            refine callX_by c ?_
            clear c
            rintro r hp2 ⟨rfl, rfl⟩
            simp only [go_sem, Nat.reduceEqDiff, Nat.reduceAdd, Nat.reduceSub, Nat.reduceLT, Nat.reduceMul, Nat.reduceBEq, Nat.reduceLeDiff, ↓reduceIte, Int.reduceToNat, Nat.reduceGT, Int.reduceLE, Int.reduceLT, Int.reduceGE, Int.reduceGT, Int.reduceEq, Int.reduceNe, reduceCtorEq]
            refine brK_mk (fun b9 => ?_) (fun b9 => ?_) <;> simp only [go_sem, Nat.reduceEqDiff, Nat.reduceAdd, Nat.reduceSub, Nat.reduceLT, Nat.reduceMul, Nat.reduceBEq, Nat.reduceLeDiff, ↓reduceIte, Int.reduceToNat, Nat.reduceGT, Int.reduceLE, Int.reduceLT, Int.reduceGE, Int.reduceGT, Int.reduceEq, Int.reduceNe, reduceCtorEq, b9, hwu]
            · rw [b9, Bool.true_and] at hva
              exact ⟨k + 1, by omega, ⟨by omega, hva⟩, le_mkSl rfl (Hp.le_addSp _ _) (by simp [go_sem, hwu])⟩
            · rw [b9, Bool.false_and] at hva
              exact ret_le (Hp.le_addSp _ _) ⟨by rw [hvt, ← hva, Bool.false_and], rfl⟩
          · have k1 := of_decide_eq_false b3
            have ev : argV (hasB V) t.op t.name k = hasB V := by rw [argV, if_neg (by omega)]
            have el : argL (hasB L) t.op t.name = hasB L := by rw [argL, if_neg (by omega)]
            rw [ev, el] at hva
            have c := hrec a (by omega) h1 h2 V L (by omega) (by omega) (hp1)
            simp only [TermG.av, TermG.cs_eq, ProgG.av, ProgG.cs, declsAV, funsAV] at c
            refine callX_by c ?_
            clear c
            rintro r hp2 ⟨rfl, rfl⟩
            simp only [go_sem, Nat.reduceEqDiff, Nat.reduceAdd, Nat.reduceSub, Nat.reduceLT, Nat.reduceMul, Nat.reduceBEq, Nat.reduceLeDiff, ↓reduceIte, Int.reduceToNat, Nat.reduceGT, Int.reduceLE, Int.reduceLT, Int.reduceGE, Int.reduceGT, Int.reduceEq, Int.reduceNe, reduceCtorEq]
            refine brK_mk (fun b9 => ?_) (fun b9 => ?_) <;> simp only [go_sem, Nat.reduceEqDiff, Nat.reduceAdd, Nat.reduceSub, Nat.reduceLT, Nat.reduceMul, Nat.reduceBEq, Nat.reduceLeDiff, ↓reduceIte, Int.reduceToNat, Nat.reduceGT, Int.reduceLE, Int.reduceLT, Int.reduceGE, Int.reduceGT, Int.reduceEq, Int.reduceNe, reduceCtorEq, b9, hwu]
            · rw [b9, Bool.true_and] at hva
              exact ⟨k + 1, by omega, ⟨by omega, hva⟩, le_mkSl rfl (Hp.le_refl _) (by simp [go_sem, hwu])⟩
            · rw [b9, Bool.false_and] at hva
              exact ret_same ⟨by rw [hvt, ← hva, Bool.false_and], rfl⟩
        · have o8 := of_decide_eq_false b2
          refine brK_mk (fun b3 => ?_) (fun b3 => ?_) <;> simp only [go_sem, Nat.reduceEqDiff, Nat.reduceAdd, Nat.reduceSub, Nat.reduceLT, Nat.reduceMul, Nat.reduceBEq, Nat.reduceLeDiff, ↓reduceIte, Int.reduceToNat, Nat.reduceGT, Int.reduceLE, Int.reduceLT, Int.reduceGE, Int.reduceGT, Int.reduceEq, Int.reduceNe, reduceCtorEq, b3, hdv]
          · have o11 := of_decide_eq_true b3
            refine ⟨rfl, by simp, fun hd => ?_⟩
            have c := rwithW_calls h2 hd L [t.name] (by simp only [List.length_cons, List.length_nil]; omega) (hp1.setSp ((9, 1, hd) :: hp1.sp))
            simp only [strsAV, List.map_cons, List.map_nil] at c
            simp only [strsAV]
            refine callX_by c ?_
            clear c
            rintro r hp2 ⟨hw, rfl, rfl⟩
            simp only [go_sem, Nat.reduceEqDiff, Nat.reduceAdd, Nat.reduceSub, Nat.reduceLT, Nat.reduceMul, Nat.reduceBEq, Nat.reduceLeDiff, ↓reduceIte, Int.reduceToNat, Nat.reduceGT, Int.reduceLE, Int.reduceLT, Int.reduceGE, Int.reduceGT, Int.reduceEq, Int.reduceNe, reduceCtorEq]
            have ev : argV (hasB V) t.op t.name k = hasB V := by rw [argV, if_neg (by omega)]
            have el : argL (hasB L) t.op t.name = hasB (L ++ [t.name]) := by rw [argL, if_pos (by omega), has_snoc]
            rw [ev, el] at hva
            have c := hrec a (by omega) h1 hw V (L ++ [t.name]) (by omega) (by simp only [List.length_append, List.length_cons, List.length_nil]; omega) (hp1.setSp ((9, 1, hd) :: hp1.sp))
            simp only [strsAV, TermG.av, TermG.cs_eq, ProgG.av, ProgG.cs, declsAV, funsAV] at c
            refine callX_by c ?_
            clear c
            rintro r hp2 ⟨rfl, rfl⟩
            simp only [go_sem, Nat.reduceEqDiff, Nat.reduceAdd, Nat.reduceSub, Nat.reduceLT, Nat.reduceMul, Nat.reduceBEq, Nat.reduceLeDiff, ↓reduceIte, Int.reduceToNat, Nat.reduceGT, Int.reduceLE, Int.reduceLT, Int.reduceGE, Int.reduceGT, Int.reduceEq, Int.reduceNe, reduceCtorEq]
            refine brK_mk (fun b9 => ?_) (fun b9 => ?_) <;> simp only [go_sem, Nat.reduceEqDiff, Nat.reduceAdd, Nat.reduceSub, Nat.reduceLT, Nat.reduceMul, Nat.reduceBEq, Nat.reduceLeDiff, ↓reduceIte, Int.reduceToNat, Nat.reduceGT, Int.reduceLE, Int.reduceLT, Int.reduceGE, Int.reduceGT, Int.reduceEq, Int.reduceNe, reduceCtorEq, b9, hwu]
            · rw [b9, Bool.true_and] at hva
              exact ⟨k + 1, by omega, ⟨by omega, hva⟩, le_mkSl rfl (Hp.le_addSp _ _) (by simp [go_sem, hwu])⟩
            · rw [b9, Bool.false_and] at hva
              exact ret_le (Hp.le_addSp _ _) ⟨by rw [hvt, ← hva, Bool.false_and], rfl⟩
          · have o11 := of_decide_eq_false b3
            have ev : argV (hasB V) t.op t.name k = hasB V := by rw [argV, if_neg (by omega)]
            have el : argL (hasB L) t.op t.name = hasB L := by rw [argL, if_neg (by omega)]
            rw [ev, el] at hva
            have c := hrec a (by omega) h1 h2 V L (by omega) (by omega) (hp1)
            simp only [TermG.av, TermG.cs_eq, ProgG.av, ProgG.cs, declsAV, funsAV] at c
            refine callX_by c ?_
            clear c
            rintro r hp2 ⟨rfl, rfl⟩
            simp only [go_sem, Nat.reduceEqDiff, Nat.reduceAdd, Nat.reduceSub, Nat.reduceLT, Nat.reduceMul, Nat.reduceBEq, Nat.reduceLeDiff, ↓reduceIte, Int.reduceToNat, Nat.reduceGT, Int.reduceLE, Int.reduceLT, Int.reduceGE, Int.reduceGT, Int.reduceEq, Int.reduceNe, reduceCtorEq]
            refine brK_mk (fun b9 => ?_) (fun b9 => ?_) <;> simp only [go_sem, Nat.reduceEqDiff, Nat.reduceAdd, Nat.reduceSub, Nat.reduceLT, Nat.reduceMul, Nat.reduceBEq, Nat.reduceLeDiff, ↓reduceIte, Int.reduceToNat, Nat.reduceGT, Int.reduceLE, Int.reduceLT, Int.reduceGE, Int.reduceGT, Int.reduceEq, Int.reduceNe, reduceCtorEq, b9, hwu]
            · rw [b9, Bool.true_and] at hva
              exact ⟨k + 1, by omega, ⟨by omega, hva⟩, le_mkSl rfl (Hp.le_refl _) (by simp [go_sem, hwu])⟩
            · rw [b9, Bool.false_and] at hva
              exact ret_same ⟨by rw [hvt, ← hva, Bool.false_and], rfl⟩
      · have e : k = t.args.length := by simp at b1; omega
        rw [e, List.drop_of_length_le (Nat.le_refl _), validA_nil] at hva
        rw [← hva, Bool.true_and] at hvt
        refine aw_loopX 76 (fun j : Nat => [(1, strsAV h1 V), (2, strsAV h2 L), (4, .ref q1 [.lst 3 p.hd (p.ds.map DeclG.av), .lst 9 p.hf (p.fs.map FunG.av)]), (59, .lst 7 t.hc (t.cls.map ClauseG.av)), (60, .v (.int .i64 t.cls.length)), (61, .v (.int .i64 j))])
          (fun _ => hp1) (fun j => j ≤ t.cls.length ∧ validC p.ds p.pf (hasB V) (hasB L) (t.cls.drop j) = validC p.ds p.pf (hasB V) (hasB L) t.cls) (fun j => t.cls.length - j) 0 ⟨Nat.zero_le _, rfl⟩ (le_mkSl rfl (Hp.le_refl _) (by simp [go_sem])) ?_
        rintro j ⟨hj, hvc⟩
        refine awp_sound (mu := []) _ _ _ ?_
        simp only [go_sem, Nat.reduceEqDiff, Nat.reduceAdd, Nat.reduceSub, Nat.reduceLT, Nat.reduceMul, Nat.reduceBEq, Nat.reduceLeDiff, ↓reduceIte, Int.reduceToNat, Nat.reduceGT, Int.reduceLE, Int.reduceLT, Int.reduceGE, Int.reduceGT, Int.reduceEq, Int.reduceNe, reduceCtorEq]
        refine brK_mk (fun b2 => ?_) (fun b2 => ?_) <;> simp only [go_sem, Nat.reduceEqDiff, Nat.reduceAdd, Nat.reduceSub, Nat.reduceLT, Nat.reduceMul, Nat.reduceBEq, Nat.reduceLeDiff, ↓reduceIte, Int.reduceToNat, Nat.reduceGT, Int.reduceLE, Int.reduceLT, Int.reduceGE, Int.reduceGT, Int.reduceEq, Int.reduceNe, reduceCtorEq, b2]
        · have hj' : j < t.cls.length := by simpa using b2
          obtain ⟨c, hc⟩ := someAt t.cls j hj'
          have hmem := List.mem_of_getElem? hc
          have hwu := upK j _ hj' hlc
          have hlt := cls_lt hmem
          have hn6 := hc6 c hmem
          rw [dropK hc, validC_cons, ← has_append] at hvc
          simp only [go_sem, Nat.reduceEqDiff, Nat.reduceAdd, Nat.reduceSub, Nat.reduceLT, Nat.reduceMul, Nat.reduceBEq, Nat.reduceLeDiff, ↓reduceIte, Int.reduceToNat, Nat.reduceGT, Int.reduceLE, Int.reduceLT, Int.reduceGE, Int.reduceGT, Int.reduceEq, Int.reduceNe, reduceCtorEq, mapAt ClauseG.av _ _ _ hc, ClauseG.av, ClauseG.cs_eq]
          intro v hv
          have hdv := fun T cs => Hp.del_set _ _ T cs hv.1
          simp only [go_sem, Nat.reduceEqDiff, Nat.reduceAdd, Nat.reduceSub, Nat.reduceLT, Nat.reduceMul, Nat.reduceBEq, Nat.reduceLeDiff, ↓reduceIte, Int.reduceToNat, Nat.reduceGT, Int.reduceLE, Int.reduceLT, Int.reduceGE, Int.reduceGT, Int.reduceEq, Int.reduceNe, reduceCtorEq, hdv]
          refine draw_by (mu := []) (fun _ => True) (.take 0 (.take 1 (.take 2 (.take 3 (.take 5 (.take 6 (.take 7 (.br 4 (.br 8 (.take 9 (.done)) (.stop)) (.stop))))))))) (by decide +kernel) trivial (by decide +kernel) (by decide +kernel) ?_
          simp only [go_sem, Nat.reduceEqDiff, Nat.reduceAdd, Nat.reduceSub, Nat.reduceLT, Nat.reduceMul, Nat.reduceBEq, Nat.reduceLeDiff, ↓reduceIte, Int.reduceToNat, Nat.reduceGT, Int.reduceLE, Int.reduceLT, Int.reduceGE, Int.reduceGT, Int.reduceEq, Int.reduceNe, reduceCtorEq]
          have cw := rwithW_calls h1 c.hn V c.names (by omega) hp1
          simp only [strsAV] at cw
          simp only [strsAV]
          refine callX_by cw ?_
          clear cw
          rintro r hp2 ⟨hw, rfl, rfl⟩
          simp only [go_sem, Nat.reduceEqDiff, Nat.reduceAdd, Nat.reduceSub, Nat.reduceLT, Nat.reduceMul, Nat.reduceBEq, Nat.reduceLeDiff, ↓reduceIte, Int.reduceToNat, Nat.reduceGT, Int.reduceLE, Int.reduceLT, Int.reduceGE, Int.reduceGT, Int.reduceEq, Int.reduceNe, reduceCtorEq]
          have cv := hrec c.body (by omega) hw h2 (V ++ c.names) L (by rw [List.length_append]; omega) (by omega) hp2
          simp only [strsAV, TermG.av, TermG.cs_eq, ProgG.av, ProgG.cs, declsAV, funsAV] at cv
          refine callX_by cv ?_
          clear cv
          rintro r hp3 ⟨rfl, rfl⟩
          simp only [go_sem, Nat.reduceEqDiff, Nat.reduceAdd, Nat.reduceSub, Nat.reduceLT, Nat.reduceMul, Nat.reduceBEq, Nat.reduceLeDiff, ↓reduceIte, Int.reduceToNat, Nat.reduceGT, Int.reduceLE, Int.reduceLT, Int.reduceGE, Int.reduceGT, Int.reduceEq, Int.reduceNe, reduceCtorEq]
          refine brK_mk (fun b9 => ?_) (fun b9 => ?_) <;> simp only [go_sem, Nat.reduceEqDiff, Nat.reduceAdd, Nat.reduceSub, Nat.reduceLT, Nat.reduceMul, Nat.reduceBEq, Nat.reduceLeDiff, ↓reduceIte, Int.reduceToNat, Nat.reduceGT, Int.reduceLE, Int.reduceLT, Int.reduceGE, Int.reduceGT, Int.reduceEq, Int.reduceNe, reduceCtorEq, b9, hwu]
          · rw [b9, Bool.true_and] at hvc
            exact ⟨j + 1, by omega, ⟨by omega, hvc⟩, le_mkSl rfl (Hp.le_refl _) (by simp [go_sem, hwu])⟩
          · rw [b9, Bool.false_and] at hvc
            exact ret_same ⟨by rw [hvt, ← hvc], rfl⟩
        · have e : j = t.cls.length := by simp at b2; omega
          rw [e, List.drop_of_length_le (Nat.le_refl _), validC_nil] at hvc
          exact ret_same ⟨by rw [hvt, ← hvc], rfl⟩
    · exact ret_same ⟨by rw [hvt, b0, Bool.false_and], rfl⟩
theorem termValid_calls (p : ProgG) (hpf : PFit p) (h1 h2 : Value) (V L : List Bytes) (hV : V.length * 16 ≤ reachBytes) (hL : L.length * 16 ≤ reachBytes) (t : TermG) (hp : Hp) (hg : GOk hp) :
    ACalls Tryz.prog 6 [p.av, strsAV h1 V, strsAV h2 L, t.av] hp (fun r hp' => r = .v (.bool true) ∧ hp' = hp) := by
  have hR : reachBytes = 140737488351232 := rfl
  refine acalls_of Tryz.func6 rfl (by decide +kernel) (awp_sound (mu := []) _ _ _ ?_)
  simp only [go_sem, Nat.reduceEqDiff, Nat.reduceAdd, Nat.reduceSub, Nat.reduceLT, Nat.reduceMul, Nat.reduceBEq, Nat.reduceLeDiff, ↓reduceIte, Int.reduceToNat, Nat.reduceGT, Int.reduceLE, Int.reduceLT, Int.reduceGE, Int.reduceGT, Int.reduceEq, Int.reduceNe, reduceCtorEq, ProgG.av, ProgG.cs, declsAV, funsAV, TermG.av, TermG.cs_eq, strsAV]
  intro q1 q2
  have aw : ∀ hp, GOk hp → ACalls Tryz.prog 22 [] hp (fun r hp' => r = .v (.bool true) ∧ hp' = hp) := fun hp hg => awake2_calls hp hg
  have c := fun hp => few_calls p 700 (by omega) hp
  have cf := fun hp => fits_t_calls t 700 (by omega) hp
  have ct := fun hp (hg : GOk hp) => term_calls p hpf h1 h2 V L t hp hg
  have ci := fun hp => ris2_calls p hpf hp
  have cs := fun hp => small_calls t hp
  simp only [ProgG.av, ProgG.cs, declsAV, funsAV, TermG.av, TermG.cs_eq, strsAV] at c cf ct ci cs
  refine callX_by (c _) ?_
  clear c
  rintro r hp1 ⟨rfl, rfl⟩
  simp only [go_sem, Nat.reduceEqDiff, Nat.reduceAdd, Nat.reduceSub, Nat.reduceLT, Nat.reduceMul, Nat.reduceBEq, Nat.reduceLeDiff, ↓reduceIte, Int.reduceToNat, Nat.reduceGT, Int.reduceLE, Int.reduceLT, Int.reduceGE, Int.reduceGT, Int.reduceEq, Int.reduceNe, reduceCtorEq]
  refine brK_mk (fun b1 => ?_) (fun b1 => ?_) <;> simp only [go_sem, Nat.reduceEqDiff, Nat.reduceAdd, Nat.reduceSub, Nat.reduceLT, Nat.reduceMul, Nat.reduceBEq, Nat.reduceLeDiff, ↓reduceIte, Int.reduceToNat, Nat.reduceGT, Int.reduceLE, Int.reduceLT, Int.reduceGE, Int.reduceGT, Int.reduceEq, Int.reduceNe, reduceCtorEq, b1]
  · refine callX_by (cf _) ?_
    clear cf
    rintro r hp2 ⟨rfl, rfl⟩
    simp only [go_sem, Nat.reduceEqDiff, Nat.reduceAdd, Nat.reduceSub, Nat.reduceLT, Nat.reduceMul, Nat.reduceBEq, Nat.reduceLeDiff, ↓reduceIte, Int.reduceToNat, Nat.reduceGT, Int.reduceLE, Int.reduceLT, Int.reduceGE, Int.reduceGT, Int.reduceEq, Int.reduceNe, reduceCtorEq]
    refine brK_mk (fun b2 => ?_) (fun b2 => ?_) <;> simp only [go_sem, Nat.reduceEqDiff, Nat.reduceAdd, Nat.reduceSub, Nat.reduceLT, Nat.reduceMul, Nat.reduceBEq, Nat.reduceLeDiff, ↓reduceIte, Int.reduceToNat, Nat.reduceGT, Int.reduceLE, Int.reduceLT, Int.reduceGE, Int.reduceGT, Int.reduceEq, Int.reduceNe, reduceCtorEq, b2]
    · have hn : nodesT t ≤ 700 := of_decide_eq_true b2
      refine callX_by (ct _ hg) ?_
      rintro r hp2 ⟨rfl, rfl⟩
      simp only [go_sem, Nat.reduceEqDiff, Nat.reduceAdd, Nat.reduceSub, Nat.reduceLT, Nat.reduceMul, Nat.reduceBEq, Nat.reduceLeDiff, ↓reduceIte, Int.reduceToNat, Nat.reduceGT, Int.reduceLE, Int.reduceLT, Int.reduceGE, Int.reduceGT, Int.reduceEq, Int.reduceNe, reduceCtorEq]
      refine callX_by (ci _) ?_
      rintro r hp3 ⟨rfl, rfl⟩
      by_cases hv : progB p = true
      · simp only [go_sem, Nat.reduceEqDiff, Nat.reduceAdd, Nat.reduceSub, Nat.reduceLT, Nat.reduceMul, Nat.reduceBEq, Nat.reduceLeDiff, ↓reduceIte, Int.reduceToNat, Nat.reduceGT, Int.reduceLE, Int.reduceLT, Int.reduceGE, Int.reduceGT, Int.reduceEq, Int.reduceNe, reduceCtorEq, hv, if_true, Bool.true_and]
        refine callX_by (cs _) ?_
        rintro r hp4 ⟨rfl, rfl⟩
        simp only [go_sem, Nat.reduceEqDiff, Nat.reduceAdd, Nat.reduceSub, Nat.reduceLT, Nat.reduceMul, Nat.reduceBEq, Nat.reduceLeDiff, ↓reduceIte, Int.reduceToNat, Nat.reduceGT, Int.reduceLE, Int.reduceLT, Int.reduceGE, Int.reduceGT, Int.reduceEq, Int.reduceNe, reduceCtorEq]
        have hvs := hv
        simp only [progB, Bool.and_eq_true] at hvs
        have ok : PreR p := ⟨small_valid hvs.1.1, by have b1 := hvs.1.1; rw [validB, Bool.and_eq_true, Bool.not_eq_true', decide_eq_false_iff_not] at b1; omega, hvs.1.2⟩
        have his : isB p (hasB V) (hasB L) t = ((decide (nodesT t ≤ 600) && decide (depthT t ≤ 24)) && validT p.ds p.pf (hasB V) (hasB L) t) := by
          rw [isB, okB, Bool.and_assoc, show decide ((nodesT t : Int) ≤ 600) = decide (nodesT t ≤ 600) from decide_eq_decide.2 (by omega), show decide (1 + (depthT t : Int) ≤ 25) = decide (depthT t ≤ 24) from decide_eq_decide.2 (by omega)]
        have cv := fun hp => rvalidW_calls ok (nodesT t) t (Nat.le_refl _) h1 h2 V L (by omega) (by omega) hp
        simp only [ProgG.av, ProgG.cs, declsAV, funsAV, TermG.av, TermG.cs_eq, strsAV] at cv
        refine brK_mk (fun b3 => ?_) (fun b3 => ?_) <;> simp only [go_sem, Nat.reduceEqDiff, Nat.reduceAdd, Nat.reduceSub, Nat.reduceLT, Nat.reduceMul, Nat.reduceBEq, Nat.reduceLeDiff, ↓reduceIte, Int.reduceToNat, Nat.reduceGT, Int.reduceLE, Int.reduceLT, Int.reduceGE, Int.reduceGT, Int.reduceEq, Int.reduceNe, reduceCtorEq, b3]
        · refine callX_by (cv _) ?_
          rintro r hp4 ⟨rfl, rfl⟩
          rw [b3, Bool.true_and] at his
          simp only [go_sem, Nat.reduceEqDiff, Nat.reduceAdd, Nat.reduceSub, Nat.reduceLT, Nat.reduceMul, Nat.reduceBEq, Nat.reduceLeDiff, ↓reduceIte, Int.reduceToNat, Nat.reduceGT, Int.reduceLE, Int.reduceLT, Int.reduceGE, Int.reduceGT, Int.reduceEq, Int.reduceNe, reduceCtorEq, his, decide_true]
          refine callX_by (aw _ hg) ?_
          rintro r hp3 ⟨rfl, rfl⟩
          simp only [go_sem, Nat.reduceEqDiff, Nat.reduceAdd, Nat.reduceSub, Nat.reduceLT, Nat.reduceMul, Nat.reduceBEq, Nat.reduceLeDiff, ↓reduceIte, Int.reduceToNat, Nat.reduceGT, Int.reduceLE, Int.reduceLT, Int.reduceGE, Int.reduceGT, Int.reduceEq, Int.reduceNe, reduceCtorEq]
          exact ret_same ⟨rfl, rfl⟩
        · rw [b3, Bool.false_and] at his
          simp only [go_sem, Nat.reduceEqDiff, Nat.reduceAdd, Nat.reduceSub, Nat.reduceLT, Nat.reduceMul, Nat.reduceBEq, Nat.reduceLeDiff, ↓reduceIte, Int.reduceToNat, Nat.reduceGT, Int.reduceLE, Int.reduceLT, Int.reduceGE, Int.reduceGT, Int.reduceEq, Int.reduceNe, reduceCtorEq, his, decide_true]
          refine callX_by (aw _ hg) ?_
          rintro r hp3 ⟨rfl, rfl⟩
          simp only [go_sem, Nat.reduceEqDiff, Nat.reduceAdd, Nat.reduceSub, Nat.reduceLT, Nat.reduceMul, Nat.reduceBEq, Nat.reduceLeDiff, ↓reduceIte, Int.reduceToNat, Nat.reduceGT, Int.reduceLE, Int.reduceLT, Int.reduceGE, Int.reduceGT, Int.reduceEq, Int.reduceNe, reduceCtorEq]
          exact ret_same ⟨rfl, rfl⟩
      · have hv' : progB p = false := by simpa using hv
        simp only [go_sem, Nat.reduceEqDiff, Nat.reduceAdd, Nat.reduceSub, Nat.reduceLT, Nat.reduceMul, Nat.reduceBEq, Nat.reduceLeDiff, ↓reduceIte, Int.reduceToNat, Nat.reduceGT, Int.reduceLE, Int.reduceLT, Int.reduceGE, Int.reduceGT, Int.reduceEq, Int.reduceNe, reduceCtorEq, hv', if_false, Bool.false_and, Bool.false_eq_true]
        refine callX_by (aw _ hg) ?_
        rintro r hp3 ⟨rfl, rfl⟩
        simp only [go_sem, Nat.reduceEqDiff, Nat.reduceAdd, Nat.reduceSub, Nat.reduceLT, Nat.reduceMul, Nat.reduceBEq, Nat.reduceLeDiff, ↓reduceIte, Int.reduceToNat, Nat.reduceGT, Int.reduceLE, Int.reduceLT, Int.reduceGE, Int.reduceGT, Int.reduceEq, Int.reduceNe, reduceCtorEq]
        exact ret_same ⟨rfl, rfl⟩
    · refine callX_by (aw _ hg) ?_
      rintro r hp3 ⟨rfl, rfl⟩
      simp only [go_sem, Nat.reduceEqDiff, Nat.reduceAdd, Nat.reduceSub, Nat.reduceLT, Nat.reduceMul, Nat.reduceBEq, Nat.reduceLeDiff, ↓reduceIte, Int.reduceToNat, Nat.reduceGT, Int.reduceLE, Int.reduceLT, Int.reduceGE, Int.reduceGT, Int.reduceEq, Int.reduceNe, reduceCtorEq]
      exact ret_same ⟨rfl, rfl⟩
  · refine callX_by (aw _ hg) ?_
    rintro r hp3 ⟨rfl, rfl⟩
    simp only [go_sem, Nat.reduceEqDiff, Nat.reduceAdd, Nat.reduceSub, Nat.reduceLT, Nat.reduceMul, Nat.reduceBEq, Nat.reduceLeDiff, ↓reduceIte, Int.reduceToNat, Nat.reduceGT, Int.reduceLE, Int.reduceLT, Int.reduceGE, Int.reduceGT, Int.reduceEq, Int.reduceNe, reduceCtorEq]
    exact ret_same ⟨rfl, rfl⟩
end Go.Proofs.YtppoacgeiooppaaGreat

/- The reference of the layer 'term': free, Free. -/
import Derived.Test.YtppoacgeiooppaaGreatCT41
set_option linter.unusedSimpArgs false
set_option linter.unusedVariables false
set_option maxRecDepth 20000
set_option maxHeartbeats 4000000
namespace Go.Proofs.YtppoacgeiooppaaGreat
open Go.AL

theorem has_snoc2 (V : List Bytes) (s : Bytes) : hasB (V ++ [s]) = addP (hasB V) s := by
  funext x
  simp only [hasB, addP, List.any_append, List.any_cons, List.any_nil, Bool.or_false]
  rw [Bool.or_comm]
theorem has_append2 (V l : List Bytes) : hasB (V ++ l) = addL (hasB V) l := by
  funext x
  simp only [hasB, addL, List.any_append]
  rw [Bool.or_comm]
abbrev SS := List Bytes × List Bytes
def argL0 (L : Bytes → Bool) (op : Int) (name : Bytes) (k : Nat) : Bytes → Bool := if op = 11 ∧ k = 0 then addP L name else L
def startS (bv bl : Bytes → Bool) (op : Int) (name : Bytes) (s : SS) : SS := (if op = 0 ∧ bv name = false then insS s.1 name else s.1, if op = 12 ∧ bl name = false then insS s.2 name else s.2)
mutual
def frT (bv bl : Bytes → Bool) : TermG → SS → SS
  | .mk op n name ty ha args hc cls, s => frC bv bl cls (frA bv bl op name 0 args (startS bv bl op name s))
def frA (bv bl : Bytes → Bool) (op : Int) (name : Bytes) (k : Nat) : List TermG → SS → SS
  | [], s => s
  | a :: r, s => frA bv bl op name (k + 1) r (frT (argV bv op name k) (argL0 bl op name k) a s)
def frC (bv bl : Bytes → Bool) : List ClauseG → SS → SS
  | [], s => s
  | c :: r, s => frC bv bl r (frB bv bl c s)
def frB (bv bl : Bytes → Bool) : ClauseG → SS → SS
  | .mk _ names b, s => frT (addL bv names) bl b s
end
theorem frT_eq (bv bl : Bytes → Bool) (t : TermG) (s : SS) : frT bv bl t s = frC bv bl t.cls (frA bv bl t.op t.name 0 t.args (startS bv bl t.op t.name s)) := by cases t; rw [frT]; rfl
theorem frB_eq (bv bl : Bytes → Bool) (c : ClauseG) (s : SS) : frB bv bl c s = frT (addL bv c.names) bl c.body s := by cases c; rw [frB]; rfl
theorem start_len (bv bl : Bytes → Bool) (op : Int) (name : Bytes) (s : SS) : (startS bv bl op name s).1.length ≤ s.1.length + 1 ∧ (startS bv bl op name s).2.length ≤ s.2.length + 1 := by
  have h1 := insS_len s.1 name
  have h2 := insS_len s.2 name
  simp only [startS]
  constructor <;> split <;> omega
mutual
theorem frT_len : ∀ (t : TermG) (bv bl : Bytes → Bool) (s : SS), (frT bv bl t s).1.length ≤ s.1.length + nodesT t ∧ (frT bv bl t s).2.length ≤ s.2.length + nodesT t
  | .mk op n name ty ha args hc cls, bv, bl, s => by
    rw [frT, nodesT]
    have h1 := frC_len cls bv bl (frA bv bl op name 0 args (startS bv bl op name s))
    have h2 := frA_len args 0 bv bl op name (startS bv bl op name s)
    have h3 := start_len bv bl op name s
    omega
theorem frA_len : ∀ (l : List TermG) (k : Nat) (bv bl : Bytes → Bool) (op : Int) (name : Bytes) (s : SS), (frA bv bl op name k l s).1.length ≤ s.1.length + nodesA l ∧ (frA bv bl op name k l s).2.length ≤ s.2.length + nodesA l
  | [], k, bv, bl, op, name, s => by rw [frA]; omega
  | a :: r, k, bv, bl, op, name, s => by
    rw [frA, nodesA]
    have h1 := frA_len r (k + 1) bv bl op name (frT (argV bv op name k) (argL0 bl op name k) a s)
    have h2 := frT_len a (argV bv op name k) (argL0 bl op name k) s
    omega
theorem frC_len : ∀ (l : List ClauseG) (bv bl : Bytes → Bool) (s : SS), (frC bv bl l s).1.length ≤ s.1.length + nodesC l ∧ (frC bv bl l s).2.length ≤ s.2.length + nodesC l
  | [], bv, bl, s => by rw [frC]; omega
  | c :: r, bv, bl, s => by
    rw [frC, nodesC]
    have h1 := frC_len r bv bl (frB bv bl c s)
    have h2 := frB_len c bv bl s
    omega
theorem frB_len : ∀ (c : ClauseG) (bv bl : Bytes → Bool) (s : SS), (frB bv bl c s).1.length ≤ s.1.length + nodesB c ∧ (frB bv bl c s).2.length ≤ s.2.length + nodesB c
  | .mk hn names b, bv, bl, s => by rw [frB, nodesB]; exact frT_len b _ _ _
end
theorem frA_drop {bv bl : Bytes → Bool} {op : Int} {name : Bytes} {l : List TermG} {k : Nat} {a : TermG} (h : l[k]? = some a) (s : SS) : frA bv bl op name k (l.drop k) s = frA bv bl op name (k + 1) (l.drop (k + 1)) (frT (argV bv op name k) (argL0 bl op name k) a s) := by
  rw [dropK h, frA]
theorem frC_drop {bv bl : Bytes → Bool} {l : List ClauseG} {k : Nat} {c : ClauseG} (h : l[k]? = some c) (s : SS) : frC bv bl (l.drop k) s = frC bv bl (l.drop (k + 1)) (frT (addL bv c.names) bl c.body s) := by
  rw [dropK h, frC, frB_eq]
theorem nodesA_drop {l : List TermG} {k : Nat} {a : TermG} (h : l[k]? = some a) : nodesA (l.drop k) = nodesT a + nodesA (l.drop (k + 1)) := by rw [dropK h, nodesA]
theorem nodesC_drop {l : List ClauseG} {k : Nat} {c : ClauseG} (h : l[k]? = some c) : nodesC (l.drop k) = nodesT c.body + nodesC (l.drop (k + 1)) := by rw [dropK h, nodesC, nodesB_eq]
def FreeR (s : SS) (hp : Hp) (r : AV) (hp' : Hp) : Prop := (∃ h h', r = .tup [strsAV h s.1, strsAV h' s.2]) ∧ hp' = hp
theorem rfree_calls : ∀ (N : Nat) (t : TermG), nodesT t ≤ N → ∀ (h1 h2 h3 h4 : Value) (bv bl vs ls : List Bytes), bv.length + nmT t + nodesT t ≤ 6000000000000 → bl.length + nodesT t ≤ 6000000000000 → vs.length + nodesT t ≤ 6000000000000 → ls.length + nodesT t ≤ 6000000000000 → ∀ (hp : Hp),
    ACalls Tryz.prog 63 [t.av, strsAV h1 bv, strsAV h2 bl, strsAV h3 vs, strsAV h4 ls] hp (FreeR (frT (hasB bv) (hasB bl) t (vs, ls)) hp)
  | 0, t, hN, _, _, _, _, _, _, _, _, _, _, _, _, _ => by have := nodesT_pos t; omega
  | N + 1, t, hN, h1, h2, h3, h4, bv, bl, vs, ls, hbv, hbl, hvs, hls, hp => by
    have hrec := rfree_calls N
    have hnt := nodesT_eq t
    have hnm := nmT_eq t
    have hpos := nodesT_pos t
    have hlA := argsN_len t.args
    have hlC := clsN_len t.cls
    have hst := start_len (hasB bv) (hasB bl) t.op t.name (vs, ls)
    refine acalls_of Tryz.func63 rfl (by decide +kernel) (awp_sound (mu := []) _ _ _ ?_)
    simp only [go_sem, Nat.reduceEqDiff, Nat.reduceAdd, Nat.reduceSub, Nat.reduceLT, Nat.reduceMul, Nat.reduceBEq, Nat.reduceLeDiff, ↓reduceIte, Int.reduceToNat, Nat.reduceGT, Int.reduceLE, Int.reduceLT, Int.reduceGE, Int.reduceGT, Int.reduceEq, Int.reduceNe, reduceCtorEq, TermG.av, TermG.cs_eq]
    intro q5
    have hS : ∀ (X Y : List Bytes), True := fun _ _ => trivial
    have o12' : t.op = 0 → ¬ t.op = 12 := fun h => by omega
    by_cases o0 : t.op = 0
    · have o12 : ¬ t.op = 12 := o12' o0
      simp only [go_sem, Nat.reduceEqDiff, Nat.reduceAdd, Nat.reduceSub, Nat.reduceLT, Nat.reduceMul, Nat.reduceBEq, Nat.reduceLeDiff, ↓reduceIte, Int.reduceToNat, Nat.reduceGT, Int.reduceLE, Int.reduceLT, Int.reduceGE, Int.reduceGT, Int.reduceEq, Int.reduceNe, reduceCtorEq, decide_eq_true o0, decide_eq_false o12]
      refine callX_by (in_calls h1 bv t.name hp) ?_
      rintro r hp1 ⟨rfl, rfl⟩
      simp only [go_sem, Nat.reduceEqDiff, Nat.reduceAdd, Nat.reduceSub, Nat.reduceLT, Nat.reduceMul, Nat.reduceBEq, Nat.reduceLeDiff, ↓reduceIte, Int.reduceToNat, Nat.reduceGT, Int.reduceLE, Int.reduceLT, Int.reduceGE, Int.reduceGT, Int.reduceEq, Int.reduceNe, reduceCtorEq, decide_eq_true o0, decide_eq_false o12]
      refine brK_mk (fun b1 => ?_) (fun b1 => ?_) <;> simp only [go_sem, Nat.reduceEqDiff, Nat.reduceAdd, Nat.reduceSub, Nat.reduceLT, Nat.reduceMul, Nat.reduceBEq, Nat.reduceLeDiff, ↓reduceIte, Int.reduceToNat, Nat.reduceGT, Int.reduceLE, Int.reduceLT, Int.reduceGE, Int.reduceGT, Int.reduceEq, Int.reduceNe, reduceCtorEq, b1, decide_eq_false o12]
      · obtain ⟨hA, hB, S0, e0, eS⟩ : ∃ hA hB S0, startS (hasB bv) (hasB bl) t.op t.name (vs, ls) = S0 ∧ (strsAV h3 vs = strsAV hA S0.1 ∧ strsAV h4 ls = strsAV hB S0.2) := ⟨h3, h4, _, rfl, by simp [startS, o0, b1]⟩
        simp only [eS.1, eS.2]
        rw [e0] at hst
        clear eS hS o12'
        have hft := frT_eq (hasB bv) (hasB bl) t (vs, ls)
        rw [e0] at hft
        have hst1 : S0.1.length ≤ vs.length + 1 := hst.1
        have hst2 : S0.2.length ≤ ls.length + 1 := hst.2
        refine aw_loopX 113 (fun x : Nat × Value × Value × SS => [(1, strsAV h1 bv), (2, strsAV h2 bl), (3, strsAV x.2.1 x.2.2.2.1), (4, strsAV x.2.2.1 x.2.2.2.2), (5, .ref q5 [.v (.int .i64 t.op), .v (.int .i64 t.n), .v (.string (bs t.name)), .v (.int .i64 t.ty), .lst 6 t.ha (t.args.map TermG.av), .lst 7 t.hc (t.cls.map ClauseG.av)]), (47, .lst 6 t.ha (t.args.map TermG.av)), (48, .v (.int .i64 t.args.length)), (49, .v (.int .i64 x.1))])
          (fun _ => hp1) (fun x => x.1 ≤ t.args.length ∧ frA (hasB bv) (hasB bl) t.op t.name x.1 (t.args.drop x.1) x.2.2.2 = frA (hasB bv) (hasB bl) t.op t.name 0 t.args S0 ∧ x.2.2.2.1.length + nodesA (t.args.drop x.1) ≤ vs.length + 1 + nodesA t.args ∧ x.2.2.2.2.length + nodesA (t.args.drop x.1) ≤ ls.length + 1 + nodesA t.args) (fun x => t.args.length - x.1) (0, hA, hB, S0)
          ⟨Nat.zero_le _, rfl, by simp only [List.drop_zero]; omega, by simp only [List.drop_zero]; omega⟩ (le_mkSl rfl (Hp.le_refl _) (by simp [go_sem])) ?_
        · rintro ⟨k, xa, xb, xs⟩ ⟨hk, hd, hx1, hx2⟩
          simp only at hk hd hx1 hx2
          refine awp_sound (mu := []) _ _ _ ?_
          simp only [go_sem, Nat.reduceEqDiff, Nat.reduceAdd, Nat.reduceSub, Nat.reduceLT, Nat.reduceMul, Nat.reduceBEq, Nat.reduceLeDiff, ↓reduceIte, Int.reduceToNat, Nat.reduceGT, Int.reduceLE, Int.reduceLT, Int.reduceGE, Int.reduceGT, Int.reduceEq, Int.reduceNe, reduceCtorEq]
          refine brK_mk (fun b1 => ?_) (fun b1 => ?_) <;> simp only [go_sem, Nat.reduceEqDiff, Nat.reduceAdd, Nat.reduceSub, Nat.reduceLT, Nat.reduceMul, Nat.reduceBEq, Nat.reduceLeDiff, ↓reduceIte, Int.reduceToNat, Nat.reduceGT, Int.reduceLE, Int.reduceLT, Int.reduceGE, Int.reduceGT, Int.reduceEq, Int.reduceNe, reduceCtorEq, b1]
          · have hk' : k < t.args.length := by simpa using b1
            obtain ⟨a, ha⟩ := someAt t.args k hk'
            have hmem := List.mem_of_getElem? ha
            have hwu : IntKind.i64.wrap ((k : Int) + 1) = ((k + 1 : Nat) : Int) := IntWalk.i64_in _ (by omega)
            have hlt := args_lt hmem
            have hnl := nmA_mem hmem
            have hnd := nodesA_drop ha
            have hma := nodesA_mem hmem
            simp only [go_sem, Nat.reduceEqDiff, Nat.reduceAdd, Nat.reduceSub, Nat.reduceLT, Nat.reduceMul, Nat.reduceBEq, Nat.reduceLeDiff, ↓reduceIte, Int.reduceToNat, Nat.reduceGT, Int.reduceLE, Int.reduceLT, Int.reduceGE, Int.reduceGT, Int.reduceEq, Int.reduceNe, reduceCtorEq, mapAt TermG.av _ _ _ ha, TermG.av, TermG.cs_eq]
            intro v hv
            have hdv := fun T cs => Hp.del_set _ _ T cs hv.1
            skip
            by_cases o8 : t.op = 8 ∧ k = 1
            · have o11 : ¬ t.op = 11 := by omega
              have k1 : decide ((k : Int) = 1) = true := decide_eq_true (by omega)
              have ev : argV (hasB bv) t.op t.name k = hasB (bv ++ [t.name]) := by rw [argV, if_pos o8, has_snoc2]
              have el : argL0 (hasB bl) t.op t.name k = hasB bl := by rw [argL0, if_neg (by omega)]
              simp only [go_sem, Nat.reduceEqDiff, Nat.reduceAdd, Nat.reduceSub, Nat.reduceLT, Nat.reduceMul, Nat.reduceBEq, Nat.reduceLeDiff, ↓reduceIte, Int.reduceToNat, Nat.reduceGT, Int.reduceLE, Int.reduceLT, Int.reduceGE, Int.reduceGT, Int.reduceEq, Int.reduceNe, reduceCtorEq, decide_eq_true o8.1, k1, decide_eq_false o11, hdv]
              refine ⟨rfl, by simp, fun hd2 => ?_⟩
              have c := fun hp => rwith_calls h1 hd2 bv [t.name] (by simp only [List.length_cons, List.length_nil]; omega) hp
              simp only [strsAV, List.map_cons, List.map_nil] at c
              simp only [strsAV]
              refine callX_by (c _) ?_
              clear c
              rintro r hp2 ⟨hw, rfl, rfl⟩
              simp only [go_sem, Nat.reduceEqDiff, Nat.reduceAdd, Nat.reduceSub, Nat.reduceLT, Nat.reduceMul, Nat.reduceBEq, Nat.reduceLeDiff, ↓reduceIte, Int.reduceToNat, Nat.reduceGT, Int.reduceLE, Int.reduceLT, Int.reduceGE, Int.reduceGT, Int.reduceEq, Int.reduceNe, reduceCtorEq, decide_eq_false o11]
              have c := hrec a (by omega) hw h2 xa xb (bv ++ [t.name]) bl xs.1 xs.2 (by simp only [List.length_append, List.length_cons, List.length_nil]; omega) (by omega) (by omega) (by omega) (hp1.setSp ((9, 1, hd2) :: hp1.sp))
              simp only [strsAV, TermG.av, TermG.cs_eq] at c
              refine callX_by c ?_
              clear c
              rintro r hp2 ⟨⟨ha', hb', rfl⟩, rfl⟩
              simp only [go_sem, Nat.reduceEqDiff, Nat.reduceAdd, Nat.reduceSub, Nat.reduceLT, Nat.reduceMul, Nat.reduceBEq, Nat.reduceLeDiff, ↓reduceIte, Int.reduceToNat, Nat.reduceGT, Int.reduceLE, Int.reduceLT, Int.reduceGE, Int.reduceGT, Int.reduceEq, Int.reduceNe, reduceCtorEq, hwu]
              have hfl := frT_len a (hasB (bv ++ [t.name])) (hasB bl) xs
              exact ⟨(k + 1, ha', hb', frT (hasB (bv ++ [t.name])) (hasB bl) a xs), by simp only; omega, ⟨by simp only; omega, by rw [← hd, frA_drop ha]; simp only [ev, el], by simp only; omega, by simp only; omega⟩, le_mkSl rfl (Hp.le_addSp _ _) (by simp [go_sem, hwu, strsAV])⟩
            · by_cases o11 : t.op = 11 ∧ k = 0
              · have o8' : ¬ t.op = 8 := by omega
                have k1 : decide ((k : Int) = 0) = true := decide_eq_true (by omega)
                have ev : argV (hasB bv) t.op t.name k = hasB bv := by rw [argV, if_neg (by omega)]
                have el : argL0 (hasB bl) t.op t.name k = hasB (bl ++ [t.name]) := by rw [argL0, if_pos o11, has_snoc2]
                simp only [go_sem, Nat.reduceEqDiff, Nat.reduceAdd, Nat.reduceSub, Nat.reduceLT, Nat.reduceMul, Nat.reduceBEq, Nat.reduceLeDiff, ↓reduceIte, Int.reduceToNat, Nat.reduceGT, Int.reduceLE, Int.reduceLT, Int.reduceGE, Int.reduceGT, Int.reduceEq, Int.reduceNe, reduceCtorEq, decide_eq_true o11.1, k1, decide_eq_false o8', hdv]
                refine ⟨rfl, by simp, fun hd2 => ?_⟩
                have c := fun hp => rwith_calls h2 hd2 bl [t.name] (by simp only [List.length_cons, List.length_nil]; omega) hp
                simp only [strsAV, List.map_cons, List.map_nil] at c
                simp only [strsAV]
                refine callX_by (c _) ?_
                clear c
                rintro r hp2 ⟨hw, rfl, rfl⟩
                simp only [go_sem, Nat.reduceEqDiff, Nat.reduceAdd, Nat.reduceSub, Nat.reduceLT, Nat.reduceMul, Nat.reduceBEq, Nat.reduceLeDiff, ↓reduceIte, Int.reduceToNat, Nat.reduceGT, Int.reduceLE, Int.reduceLT, Int.reduceGE, Int.reduceGT, Int.reduceEq, Int.reduceNe, reduceCtorEq]
                have c := hrec a (by omega) h1 hw xa xb bv (bl ++ [t.name]) xs.1 xs.2 (by omega) (by simp only [List.length_append, List.length_cons, List.length_nil]; omega) (by omega) (by omega) (hp1.setSp ((9, 1, hd2) :: hp1.sp))
                simp only [strsAV, TermG.av, TermG.cs_eq] at c
                refine callX_by c ?_
                clear c
                rintro r hp2 ⟨⟨ha', hb', rfl⟩, rfl⟩
                simp only [go_sem, Nat.reduceEqDiff, Nat.reduceAdd, Nat.reduceSub, Nat.reduceLT, Nat.reduceMul, Nat.reduceBEq, Nat.reduceLeDiff, ↓reduceIte, Int.reduceToNat, Nat.reduceGT, Int.reduceLE, Int.reduceLT, Int.reduceGE, Int.reduceGT, Int.reduceEq, Int.reduceNe, reduceCtorEq, hwu]
                have hfl := frT_len a (hasB bv) (hasB (bl ++ [t.name])) xs
                exact ⟨(k + 1, ha', hb', frT (hasB bv) (hasB (bl ++ [t.name])) a xs), by simp only; omega, ⟨by simp only; omega, by rw [← hd, frA_drop ha]; simp only [ev, el], by simp only; omega, by simp only; omega⟩, le_mkSl rfl (Hp.le_addSp _ _) (by simp [go_sem, hwu, strsAV])⟩
              · have ev : argV (hasB bv) t.op t.name k = hasB bv := by rw [argV, if_neg (by omega)]
                have el : argL0 (hasB bl) t.op t.name k = hasB bl := by rw [argL0, if_neg (by omega)]
                have z8 : t.op = 8 → decide ((k : Int) = 1) = false := fun h => decide_eq_false (by omega)
                have z11 : t.op = 11 → decide ((k : Int) = 0) = false := fun h => decide_eq_false (by omega)
                by_cases q8 : t.op = 8
                · have q11 : ¬ t.op = 11 := by omega
                  simp only [go_sem, Nat.reduceEqDiff, Nat.reduceAdd, Nat.reduceSub, Nat.reduceLT, Nat.reduceMul, Nat.reduceBEq, Nat.reduceLeDiff, ↓reduceIte, Int.reduceToNat, Nat.reduceGT, Int.reduceLE, Int.reduceLT, Int.reduceGE, Int.reduceGT, Int.reduceEq, Int.reduceNe, reduceCtorEq, decide_eq_true q8, z8 q8, decide_eq_false q11, hdv]
                  have c := hrec a (by omega) h1 h2 xa xb bv bl xs.1 xs.2 (by omega) (by omega) (by omega) (by omega) (hp1)
                  simp only [strsAV, TermG.av, TermG.cs_eq] at c
                  refine callX_by c ?_
                  clear c
                  rintro r hp2 ⟨⟨ha', hb', rfl⟩, rfl⟩
                  simp only [go_sem, Nat.reduceEqDiff, Nat.reduceAdd, Nat.reduceSub, Nat.reduceLT, Nat.reduceMul, Nat.reduceBEq, Nat.reduceLeDiff, ↓reduceIte, Int.reduceToNat, Nat.reduceGT, Int.reduceLE, Int.reduceLT, Int.reduceGE, Int.reduceGT, Int.reduceEq, Int.reduceNe, reduceCtorEq, hwu]
                  have hfl := frT_len a (hasB bv) (hasB bl) xs
                  exact ⟨(k + 1, ha', hb', frT (hasB bv) (hasB bl) a xs), by simp only; omega, ⟨by simp only; omega, by rw [← hd, frA_drop ha]; simp only [ev, el], by simp only; omega, by simp only; omega⟩, le_mkSl rfl (Hp.le_refl _) (by simp [go_sem, hwu, strsAV])⟩
                · by_cases q11 : t.op = 11
                  · simp only [go_sem, Nat.reduceEqDiff, Nat.reduceAdd, Nat.reduceSub, Nat.reduceLT, Nat.reduceMul, Nat.reduceBEq, Nat.reduceLeDiff, ↓reduceIte, Int.reduceToNat, Nat.reduceGT, Int.reduceLE, Int.reduceLT, Int.reduceGE, Int.reduceGT, Int.reduceEq, Int.reduceNe, reduceCtorEq, decide_eq_true q11, z11 q11, decide_eq_false q8, hdv]
                    have c := hrec a (by omega) h1 h2 xa xb bv bl xs.1 xs.2 (by omega) (by omega) (by omega) (by omega) (hp1)
                    simp only [strsAV, TermG.av, TermG.cs_eq] at c
                    refine callX_by c ?_
                    clear c
                    rintro r hp2 ⟨⟨ha', hb', rfl⟩, rfl⟩
                    simp only [go_sem, Nat.reduceEqDiff, Nat.reduceAdd, Nat.reduceSub, Nat.reduceLT, Nat.reduceMul, Nat.reduceBEq, Nat.reduceLeDiff, ↓reduceIte, Int.reduceToNat, Nat.reduceGT, Int.reduceLE, Int.reduceLT, Int.reduceGE, Int.reduceGT, Int.reduceEq, Int.reduceNe, reduceCtorEq, hwu]
                    have hfl := frT_len a (hasB bv) (hasB bl) xs
                    exact ⟨(k + 1, ha', hb', frT (hasB bv) (hasB bl) a xs), by simp only; omega, ⟨by simp only; omega, by rw [← hd, frA_drop ha]; simp only [ev, el], by simp only; omega, by simp only; omega⟩, le_mkSl rfl (Hp.le_refl _) (by simp [go_sem, hwu, strsAV])⟩
                  · simp only [go_sem, Nat.reduceEqDiff, Nat.reduceAdd, Nat.reduceSub, Nat.reduceLT, Nat.reduceMul, Nat.reduceBEq, Nat.reduceLeDiff, ↓reduceIte, Int.reduceToNat, Nat.reduceGT, Int.reduceLE, Int.reduceLT, Int.reduceGE, Int.reduceGT, Int.reduceEq, Int.reduceNe, reduceCtorEq, decide_eq_false q11, decide_eq_false q8, hdv]
                    have c := hrec a (by omega) h1 h2 xa xb bv bl xs.1 xs.2 (by omega) (by omega) (by omega) (by omega) (hp1)
                    simp only [strsAV, TermG.av, TermG.cs_eq] at c
                    refine callX_by c ?_
                    clear c
                    rintro r hp2 ⟨⟨ha', hb', rfl⟩, rfl⟩
                    simp only [go_sem, Nat.reduceEqDiff, Nat.reduceAdd, Nat.reduceSub, Nat.reduceLT, Nat.reduceMul, Nat.reduceBEq, Nat.reduceLeDiff, ↓reduceIte, Int.reduceToNat, Nat.reduceGT, Int.reduceLE, Int.reduceLT, Int.reduceGE, Int.reduceGT, Int.reduceEq, Int.reduceNe, reduceCtorEq, hwu]
                    have hfl := frT_len a (hasB bv) (hasB bl) xs
                    exact ⟨(k + 1, ha', hb', frT (hasB bv) (hasB bl) a xs), by simp only; omega, ⟨by simp only; omega, by rw [← hd, frA_drop ha]; simp only [ev, el], by simp only; omega, by simp only; omega⟩, le_mkSl rfl (Hp.le_refl _) (by simp [go_sem, hwu, strsAV])⟩
          · have ek : k = t.args.length := by have := of_decide_eq_false b1; omega
            subst ek
            rw [List.drop_of_length_le (Nat.le_refl _), frA] at hd
            rw [List.drop_of_length_le (Nat.le_refl _), nodesA] at hx1 hx2
            rw [← hd] at hft
            clear hd
            skip
            refine aw_loopX 113 (fun x : Nat × Value × Value × SS => [(1, strsAV h1 bv), (2, strsAV h2 bl), (3, strsAV x.2.1 x.2.2.2.1), (4, strsAV x.2.2.1 x.2.2.2.2), (91, .lst 7 t.hc (t.cls.map ClauseG.av)), (92, .v (.int .i64 t.cls.length)), (93, .v (.int .i64 x.1))])
              (fun _ => hp1) (fun x => x.1 ≤ t.cls.length ∧ frC (hasB bv) (hasB bl) (t.cls.drop x.1) x.2.2.2 = frC (hasB bv) (hasB bl) t.cls xs ∧ x.2.2.2.1.length + nodesC (t.cls.drop x.1) ≤ vs.length + nodesT t ∧ x.2.2.2.2.length + nodesC (t.cls.drop x.1) ≤ ls.length + nodesT t) (fun x => t.cls.length - x.1) (0, xa, xb, xs)
              ⟨Nat.zero_le _, rfl, by simp only [List.drop_zero]; omega, by simp only [List.drop_zero]; omega⟩ (le_mkSl rfl (Hp.le_refl _) (by simp [go_sem, strsAV])) ?_
            rintro ⟨k, ya, yb, ys⟩ ⟨hk, hd, hx1, hx2⟩
            simp only at hk hd hx1 hx2
            refine awp_sound (mu := []) _ _ _ ?_
            simp only [go_sem, Nat.reduceEqDiff, Nat.reduceAdd, Nat.reduceSub, Nat.reduceLT, Nat.reduceMul, Nat.reduceBEq, Nat.reduceLeDiff, ↓reduceIte, Int.reduceToNat, Nat.reduceGT, Int.reduceLE, Int.reduceLT, Int.reduceGE, Int.reduceGT, Int.reduceEq, Int.reduceNe, reduceCtorEq]
            refine brK_mk (fun b1 => ?_) (fun b1 => ?_) <;> simp only [go_sem, Nat.reduceEqDiff, Nat.reduceAdd, Nat.reduceSub, Nat.reduceLT, Nat.reduceMul, Nat.reduceBEq, Nat.reduceLeDiff, ↓reduceIte, Int.reduceToNat, Nat.reduceGT, Int.reduceLE, Int.reduceLT, Int.reduceGE, Int.reduceGT, Int.reduceEq, Int.reduceNe, reduceCtorEq, b1]
            · have hk' : k < t.cls.length := by simpa using b1
              obtain ⟨c1, hc1⟩ := someAt t.cls k hk'
              have hmem := List.mem_of_getElem? hc1
              have hwu : IntKind.i64.wrap ((k : Int) + 1) = ((k + 1 : Nat) : Int) := IntWalk.i64_in _ (by omega)
              have hlt := cls_lt hmem
              have hnl := nmC_mem hmem
              rw [nmB_eq] at hnl
              have hnd := nodesC_drop hc1
              have hma := nodesC_mem hmem
              simp only [go_sem, Nat.reduceEqDiff, Nat.reduceAdd, Nat.reduceSub, Nat.reduceLT, Nat.reduceMul, Nat.reduceBEq, Nat.reduceLeDiff, ↓reduceIte, Int.reduceToNat, Nat.reduceGT, Int.reduceLE, Int.reduceLT, Int.reduceGE, Int.reduceGT, Int.reduceEq, Int.reduceNe, reduceCtorEq, mapAt ClauseG.av _ _ _ hc1, ClauseG.av, ClauseG.cs_eq]
              intro v hv
              have hdv := fun T cs => Hp.del_set _ _ T cs hv.1
              simp only [hdv]
              refine draw_by (mu := []) (fun _ => True) (.take 0 (.take 1 (.take 2 (.take 3 (.take 4 (.take 6 (.take 7 (.take 8 (.br 5 (.br 9 (.take 10 (.take 11 (.take 12 (.take 13 (.take 14 (.done)))))) (.stop)) (.stop)))))))))) (by decide +kernel) trivial (by decide +kernel) (by decide +kernel) ?_
              simp only [go_sem, Nat.reduceEqDiff, Nat.reduceAdd, Nat.reduceSub, Nat.reduceLT, Nat.reduceMul, Nat.reduceBEq, Nat.reduceLeDiff, ↓reduceIte, Int.reduceToNat, Nat.reduceGT, Int.reduceLE, Int.reduceLT, Int.reduceGE, Int.reduceGT, Int.reduceEq, Int.reduceNe, reduceCtorEq]
              have c := fun hp => rwith_calls h1 c1.hn bv c1.names (by omega) hp
              simp only [strsAV] at c
              simp only [strsAV]
              refine callX_by (c _) ?_
              clear c
              rintro r hp2 ⟨hw, rfl, rfl⟩
              simp only [go_sem, Nat.reduceEqDiff, Nat.reduceAdd, Nat.reduceSub, Nat.reduceLT, Nat.reduceMul, Nat.reduceBEq, Nat.reduceLeDiff, ↓reduceIte, Int.reduceToNat, Nat.reduceGT, Int.reduceLE, Int.reduceLT, Int.reduceGE, Int.reduceGT, Int.reduceEq, Int.reduceNe, reduceCtorEq]
              have c := hrec c1.body (by omega) hw h2 ya yb (bv ++ c1.names) bl ys.1 ys.2 (by rw [List.length_append]; omega) (by omega) (by omega) (by omega) hp2
              simp only [strsAV, TermG.av, TermG.cs_eq] at c
              refine callX_by c ?_
              clear c
              rintro r hp2 ⟨⟨ha', hb', rfl⟩, rfl⟩
              simp only [go_sem, Nat.reduceEqDiff, Nat.reduceAdd, Nat.reduceSub, Nat.reduceLT, Nat.reduceMul, Nat.reduceBEq, Nat.reduceLeDiff, ↓reduceIte, Int.reduceToNat, Nat.reduceGT, Int.reduceLE, Int.reduceLT, Int.reduceGE, Int.reduceGT, Int.reduceEq, Int.reduceNe, reduceCtorEq, hwu]
              have hfl := frT_len c1.body (hasB (bv ++ c1.names)) (hasB bl) ys
              exact ⟨(k + 1, ha', hb', frT (hasB (bv ++ c1.names)) (hasB bl) c1.body ys), by simp only; omega, ⟨by simp only; omega, by rw [← hd, frC_drop hc1, has_append2], by simp only; omega, by simp only; omega⟩, le_mkSl rfl (Hp.le_refl _) (by simp [go_sem, hwu, strsAV])⟩
            · have ek : k = t.cls.length := by have := of_decide_eq_false b1; omega
              subst ek
              rw [List.drop_of_length_le (Nat.le_refl _), frC] at hd
              rw [← hd] at hft
              exact ret_same ⟨⟨ya, yb, by rw [hft]⟩, rfl⟩
      · have c := rinsert_calls h3 vs t.name (by omega) hp1
        refine callX_by c ?_
        rintro r hp2 ⟨h3', rfl, rfl⟩
        simp only [go_sem, Nat.reduceEqDiff, Nat.reduceAdd, Nat.reduceSub, Nat.reduceLT, Nat.reduceMul, Nat.reduceBEq, Nat.reduceLeDiff, ↓reduceIte, Int.reduceToNat, Nat.reduceGT, Int.reduceLE, Int.reduceLT, Int.reduceGE, Int.reduceGT, Int.reduceEq, Int.reduceNe, reduceCtorEq, decide_eq_false o12]
        obtain ⟨hA, hB, S0, e0, eS⟩ : ∃ hA hB S0, startS (hasB bv) (hasB bl) t.op t.name (vs, ls) = S0 ∧ (strsAV h3' (insS vs t.name) = strsAV hA S0.1 ∧ strsAV h4 ls = strsAV hB S0.2) := ⟨h3', h4, _, rfl, by simp [startS, o0, b1]⟩
        simp only [eS.1, eS.2]
        rw [e0] at hst
        clear eS hS o12'
        have hft := frT_eq (hasB bv) (hasB bl) t (vs, ls)
        rw [e0] at hft
        have hst1 : S0.1.length ≤ vs.length + 1 := hst.1
        have hst2 : S0.2.length ≤ ls.length + 1 := hst.2
        refine aw_loopX 113 (fun x : Nat × Value × Value × SS => [(1, strsAV h1 bv), (2, strsAV h2 bl), (3, strsAV x.2.1 x.2.2.2.1), (4, strsAV x.2.2.1 x.2.2.2.2), (5, .ref q5 [.v (.int .i64 t.op), .v (.int .i64 t.n), .v (.string (bs t.name)), .v (.int .i64 t.ty), .lst 6 t.ha (t.args.map TermG.av), .lst 7 t.hc (t.cls.map ClauseG.av)]), (47, .lst 6 t.ha (t.args.map TermG.av)), (48, .v (.int .i64 t.args.length)), (49, .v (.int .i64 x.1))])
          (fun _ => hp2) (fun x => x.1 ≤ t.args.length ∧ frA (hasB bv) (hasB bl) t.op t.name x.1 (t.args.drop x.1) x.2.2.2 = frA (hasB bv) (hasB bl) t.op t.name 0 t.args S0 ∧ x.2.2.2.1.length + nodesA (t.args.drop x.1) ≤ vs.length + 1 + nodesA t.args ∧ x.2.2.2.2.length + nodesA (t.args.drop x.1) ≤ ls.length + 1 + nodesA t.args) (fun x => t.args.length - x.1) (0, hA, hB, S0)
          ⟨Nat.zero_le _, rfl, by simp only [List.drop_zero]; omega, by simp only [List.drop_zero]; omega⟩ (le_mkSl rfl (Hp.le_refl _) (by simp [go_sem])) ?_
        · rintro ⟨k, xa, xb, xs⟩ ⟨hk, hd, hx1, hx2⟩
          simp only at hk hd hx1 hx2
          refine awp_sound (mu := []) _ _ _ ?_
          simp only [go_sem, Nat.reduceEqDiff, Nat.reduceAdd, Nat.reduceSub, Nat.reduceLT, Nat.reduceMul, Nat.reduceBEq, Nat.reduceLeDiff, ↓reduceIte, Int.reduceToNat, Nat.reduceGT, Int.reduceLE, Int.reduceLT, Int.reduceGE, Int.reduceGT, Int.reduceEq, Int.reduceNe, reduceCtorEq]
          refine brK_mk (fun b1 => ?_) (fun b1 => ?_) <;> simp only [go_sem, Nat.reduceEqDiff, Nat.reduceAdd, Nat.reduceSub, Nat.reduceLT, Nat.reduceMul, Nat.reduceBEq, Nat.reduceLeDiff, ↓reduceIte, Int.reduceToNat, Nat.reduceGT, Int.reduceLE, Int.reduceLT, Int.reduceGE, Int.reduceGT, Int.reduceEq, Int.reduceNe, reduceCtorEq, b1]
          · have hk' : k < t.args.length := by simpa using b1
            obtain ⟨a, ha⟩ := someAt t.args k hk'
            have hmem := List.mem_of_getElem? ha
            have hwu : IntKind.i64.wrap ((k : Int) + 1) = ((k + 1 : Nat) : Int) := IntWalk.i64_in _ (by omega)
            have hlt := args_lt hmem
            have hnl := nmA_mem hmem
            have hnd := nodesA_drop ha
            have hma := nodesA_mem hmem
            simp only [go_sem, Nat.reduceEqDiff, Nat.reduceAdd, Nat.reduceSub, Nat.reduceLT, Nat.reduceMul, Nat.reduceBEq, Nat.reduceLeDiff, ↓reduceIte, Int.reduceToNat, Nat.reduceGT, Int.reduceLE, Int.reduceLT, Int.reduceGE, Int.reduceGT, Int.reduceEq, Int.reduceNe, reduceCtorEq, mapAt TermG.av _ _ _ ha, TermG.av, TermG.cs_eq]
            intro v hv
            have hdv := fun T cs => Hp.del_set _ _ T cs hv.1
            skip
            by_cases o8 : t.op = 8 ∧ k = 1
            · have o11 : ¬ t.op = 11 := by omega
              have k1 : decide ((k : Int) = 1) = true := decide_eq_true (by omega)
              have ev : argV (hasB bv) t.op t.name k = hasB (bv ++ [t.name]) := by rw [argV, if_pos o8, has_snoc2]
              have el : argL0 (hasB bl) t.op t.name k = hasB bl := by rw [argL0, if_neg (by omega)]
              simp only [go_sem, Nat.reduceEqDiff, Nat.reduceAdd, Nat.reduceSub, Nat.reduceLT, Nat.reduceMul, Nat.reduceBEq, Nat.reduceLeDiff, ↓reduceIte, Int.reduceToNat, Nat.reduceGT, Int.reduceLE, Int.reduceLT, Int.reduceGE, Int.reduceGT, Int.reduceEq, Int.reduceNe, reduceCtorEq, decide_eq_true o8.1, k1, decide_eq_false o11, hdv]
              refine ⟨rfl, by simp, fun hd2 => ?_⟩
              have c := fun hp => rwith_calls h1 hd2 bv [t.name] (by simp only [List.length_cons, List.length_nil]; omega) hp
              simp only [strsAV, List.map_cons, List.map_nil] at c
              simp only [strsAV]
              refine callX_by (c _) ?_
              clear c
              rintro r hp2 ⟨hw, rfl, rfl⟩
              simp only [go_sem, Nat.reduceEqDiff, Nat.reduceAdd, Nat.reduceSub, Nat.reduceLT, Nat.reduceMul, Nat.reduceBEq, Nat.reduceLeDiff, ↓reduceIte, Int.reduceToNat, Nat.reduceGT, Int.reduceLE, Int.reduceLT, Int.reduceGE, Int.reduceGT, Int.reduceEq, Int.reduceNe, reduceCtorEq, decide_eq_false o11]
              have c := hrec a (by omega) hw h2 xa xb (bv ++ [t.name]) bl xs.1 xs.2 (by simp only [List.length_append, List.length_cons, List.length_nil]; omega) (by omega) (by omega) (by omega) (hp2.setSp ((9, 1, hd2) :: hp2.sp))
              simp only [strsAV, TermG.av, TermG.cs_eq] at c
              refine callX_by c ?_
              clear c
              rintro r hp2 ⟨⟨ha', hb', rfl⟩, rfl⟩
              simp only [go_sem, Nat.reduceEqDiff, Nat.reduceAdd, Nat.reduceSub, Nat.reduceLT, Nat.reduceMul, Nat.reduceBEq, Nat.reduceLeDiff, ↓reduceIte, Int.reduceToNat, Nat.reduceGT, Int.reduceLE, Int.reduceLT, Int.reduceGE, Int.reduceGT, Int.reduceEq, Int.reduceNe, reduceCtorEq, hwu]
              have hfl := frT_len a (hasB (bv ++ [t.name])) (hasB bl) xs
              exact ⟨(k + 1, ha', hb', frT (hasB (bv ++ [t.name])) (hasB bl) a xs), by simp only; omega, ⟨by simp only; omega, by rw [← hd, frA_drop ha]; simp only [ev, el], by simp only; omega, by simp only; omega⟩, le_mkSl rfl (Hp.le_addSp _ _) (by simp [go_sem, hwu, strsAV])⟩
            · by_cases o11 : t.op = 11 ∧ k = 0
              · have o8' : ¬ t.op = 8 := by omega
                have k1 : decide ((k : Int) = 0) = true := decide_eq_true (by omega)
                have ev : argV (hasB bv) t.op t.name k = hasB bv := by rw [argV, if_neg (by omega)]
                have el : argL0 (hasB bl) t.op t.name k = hasB (bl ++ [t.name]) := by rw [argL0, if_pos o11, has_snoc2]
                simp only [go_sem, Nat.reduceEqDiff, Nat.reduceAdd, Nat.reduceSub, Nat.reduceLT, Nat.reduceMul, Nat.reduceBEq, Nat.reduceLeDiff, ↓reduceIte, Int.reduceToNat, Nat.reduceGT, Int.reduceLE, Int.reduceLT, Int.reduceGE, Int.reduceGT, Int.reduceEq, Int.reduceNe, reduceCtorEq, decide_eq_true o11.1, k1, decide_eq_false o8', hdv]
                refine ⟨rfl, by simp, fun hd2 => ?_⟩
                have c := fun hp => rwith_calls h2 hd2 bl [t.name] (by simp only [List.length_cons, List.length_nil]; omega) hp
                simp only [strsAV, List.map_cons, List.map_nil] at c
                simp only [strsAV]
                refine callX_by (c _) ?_
                clear c
                rintro r hp2 ⟨hw, rfl, rfl⟩
                simp only [go_sem, Nat.reduceEqDiff, Nat.reduceAdd, Nat.reduceSub, Nat.reduceLT, Nat.reduceMul, Nat.reduceBEq, Nat.reduceLeDiff, ↓reduceIte, Int.reduceToNat, Nat.reduceGT, Int.reduceLE, Int.reduceLT, Int.reduceGE, Int.reduceGT, Int.reduceEq, Int.reduceNe, reduceCtorEq]
                have c := hrec a (by omega) h1 hw xa xb bv (bl ++ [t.name]) xs.1 xs.2 (by omega) (by simp only [List.length_append, List.length_cons, List.length_nil]; omega) (by omega) (by omega) (hp2.setSp ((9, 1, hd2) :: hp2.sp))
                simp only [strsAV, TermG.av, TermG.cs_eq] at c
                refine callX_by c ?_
                clear c
                rintro r hp2 ⟨⟨ha', hb', rfl⟩, rfl⟩
                simp only [go_sem, Nat.reduceEqDiff, Nat.reduceAdd, Nat.reduceSub, Nat.reduceLT, Nat.reduceMul, Nat.reduceBEq, Nat.reduceLeDiff, ↓reduceIte, Int.reduceToNat, Nat.reduceGT, Int.reduceLE, Int.reduceLT, Int.reduceGE, Int.reduceGT, Int.reduceEq, Int.reduceNe, reduceCtorEq, hwu]
                have hfl := frT_len a (hasB bv) (hasB (bl ++ [t.name])) xs
                exact ⟨(k + 1, ha', hb', frT (hasB bv) (hasB (bl ++ [t.name])) a xs), by simp only; omega, ⟨by simp only; omega, by rw [← hd, frA_drop ha]; simp only [ev, el], by simp only; omega, by simp only; omega⟩, le_mkSl rfl (Hp.le_addSp _ _) (by simp [go_sem, hwu, strsAV])⟩
              · have ev : argV (hasB bv) t.op t.name k = hasB bv := by rw [argV, if_neg (by omega)]
                have el : argL0 (hasB bl) t.op t.name k = hasB bl := by rw [argL0, if_neg (by omega)]
                have z8 : t.op = 8 → decide ((k : Int) = 1) = false := fun h => decide_eq_false (by omega)
                have z11 : t.op = 11 → decide ((k : Int) = 0) = false := fun h => decide_eq_false (by omega)
                by_cases q8 : t.op = 8
                · have q11 : ¬ t.op = 11 := by omega
                  simp only [go_sem, Nat.reduceEqDiff, Nat.reduceAdd, Nat.reduceSub, Nat.reduceLT, Nat.reduceMul, Nat.reduceBEq, Nat.reduceLeDiff, ↓reduceIte, Int.reduceToNat, Nat.reduceGT, Int.reduceLE, Int.reduceLT, Int.reduceGE, Int.reduceGT, Int.reduceEq, Int.reduceNe, reduceCtorEq, decide_eq_true q8, z8 q8, decide_eq_false q11, hdv]
                  have c := hrec a (by omega) h1 h2 xa xb bv bl xs.1 xs.2 (by omega) (by omega) (by omega) (by omega) (hp2)
                  simp only [strsAV, TermG.av, TermG.cs_eq] at c
                  refine callX_by c ?_
                  clear c
                  rintro r hp2 ⟨⟨ha', hb', rfl⟩, rfl⟩
                  simp only [go_sem, Nat.reduceEqDiff, Nat.reduceAdd, Nat.reduceSub, Nat.reduceLT, Nat.reduceMul, Nat.reduceBEq, Nat.reduceLeDiff, ↓reduceIte, Int.reduceToNat, Nat.reduceGT, Int.reduceLE, Int.reduceLT, Int.reduceGE, Int.reduceGT, Int.reduceEq, Int.reduceNe, reduceCtorEq, hwu]
                  have hfl := frT_len a (hasB bv) (hasB bl) xs
                  exact ⟨(k + 1, ha', hb', frT (hasB bv) (hasB bl) a xs), by simp only; omega, ⟨by simp only; omega, by rw [← hd, frA_drop ha]; simp only [ev, el], by simp only; omega, by simp only; omega⟩, le_mkSl rfl (Hp.le_refl _) (by simp [go_sem, hwu, strsAV])⟩
                · by_cases q11 : t.op = 11
                  · simp only [go_sem, Nat.reduceEqDiff, Nat.reduceAdd, Nat.reduceSub, Nat.reduceLT, Nat.reduceMul, Nat.reduceBEq, Nat.reduceLeDiff, ↓reduceIte, Int.reduceToNat, Nat.reduceGT, Int.reduceLE, Int.reduceLT, Int.reduceGE, Int.reduceGT, Int.reduceEq, Int.reduceNe, reduceCtorEq, decide_eq_true q11, z11 q11, decide_eq_false q8, hdv]
                    have c := hrec a (by omega) h1 h2 xa xb bv bl xs.1 xs.2 (by omega) (by omega) (by omega) (by omega) (hp2)
                    simp only [strsAV, TermG.av, TermG.cs_eq] at c
                    refine callX_by c ?_
                    clear c
                    rintro r hp2 ⟨⟨ha', hb', rfl⟩, rfl⟩
                    simp only [go_sem, Nat.reduceEqDiff, Nat.reduceAdd, Nat.reduceSub, Nat.reduceLT, Nat.reduceMul, Nat.reduceBEq, Nat.reduceLeDiff, ↓reduceIte, Int.reduceToNat, Nat.reduceGT, Int.reduceLE, Int.reduceLT, Int.reduceGE, Int.reduceGT, Int.reduceEq, Int.reduceNe, reduceCtorEq, hwu]
                    have hfl := frT_len a (hasB bv) (hasB bl) xs
                    exact ⟨(k + 1, ha', hb', frT (hasB bv) (hasB bl) a xs), by simp only; omega, ⟨by simp only; omega, by rw [← hd, frA_drop ha]; simp only [ev, el], by simp only; omega, by simp only; omega⟩, le_mkSl rfl (Hp.le_refl _) (by simp [go_sem, hwu, strsAV])⟩
                  · simp only [go_sem, Nat.reduceEqDiff, Nat.reduceAdd, Nat.reduceSub, Nat.reduceLT, Nat.reduceMul, Nat.reduceBEq, Nat.reduceLeDiff, ↓reduceIte, Int.reduceToNat, Nat.reduceGT, Int.reduceLE, Int.reduceLT, Int.reduceGE, Int.reduceGT, Int.reduceEq, Int.reduceNe, reduceCtorEq, decide_eq_false q11, decide_eq_false q8, hdv]
                    have c := hrec a (by omega) h1 h2 xa xb bv bl xs.1 xs.2 (by omega) (by omega) (by omega) (by omega) (hp2)
                    simp only [strsAV, TermG.av, TermG.cs_eq] at c
                    refine callX_by c ?_
                    clear c
                    rintro r hp2 ⟨⟨ha', hb', rfl⟩, rfl⟩
                    simp only [go_sem, Nat.reduceEqDiff, Nat.reduceAdd, Nat.reduceSub, Nat.reduceLT, Nat.reduceMul, Nat.reduceBEq, Nat.reduceLeDiff, ↓reduceIte, Int.reduceToNat, Nat.reduceGT, Int.reduceLE, Int.reduceLT, Int.reduceGE, Int.reduceGT, Int.reduceEq, Int.reduceNe, reduceCtorEq, hwu]
                    have hfl := frT_len a (hasB bv) (hasB bl) xs
                    exact ⟨(k + 1, ha', hb', frT (hasB bv) (hasB bl) a xs), by simp only; omega, ⟨by simp only; omega, by rw [← hd, frA_drop ha]; simp only [ev, el], by simp only; omega, by simp only; omega⟩, le_mkSl rfl (Hp.le_refl _) (by simp [go_sem, hwu, strsAV])⟩
          · have ek : k = t.args.length := by have := of_decide_eq_false b1; omega
            subst ek
            rw [List.drop_of_length_le (Nat.le_refl _), frA] at hd
            rw [List.drop_of_length_le (Nat.le_refl _), nodesA] at hx1 hx2
            rw [← hd] at hft
            clear hd
            skip
            refine aw_loopX 113 (fun x : Nat × Value × Value × SS => [(1, strsAV h1 bv), (2, strsAV h2 bl), (3, strsAV x.2.1 x.2.2.2.1), (4, strsAV x.2.2.1 x.2.2.2.2), (91, .lst 7 t.hc (t.cls.map ClauseG.av)), (92, .v (.int .i64 t.cls.length)), (93, .v (.int .i64 x.1))])
              (fun _ => hp2) (fun x => x.1 ≤ t.cls.length ∧ frC (hasB bv) (hasB bl) (t.cls.drop x.1) x.2.2.2 = frC (hasB bv) (hasB bl) t.cls xs ∧ x.2.2.2.1.length + nodesC (t.cls.drop x.1) ≤ vs.length + nodesT t ∧ x.2.2.2.2.length + nodesC (t.cls.drop x.1) ≤ ls.length + nodesT t) (fun x => t.cls.length - x.1) (0, xa, xb, xs)
              ⟨Nat.zero_le _, rfl, by simp only [List.drop_zero]; omega, by simp only [List.drop_zero]; omega⟩ (le_mkSl rfl (Hp.le_refl _) (by simp [go_sem, strsAV])) ?_
            rintro ⟨k, ya, yb, ys⟩ ⟨hk, hd, hx1, hx2⟩
            simp only at hk hd hx1 hx2
            refine awp_sound (mu := []) _ _ _ ?_
            simp only [go_sem, Nat.reduceEqDiff, Nat.reduceAdd, Nat.reduceSub, Nat.reduceLT, Nat.reduceMul, Nat.reduceBEq, Nat.reduceLeDiff, ↓reduceIte, Int.reduceToNat, Nat.reduceGT, Int.reduceLE, Int.reduceLT, Int.reduceGE, Int.reduceGT, Int.reduceEq, Int.reduceNe, reduceCtorEq]
            refine brK_mk (fun b1 => ?_) (fun b1 => ?_) <;> simp only [go_sem, Nat.reduceEqDiff, Nat.reduceAdd, Nat.reduceSub, Nat.reduceLT, Nat.reduceMul, Nat.reduceBEq, Nat.reduceLeDiff, ↓reduceIte, Int.reduceToNat, Nat.reduceGT, Int.reduceLE, Int.reduceLT, Int.reduceGE, Int.reduceGT, Int.reduceEq, Int.reduceNe, reduceCtorEq, b1]
            · have hk' : k < t.cls.length := by simpa using b1
              obtain ⟨c1, hc1⟩ := someAt t.cls k hk'
              have hmem := List.mem_of_getElem? hc1
              have hwu : IntKind.i64.wrap ((k : Int) + 1) = ((k + 1 : Nat) : Int) := IntWalk.i64_in _ (by omega)
              have hlt := cls_lt hmem
              have hnl := nmC_mem hmem
              rw [nmB_eq] at hnl
              have hnd := nodesC_drop hc1
              have hma := nodesC_mem hmem
              simp only [go_sem, Nat.reduceEqDiff, Nat.reduceAdd, Nat.reduceSub, Nat.reduceLT, Nat.reduceMul, Nat.reduceBEq, Nat.reduceLeDiff, ↓reduceIte, Int.reduceToNat, Nat.reduceGT, Int.reduceLE, Int.reduceLT, Int.reduceGE, Int.reduceGT, Int.reduceEq, Int.reduceNe, reduceCtorEq, mapAt ClauseG.av _ _ _ hc1, ClauseG.av, ClauseG.cs_eq]
              intro v hv
              have hdv := fun T cs => Hp.del_set _ _ T cs hv.1
              simp only [hdv]
              refine draw_by (mu := []) (fun _ => True) (.take 0 (.take 1 (.take 2 (.take 3 (.take 4 (.take 6 (.take 7 (.take 8 (.br 5 (.br 9 (.take 10 (.take 11 (.take 12 (.take 13 (.take 14 (.done)))))) (.stop)) (.stop)))))))))) (by decide +kernel) trivial (by decide +kernel) (by decide +kernel) ?_
              simp only [go_sem, Nat.reduceEqDiff, Nat.reduceAdd, Nat.reduceSub, Nat.reduceLT, Nat.reduceMul, Nat.reduceBEq, Nat.reduceLeDiff, ↓reduceIte, Int.reduceToNat, Nat.reduceGT, Int.reduceLE, Int.reduceLT, Int.reduceGE, Int.reduceGT, Int.reduceEq, Int.reduceNe, reduceCtorEq]
              have c := fun hp => rwith_calls h1 c1.hn bv c1.names (by omega) hp
              simp only [strsAV] at c
              simp only [strsAV]
              refine callX_by (c _) ?_
              clear c
              rintro r hp2 ⟨hw, rfl, rfl⟩
              simp only [go_sem, Nat.reduceEqDiff, Nat.reduceAdd, Nat.reduceSub, Nat.reduceLT, Nat.reduceMul, Nat.reduceBEq, Nat.reduceLeDiff, ↓reduceIte, Int.reduceToNat, Nat.reduceGT, Int.reduceLE, Int.reduceLT, Int.reduceGE, Int.reduceGT, Int.reduceEq, Int.reduceNe, reduceCtorEq]
              have c := hrec c1.body (by omega) hw h2 ya yb (bv ++ c1.names) bl ys.1 ys.2 (by rw [List.length_append]; omega) (by omega) (by omega) (by omega) hp2
              simp only [strsAV, TermG.av, TermG.cs_eq] at c
              refine callX_by c ?_
              clear c
              rintro r hp2 ⟨⟨ha', hb', rfl⟩, rfl⟩
              simp only [go_sem, Nat.reduceEqDiff, Nat.reduceAdd, Nat.reduceSub, Nat.reduceLT, Nat.reduceMul, Nat.reduceBEq, Nat.reduceLeDiff, ↓reduceIte, Int.reduceToNat, Nat.reduceGT, Int.reduceLE, Int.reduceLT, Int.reduceGE, Int.reduceGT, Int.reduceEq, Int.reduceNe, reduceCtorEq, hwu]
              have hfl := frT_len c1.body (hasB (bv ++ c1.names)) (hasB bl) ys
              exact ⟨(k + 1, ha', hb', frT (hasB (bv ++ c1.names)) (hasB bl) c1.body ys), by simp only; omega, ⟨by simp only; omega, by rw [← hd, frC_drop hc1, has_append2], by simp only; omega, by simp only; omega⟩, le_mkSl rfl (Hp.le_refl _) (by simp [go_sem, hwu, strsAV])⟩
            · have ek : k = t.cls.length := by have := of_decide_eq_false b1; omega
              subst ek
              rw [List.drop_of_length_le (Nat.le_refl _), frC] at hd
              rw [← hd] at hft
              exact ret_same ⟨⟨ya, yb, by rw [hft]⟩, rfl⟩
    · by_cases o12 : t.op = 12
      · simp only [go_sem, Nat.reduceEqDiff, Nat.reduceAdd, Nat.reduceSub, Nat.reduceLT, Nat.reduceMul, Nat.reduceBEq, Nat.reduceLeDiff, ↓reduceIte, Int.reduceToNat, Nat.reduceGT, Int.reduceLE, Int.reduceLT, Int.reduceGE, Int.reduceGT, Int.reduceEq, Int.reduceNe, reduceCtorEq, decide_eq_false o0, decide_eq_true o12]
        refine callX_by (in_calls h2 bl t.name hp) ?_
        rintro r hp1 ⟨rfl, rfl⟩
        simp only [go_sem, Nat.reduceEqDiff, Nat.reduceAdd, Nat.reduceSub, Nat.reduceLT, Nat.reduceMul, Nat.reduceBEq, Nat.reduceLeDiff, ↓reduceIte, Int.reduceToNat, Nat.reduceGT, Int.reduceLE, Int.reduceLT, Int.reduceGE, Int.reduceGT, Int.reduceEq, Int.reduceNe, reduceCtorEq, decide_eq_true o12]
        refine brK_mk (fun b1 => ?_) (fun b1 => ?_) <;> simp only [go_sem, Nat.reduceEqDiff, Nat.reduceAdd, Nat.reduceSub, Nat.reduceLT, Nat.reduceMul, Nat.reduceBEq, Nat.reduceLeDiff, ↓reduceIte, Int.reduceToNat, Nat.reduceGT, Int.reduceLE, Int.reduceLT, Int.reduceGE, Int.reduceGT, Int.reduceEq, Int.reduceNe, reduceCtorEq, b1]
        · obtain ⟨hA, hB, S0, e0, eS⟩ : ∃ hA hB S0, startS (hasB bv) (hasB bl) t.op t.name (vs, ls) = S0 ∧ (strsAV h3 vs = strsAV hA S0.1 ∧ strsAV h4 ls = strsAV hB S0.2) := ⟨h3, h4, _, rfl, by simp [startS, o12, b1]⟩
          simp only [eS.1, eS.2]
          rw [e0] at hst
          clear eS hS o12'
          have hft := frT_eq (hasB bv) (hasB bl) t (vs, ls)
          rw [e0] at hft
          have hst1 : S0.1.length ≤ vs.length + 1 := hst.1
          have hst2 : S0.2.length ≤ ls.length + 1 := hst.2
          refine aw_loopX 113 (fun x : Nat × Value × Value × SS => [(1, strsAV h1 bv), (2, strsAV h2 bl), (3, strsAV x.2.1 x.2.2.2.1), (4, strsAV x.2.2.1 x.2.2.2.2), (5, .ref q5 [.v (.int .i64 t.op), .v (.int .i64 t.n), .v (.string (bs t.name)), .v (.int .i64 t.ty), .lst 6 t.ha (t.args.map TermG.av), .lst 7 t.hc (t.cls.map ClauseG.av)]), (47, .lst 6 t.ha (t.args.map TermG.av)), (48, .v (.int .i64 t.args.length)), (49, .v (.int .i64 x.1))])
            (fun _ => hp1) (fun x => x.1 ≤ t.args.length ∧ frA (hasB bv) (hasB bl) t.op t.name x.1 (t.args.drop x.1) x.2.2.2 = frA (hasB bv) (hasB bl) t.op t.name 0 t.args S0 ∧ x.2.2.2.1.length + nodesA (t.args.drop x.1) ≤ vs.length + 1 + nodesA t.args ∧ x.2.2.2.2.length + nodesA (t.args.drop x.1) ≤ ls.length + 1 + nodesA t.args) (fun x => t.args.length - x.1) (0, hA, hB, S0)
            ⟨Nat.zero_le _, rfl, by simp only [List.drop_zero]; omega, by simp only [List.drop_zero]; omega⟩ (le_mkSl rfl (Hp.le_refl _) (by simp [go_sem])) ?_
          · rintro ⟨k, xa, xb, xs⟩ ⟨hk, hd, hx1, hx2⟩
            simp only at hk hd hx1 hx2
            refine awp_sound (mu := []) _ _ _ ?_
            simp only [go_sem, Nat.reduceEqDiff, Nat.reduceAdd, Nat.reduceSub, Nat.reduceLT, Nat.reduceMul, Nat.reduceBEq, Nat.reduceLeDiff, ↓reduceIte, Int.reduceToNat, Nat.reduceGT, Int.reduceLE, Int.reduceLT, Int.reduceGE, Int.reduceGT, Int.reduceEq, Int.reduceNe, reduceCtorEq]
            refine brK_mk (fun b1 => ?_) (fun b1 => ?_) <;> simp only [go_sem, Nat.reduceEqDiff, Nat.reduceAdd, Nat.reduceSub, Nat.reduceLT, Nat.reduceMul, Nat.reduceBEq, Nat.reduceLeDiff, ↓reduceIte, Int.reduceToNat, Nat.reduceGT, Int.reduceLE, Int.reduceLT, Int.reduceGE, Int.reduceGT, Int.reduceEq, Int.reduceNe, reduceCtorEq, b1]
            · have hk' : k < t.args.length := by simpa using b1
              obtain ⟨a, ha⟩ := someAt t.args k hk'
              have hmem := List.mem_of_getElem? ha
              have hwu : IntKind.i64.wrap ((k : Int) + 1) = ((k + 1 : Nat) : Int) := IntWalk.i64_in _ (by omega)
              have hlt := args_lt hmem
              have hnl := nmA_mem hmem
              have hnd := nodesA_drop ha
              have hma := nodesA_mem hmem
              simp only [go_sem, Nat.reduceEqDiff, Nat.reduceAdd, Nat.reduceSub, Nat.reduceLT, Nat.reduceMul, Nat.reduceBEq, Nat.reduceLeDiff, ↓reduceIte, Int.reduceToNat, Nat.reduceGT, Int.reduceLE, Int.reduceLT, Int.reduceGE, Int.reduceGT, Int.reduceEq, Int.reduceNe, reduceCtorEq, mapAt TermG.av _ _ _ ha, TermG.av, TermG.cs_eq]
              intro v hv
              have hdv := fun T cs => Hp.del_set _ _ T cs hv.1
              skip
              by_cases o8 : t.op = 8 ∧ k = 1
              · have o11 : ¬ t.op = 11 := by omega
                have k1 : decide ((k : Int) = 1) = true := decide_eq_true (by omega)
                have ev : argV (hasB bv) t.op t.name k = hasB (bv ++ [t.name]) := by rw [argV, if_pos o8, has_snoc2]
                have el : argL0 (hasB bl) t.op t.name k = hasB bl := by rw [argL0, if_neg (by omega)]
                simp only [go_sem, Nat.reduceEqDiff, Nat.reduceAdd, Nat.reduceSub, Nat.reduceLT, Nat.reduceMul, Nat.reduceBEq, Nat.reduceLeDiff, ↓reduceIte, Int.reduceToNat, Nat.reduceGT, Int.reduceLE, Int.reduceLT, Int.reduceGE, Int.reduceGT, Int.reduceEq, Int.reduceNe, reduceCtorEq, decide_eq_true o8.1, k1, decide_eq_false o11, hdv]
                refine ⟨rfl, by simp, fun hd2 => ?_⟩
                have c := fun hp => rwith_calls h1 hd2 bv [t.name] (by simp only [List.length_cons, List.length_nil]; omega) hp
                simp only [strsAV, List.map_cons, List.map_nil] at c
                simp only [strsAV]
                refine callX_by (c _) ?_
                clear c
                rintro r hp2 ⟨hw, rfl, rfl⟩
                simp only [go_sem, Nat.reduceEqDiff, Nat.reduceAdd, Nat.reduceSub, Nat.reduceLT, Nat.reduceMul, Nat.reduceBEq, Nat.reduceLeDiff, ↓reduceIte, Int.reduceToNat, Nat.reduceGT, Int.reduceLE, Int.reduceLT, Int.reduceGE, Int.reduceGT, Int.reduceEq, Int.reduceNe, reduceCtorEq, decide_eq_false o11]
                have c := hrec a (by omega) hw h2 xa xb (bv ++ [t.name]) bl xs.1 xs.2 (by simp only [List.length_append, List.length_cons, List.length_nil]; omega) (by omega) (by omega) (by omega) (hp1.setSp ((9, 1, hd2) :: hp1.sp))
                simp only [strsAV, TermG.av, TermG.cs_eq] at c
                refine callX_by c ?_
                clear c
                rintro r hp2 ⟨⟨ha', hb', rfl⟩, rfl⟩
                simp only [go_sem, Nat.reduceEqDiff, Nat.reduceAdd, Nat.reduceSub, Nat.reduceLT, Nat.reduceMul, Nat.reduceBEq, Nat.reduceLeDiff, ↓reduceIte, Int.reduceToNat, Nat.reduceGT, Int.reduceLE, Int.reduceLT, Int.reduceGE, Int.reduceGT, Int.reduceEq, Int.reduceNe, reduceCtorEq, hwu]
                have hfl := frT_len a (hasB (bv ++ [t.name])) (hasB bl) xs
                exact ⟨(k + 1, ha', hb', frT (hasB (bv ++ [t.name])) (hasB bl) a xs), by simp only; omega, ⟨by simp only; omega, by rw [← hd, frA_drop ha]; simp only [ev, el], by simp only; omega, by simp only; omega⟩, le_mkSl rfl (Hp.le_addSp _ _) (by simp [go_sem, hwu, strsAV])⟩
              · by_cases o11 : t.op = 11 ∧ k = 0
                · have o8' : ¬ t.op = 8 := by omega
                  have k1 : decide ((k : Int) = 0) = true := decide_eq_true (by omega)
                  have ev : argV (hasB bv) t.op t.name k = hasB bv := by rw [argV, if_neg (by omega)]
                  have el : argL0 (hasB bl) t.op t.name k = hasB (bl ++ [t.name]) := by rw [argL0, if_pos o11, has_snoc2]
                  simp only [go_sem, Nat.reduceEqDiff, Nat.reduceAdd, Nat.reduceSub, Nat.reduceLT, Nat.reduceMul, Nat.reduceBEq, Nat.reduceLeDiff, ↓reduceIte, Int.reduceToNat, Nat.reduceGT, Int.reduceLE, Int.reduceLT, Int.reduceGE, Int.reduceGT, Int.reduceEq, Int.reduceNe, reduceCtorEq, decide_eq_true o11.1, k1, decide_eq_false o8', hdv]
                  refine ⟨rfl, by simp, fun hd2 => ?_⟩
                  have c := fun hp => rwith_calls h2 hd2 bl [t.name] (by simp only [List.length_cons, List.length_nil]; omega) hp
                  simp only [strsAV, List.map_cons, List.map_nil] at c
                  simp only [strsAV]
                  refine callX_by (c _) ?_
                  clear c
                  rintro r hp2 ⟨hw, rfl, rfl⟩
                  simp only [go_sem, Nat.reduceEqDiff, Nat.reduceAdd, Nat.reduceSub, Nat.reduceLT, Nat.reduceMul, Nat.reduceBEq, Nat.reduceLeDiff, ↓reduceIte, Int.reduceToNat, Nat.reduceGT, Int.reduceLE, Int.reduceLT, Int.reduceGE, Int.reduceGT, Int.reduceEq, Int.reduceNe, reduceCtorEq]
                  have c := hrec a (by omega) h1 hw xa xb bv (bl ++ [t.name]) xs.1 xs.2 (by omega) (by simp only [List.length_append, List.length_cons, List.length_nil]; omega) (by omega) (by omega) (hp1.setSp ((9, 1, hd2) :: hp1.sp))
                  simp only [strsAV, TermG.av, TermG.cs_eq] at c
                  refine callX_by c ?_
                  clear c
                  rintro r hp2 ⟨⟨ha', hb', rfl⟩, rfl⟩
                  simp only [go_sem, Nat.reduceEqDiff, Nat.reduceAdd, Nat.reduceSub, Nat.reduceLT, Nat.reduceMul, Nat.reduceBEq, Nat.reduceLeDiff, ↓reduceIte, Int.reduceToNat, Nat.reduceGT, Int.reduceLE, Int.reduceLT, Int.reduceGE, Int.reduceGT, Int.reduceEq, Int.reduceNe, reduceCtorEq, hwu]
                  have hfl := frT_len a (hasB bv) (hasB (bl ++ [t.name])) xs
                  exact ⟨(k + 1, ha', hb', frT (hasB bv) (hasB (bl ++ [t.name])) a xs), by simp only; omega, ⟨by simp only; omega, by rw [← hd, frA_drop ha]; simp only [ev, el], by simp only; omega, by simp only; omega⟩, le_mkSl rfl (Hp.le_addSp _ _) (by simp [go_sem, hwu, strsAV])⟩
                · have ev : argV (hasB bv) t.op t.name k = hasB bv := by rw [argV, if_neg (by omega)]
                  have el : argL0 (hasB bl) t.op t.name k = hasB bl := by rw [argL0, if_neg (by omega)]
                  have z8 : t.op = 8 → decide ((k : Int) = 1) = false := fun h => decide_eq_false (by omega)
                  have z11 : t.op = 11 → decide ((k : Int) = 0) = false := fun h => decide_eq_false (by omega)
                  by_cases q8 : t.op = 8
                  · have q11 : ¬ t.op = 11 := by omega
                    simp only [go_sem, Nat.reduceEqDiff, Nat.reduceAdd, Nat.reduceSub, Nat.reduceLT, Nat.reduceMul, Nat.reduceBEq, Nat.reduceLeDiff, ↓reduceIte, Int.reduceToNat, Nat.reduceGT, Int.reduceLE, Int.reduceLT, Int.reduceGE, Int.reduceGT, Int.reduceEq, Int.reduceNe, reduceCtorEq, decide_eq_true q8, z8 q8, decide_eq_false q11, hdv]
                    have c := hrec a (by omega) h1 h2 xa xb bv bl xs.1 xs.2 (by omega) (by omega) (by omega) (by omega) (hp1)
                    simp only [strsAV, TermG.av, TermG.cs_eq] at c
                    refine callX_by c ?_
                    clear c
                    rintro r hp2 ⟨⟨ha', hb', rfl⟩, rfl⟩
                    simp only [go_sem, Nat.reduceEqDiff, Nat.reduceAdd, Nat.reduceSub, Nat.reduceLT, Nat.reduceMul, Nat.reduceBEq, Nat.reduceLeDiff, ↓reduceIte, Int.reduceToNat, Nat.reduceGT, Int.reduceLE, Int.reduceLT, Int.reduceGE, Int.reduceGT, Int.reduceEq, Int.reduceNe, reduceCtorEq, hwu]
                    have hfl := frT_len a (hasB bv) (hasB bl) xs
                    exact ⟨(k + 1, ha', hb', frT (hasB bv) (hasB bl) a xs), by simp only; omega, ⟨by simp only; omega, by rw [← hd, frA_drop ha]; simp only [ev, el], by simp only; omega, by simp only; omega⟩, le_mkSl rfl (Hp.le_refl _) (by simp [go_sem, hwu, strsAV])⟩
                  · by_cases q11 : t.op = 11
                    · simp only [go_sem, Nat.reduceEqDiff, Nat.reduceAdd, Nat.reduceSub, Nat.reduceLT, Nat.reduceMul, Nat.reduceBEq, Nat.reduceLeDiff, ↓reduceIte, Int.reduceToNat, Nat.reduceGT, Int.reduceLE, Int.reduceLT, Int.reduceGE, Int.reduceGT, Int.reduceEq, Int.reduceNe, reduceCtorEq, decide_eq_true q11, z11 q11, decide_eq_false q8, hdv]
                      have c := hrec a (by omega) h1 h2 xa xb bv bl xs.1 xs.2 (by omega) (by omega) (by omega) (by omega) (hp1)
                      simp only [strsAV, TermG.av, TermG.cs_eq] at c
                      refine callX_by c ?_
                      clear c
                      rintro r hp2 ⟨⟨ha', hb', rfl⟩, rfl⟩
                      simp only [go_sem, Nat.reduceEqDiff, Nat.reduceAdd, Nat.reduceSub, Nat.reduceLT, Nat.reduceMul, Nat.reduceBEq, Nat.reduceLeDiff, ↓reduceIte, Int.reduceToNat, Nat.reduceGT, Int.reduceLE, Int.reduceLT, Int.reduceGE, Int.reduceGT, Int.reduceEq, Int.reduceNe, reduceCtorEq, hwu]
                      have hfl := frT_len a (hasB bv) (hasB bl) xs
                      exact ⟨(k + 1, ha', hb', frT (hasB bv) (hasB bl) a xs), by simp only; omega, ⟨by simp only; omega, by rw [← hd, frA_drop ha]; simp only [ev, el], by simp only; omega, by simp only; omega⟩, le_mkSl rfl (Hp.le_refl _) (by simp [go_sem, hwu, strsAV])⟩
                    · simp only [go_sem, Nat.reduceEqDiff, Nat.reduceAdd, Nat.reduceSub, Nat.reduceLT, Nat.reduceMul, Nat.reduceBEq, Nat.reduceLeDiff, ↓reduceIte, Int.reduceToNat, Nat.reduceGT, Int.reduceLE, Int.reduceLT, Int.reduceGE, Int.reduceGT, Int.reduceEq, Int.reduceNe, reduceCtorEq, decide_eq_false q11, decide_eq_false q8, hdv]
                      have c := hrec a (by omega) h1 h2 xa xb bv bl xs.1 xs.2 (by omega) (by omega) (by omega) (by omega) (hp1)
                      simp only [strsAV, TermG.av, TermG.cs_eq] at c
                      refine callX_by c ?_
                      clear c
                      rintro r hp2 ⟨⟨ha', hb', rfl⟩, rfl⟩
                      simp only [go_sem, Nat.reduceEqDiff, Nat.reduceAdd, Nat.reduceSub, Nat.reduceLT, Nat.reduceMul, Nat.reduceBEq, Nat.reduceLeDiff, ↓reduceIte, Int.reduceToNat, Nat.reduceGT, Int.reduceLE, Int.reduceLT, Int.reduceGE, Int.reduceGT, Int.reduceEq, Int.reduceNe, reduceCtorEq, hwu]
                      have hfl := frT_len a (hasB bv) (hasB bl) xs
                      exact ⟨(k + 1, ha', hb', frT (hasB bv) (hasB bl) a xs), by simp only; omega, ⟨by simp only; omega, by rw [← hd, frA_drop ha]; simp only [ev, el], by simp only; omega, by simp only; omega⟩, le_mkSl rfl (Hp.le_refl _) (by simp [go_sem, hwu, strsAV])⟩
            · have ek : k = t.args.length := by have := of_decide_eq_false b1; omega
              subst ek
              rw [List.drop_of_length_le (Nat.le_refl _), frA] at hd
              rw [List.drop_of_length_le (Nat.le_refl _), nodesA] at hx1 hx2
              rw [← hd] at hft
              clear hd
              skip
              refine aw_loopX 113 (fun x : Nat × Value × Value × SS => [(1, strsAV h1 bv), (2, strsAV h2 bl), (3, strsAV x.2.1 x.2.2.2.1), (4, strsAV x.2.2.1 x.2.2.2.2), (91, .lst 7 t.hc (t.cls.map ClauseG.av)), (92, .v (.int .i64 t.cls.length)), (93, .v (.int .i64 x.1))])
                (fun _ => hp1) (fun x => x.1 ≤ t.cls.length ∧ frC (hasB bv) (hasB bl) (t.cls.drop x.1) x.2.2.2 = frC (hasB bv) (hasB bl) t.cls xs ∧ x.2.2.2.1.length + nodesC (t.cls.drop x.1) ≤ vs.length + nodesT t ∧ x.2.2.2.2.length + nodesC (t.cls.drop x.1) ≤ ls.length + nodesT t) (fun x => t.cls.length - x.1) (0, xa, xb, xs)
                ⟨Nat.zero_le _, rfl, by simp only [List.drop_zero]; omega, by simp only [List.drop_zero]; omega⟩ (le_mkSl rfl (Hp.le_refl _) (by simp [go_sem, strsAV])) ?_
              rintro ⟨k, ya, yb, ys⟩ ⟨hk, hd, hx1, hx2⟩
              simp only at hk hd hx1 hx2
              refine awp_sound (mu := []) _ _ _ ?_
              simp only [go_sem, Nat.reduceEqDiff, Nat.reduceAdd, Nat.reduceSub, Nat.reduceLT, Nat.reduceMul, Nat.reduceBEq, Nat.reduceLeDiff, ↓reduceIte, Int.reduceToNat, Nat.reduceGT, Int.reduceLE, Int.reduceLT, Int.reduceGE, Int.reduceGT, Int.reduceEq, Int.reduceNe, reduceCtorEq]
              refine brK_mk (fun b1 => ?_) (fun b1 => ?_) <;> simp only [go_sem, Nat.reduceEqDiff, Nat.reduceAdd, Nat.reduceSub, Nat.reduceLT, Nat.reduceMul, Nat.reduceBEq, Nat.reduceLeDiff, ↓reduceIte, Int.reduceToNat, Nat.reduceGT, Int.reduceLE, Int.reduceLT, Int.reduceGE, Int.reduceGT, Int.reduceEq, Int.reduceNe, reduceCtorEq, b1]
              · have hk' : k < t.cls.length := by simpa using b1
                obtain ⟨c1, hc1⟩ := someAt t.cls k hk'
                have hmem := List.mem_of_getElem? hc1
                have hwu : IntKind.i64.wrap ((k : Int) + 1) = ((k + 1 : Nat) : Int) := IntWalk.i64_in _ (by omega)
                have hlt := cls_lt hmem
                have hnl := nmC_mem hmem
                rw [nmB_eq] at hnl
                have hnd := nodesC_drop hc1
                have hma := nodesC_mem hmem
                simp only [go_sem, Nat.reduceEqDiff, Nat.reduceAdd, Nat.reduceSub, Nat.reduceLT, Nat.reduceMul, Nat.reduceBEq, Nat.reduceLeDiff, ↓reduceIte, Int.reduceToNat, Nat.reduceGT, Int.reduceLE, Int.reduceLT, Int.reduceGE, Int.reduceGT, Int.reduceEq, Int.reduceNe, reduceCtorEq, mapAt ClauseG.av _ _ _ hc1, ClauseG.av, ClauseG.cs_eq]
                intro v hv
                have hdv := fun T cs => Hp.del_set _ _ T cs hv.1
                simp only [hdv]
                refine draw_by (mu := []) (fun _ => True) (.take 0 (.take 1 (.take 2 (.take 3 (.take 4 (.take 6 (.take 7 (.take 8 (.br 5 (.br 9 (.take 10 (.take 11 (.take 12 (.take 13 (.take 14 (.done)))))) (.stop)) (.stop)))))))))) (by decide +kernel) trivial (by decide +kernel) (by decide +kernel) ?_
                simp only [go_sem, Nat.reduceEqDiff, Nat.reduceAdd, Nat.reduceSub, Nat.reduceLT, Nat.reduceMul, Nat.reduceBEq, Nat.reduceLeDiff, ↓reduceIte, Int.reduceToNat, Nat.reduceGT, Int.reduceLE, Int.reduceLT, Int.reduceGE, Int.reduceGT, Int.reduceEq, Int.reduceNe, reduceCtorEq]
                have c := fun hp => rwith_calls h1 c1.hn bv c1.names (by omega) hp
                simp only [strsAV] at c
                simp only [strsAV]
                refine callX_by (c _) ?_
                clear c
                rintro r hp2 ⟨hw, rfl, rfl⟩
                simp only [go_sem, Nat.reduceEqDiff, Nat.reduceAdd, Nat.reduceSub, Nat.reduceLT, Nat.reduceMul, Nat.reduceBEq, Nat.reduceLeDiff, ↓reduceIte, Int.reduceToNat, Nat.reduceGT, Int.reduceLE, Int.reduceLT, Int.reduceGE, Int.reduceGT, Int.reduceEq, Int.reduceNe, reduceCtorEq]
                have c := hrec c1.body (by omega) hw h2 ya yb (bv ++ c1.names) bl ys.1 ys.2 (by rw [List.length_append]; omega) (by omega) (by omega) (by omega) hp2
                simp only [strsAV, TermG.av, TermG.cs_eq] at c
                refine callX_by c ?_
                clear c
                rintro r hp2 ⟨⟨ha', hb', rfl⟩, rfl⟩
                simp only [go_sem, Nat.reduceEqDiff, Nat.reduceAdd, Nat.reduceSub, Nat.reduceLT, Nat.reduceMul, Nat.reduceBEq, Nat.reduceLeDiff, ↓reduceIte, Int.reduceToNat, Nat.reduceGT, Int.reduceLE, Int.reduceLT, Int.reduceGE, Int.reduceGT, Int.reduceEq, Int.reduceNe, reduceCtorEq, hwu]
                have hfl := frT_len c1.body (hasB (bv ++ c1.names)) (hasB bl) ys
                exact ⟨(k + 1, ha', hb', frT (hasB (bv ++ c1.names)) (hasB bl) c1.body ys), by simp only; omega, ⟨by simp only; omega, by rw [← hd, frC_drop hc1, has_append2], by simp only; omega, by simp only; omega⟩, le_mkSl rfl (Hp.le_refl _) (by simp [go_sem, hwu, strsAV])⟩
              · have ek : k = t.cls.length := by have := of_decide_eq_false b1; omega
                subst ek
                rw [List.drop_of_length_le (Nat.le_refl _), frC] at hd
                rw [← hd] at hft
                exact ret_same ⟨⟨ya, yb, by rw [hft]⟩, rfl⟩
        · have c := rinsert_calls h4 ls t.name (by omega) hp1
          refine callX_by c ?_
          rintro r hp2 ⟨h4', rfl, rfl⟩
          simp only [go_sem, Nat.reduceEqDiff, Nat.reduceAdd, Nat.reduceSub, Nat.reduceLT, Nat.reduceMul, Nat.reduceBEq, Nat.reduceLeDiff, ↓reduceIte, Int.reduceToNat, Nat.reduceGT, Int.reduceLE, Int.reduceLT, Int.reduceGE, Int.reduceGT, Int.reduceEq, Int.reduceNe, reduceCtorEq]
          obtain ⟨hA, hB, S0, e0, eS⟩ : ∃ hA hB S0, startS (hasB bv) (hasB bl) t.op t.name (vs, ls) = S0 ∧ (strsAV h3 vs = strsAV hA S0.1 ∧ strsAV h4' (insS ls t.name) = strsAV hB S0.2) := ⟨h3, h4', _, rfl, by simp [startS, o12, b1]⟩
          simp only [eS.1, eS.2]
          rw [e0] at hst
          clear eS hS o12'
          have hft := frT_eq (hasB bv) (hasB bl) t (vs, ls)
          rw [e0] at hft
          have hst1 : S0.1.length ≤ vs.length + 1 := hst.1
          have hst2 : S0.2.length ≤ ls.length + 1 := hst.2
          refine aw_loopX 113 (fun x : Nat × Value × Value × SS => [(1, strsAV h1 bv), (2, strsAV h2 bl), (3, strsAV x.2.1 x.2.2.2.1), (4, strsAV x.2.2.1 x.2.2.2.2), (5, .ref q5 [.v (.int .i64 t.op), .v (.int .i64 t.n), .v (.string (bs t.name)), .v (.int .i64 t.ty), .lst 6 t.ha (t.args.map TermG.av), .lst 7 t.hc (t.cls.map ClauseG.av)]), (47, .lst 6 t.ha (t.args.map TermG.av)), (48, .v (.int .i64 t.args.length)), (49, .v (.int .i64 x.1))])
            (fun _ => hp2) (fun x => x.1 ≤ t.args.length ∧ frA (hasB bv) (hasB bl) t.op t.name x.1 (t.args.drop x.1) x.2.2.2 = frA (hasB bv) (hasB bl) t.op t.name 0 t.args S0 ∧ x.2.2.2.1.length + nodesA (t.args.drop x.1) ≤ vs.length + 1 + nodesA t.args ∧ x.2.2.2.2.length + nodesA (t.args.drop x.1) ≤ ls.length + 1 + nodesA t.args) (fun x => t.args.length - x.1) (0, hA, hB, S0)
            ⟨Nat.zero_le _, rfl, by simp only [List.drop_zero]; omega, by simp only [List.drop_zero]; omega⟩ (le_mkSl rfl (Hp.le_refl _) (by simp [go_sem])) ?_
          · rintro ⟨k, xa, xb, xs⟩ ⟨hk, hd, hx1, hx2⟩
            simp only at hk hd hx1 hx2
            refine awp_sound (mu := []) _ _ _ ?_
            simp only [go_sem, Nat.reduceEqDiff, Nat.reduceAdd, Nat.reduceSub, Nat.reduceLT, Nat.reduceMul, Nat.reduceBEq, Nat.reduceLeDiff, ↓reduceIte, Int.reduceToNat, Nat.reduceGT, Int.reduceLE, Int.reduceLT, Int.reduceGE, Int.reduceGT, Int.reduceEq, Int.reduceNe, reduceCtorEq]
            refine brK_mk (fun b1 => ?_) (fun b1 => ?_) <;> simp only [go_sem, Nat.reduceEqDiff, Nat.reduceAdd, Nat.reduceSub, Nat.reduceLT, Nat.reduceMul, Nat.reduceBEq, Nat.reduceLeDiff, ↓reduceIte, Int.reduceToNat, Nat.reduceGT, Int.reduceLE, Int.reduceLT, Int.reduceGE, Int.reduceGT, Int.reduceEq, Int.reduceNe, reduceCtorEq, b1]
            · have hk' : k < t.args.length := by simpa using b1
              obtain ⟨a, ha⟩ := someAt t.args k hk'
              have hmem := List.mem_of_getElem? ha
              have hwu : IntKind.i64.wrap ((k : Int) + 1) = ((k + 1 : Nat) : Int) := IntWalk.i64_in _ (by omega)
              have hlt := args_lt hmem
              have hnl := nmA_mem hmem
              have hnd := nodesA_drop ha
              have hma := nodesA_mem hmem
              simp only [go_sem, Nat.reduceEqDiff, Nat.reduceAdd, Nat.reduceSub, Nat.reduceLT, Nat.reduceMul, Nat.reduceBEq, Nat.reduceLeDiff, ↓reduceIte, Int.reduceToNat, Nat.reduceGT, Int.reduceLE, Int.reduceLT, Int.reduceGE, Int.reduceGT, Int.reduceEq, Int.reduceNe, reduceCtorEq, mapAt TermG.av _ _ _ ha, TermG.av, TermG.cs_eq]
              intro v hv
              have hdv := fun T cs => Hp.del_set _ _ T cs hv.1
              skip
              by_cases o8 : t.op = 8 ∧ k = 1
              · have o11 : ¬ t.op = 11 := by omega
                have k1 : decide ((k : Int) = 1) = true := decide_eq_true (by omega)
                have ev : argV (hasB bv) t.op t.name k = hasB (bv ++ [t.name]) := by rw [argV, if_pos o8, has_snoc2]
                have el : argL0 (hasB bl) t.op t.name k = hasB bl := by rw [argL0, if_neg (by omega)]
                simp only [go_sem, Nat.reduceEqDiff, Nat.reduceAdd, Nat.reduceSub, Nat.reduceLT, Nat.reduceMul, Nat.reduceBEq, Nat.reduceLeDiff, ↓reduceIte, Int.reduceToNat, Nat.reduceGT, Int.reduceLE, Int.reduceLT, Int.reduceGE, Int.reduceGT, Int.reduceEq, Int.reduceNe, reduceCtorEq, decide_eq_true o8.1, k1, decide_eq_false o11, hdv]
                refine ⟨rfl, by simp, fun hd2 => ?_⟩
                have c := fun hp => rwith_calls h1 hd2 bv [t.name] (by simp only [List.length_cons, List.length_nil]; omega) hp
                simp only [strsAV, List.map_cons, List.map_nil] at c
                simp only [strsAV]
                refine callX_by (c _) ?_
                clear c
                rintro r hp2 ⟨hw, rfl, rfl⟩
                simp only [go_sem, Nat.reduceEqDiff, Nat.reduceAdd, Nat.reduceSub, Nat.reduceLT, Nat.reduceMul, Nat.reduceBEq, Nat.reduceLeDiff, ↓reduceIte, Int.reduceToNat, Nat.reduceGT, Int.reduceLE, Int.reduceLT, Int.reduceGE, Int.reduceGT, Int.reduceEq, Int.reduceNe, reduceCtorEq, decide_eq_false o11]
                have c := hrec a (by omega) hw h2 xa xb (bv ++ [t.name]) bl xs.1 xs.2 (by simp only [List.length_append, List.length_cons, List.length_nil]; omega) (by omega) (by omega) (by omega) (hp2.setSp ((9, 1, hd2) :: hp2.sp))
                simp only [strsAV, TermG.av, TermG.cs_eq] at c
                refine callX_by c ?_
                clear c
                rintro r hp2 ⟨⟨ha', hb', rfl⟩, rfl⟩
                simp only [go_sem, Nat.reduceEqDiff, Nat.reduceAdd, Nat.reduceSub, Nat.reduceLT, Nat.reduceMul, Nat.reduceBEq, Nat.reduceLeDiff, ↓reduceIte, Int.reduceToNat, Nat.reduceGT, Int.reduceLE, Int.reduceLT, Int.reduceGE, Int.reduceGT, Int.reduceEq, Int.reduceNe, reduceCtorEq, hwu]
                have hfl := frT_len a (hasB (bv ++ [t.name])) (hasB bl) xs
                exact ⟨(k + 1, ha', hb', frT (hasB (bv ++ [t.name])) (hasB bl) a xs), by simp only; omega, ⟨by simp only; omega, by rw [← hd, frA_drop ha]; simp only [ev, el], by simp only; omega, by simp only; omega⟩, le_mkSl rfl (Hp.le_addSp _ _) (by simp [go_sem, hwu, strsAV])⟩
              · by_cases o11 : t.op = 11 ∧ k = 0
                · have o8' : ¬ t.op = 8 := by omega
                  have k1 : decide ((k : Int) = 0) = true := decide_eq_true (by omega)
                  have ev : argV (hasB bv) t.op t.name k = hasB bv := by rw [argV, if_neg (by omega)]
                  have el : argL0 (hasB bl) t.op t.name k = hasB (bl ++ [t.name]) := by rw [argL0, if_pos o11, has_snoc2]
                  simp only [go_sem, Nat.reduceEqDiff, Nat.reduceAdd, Nat.reduceSub, Nat.reduceLT, Nat.reduceMul, Nat.reduceBEq, Nat.reduceLeDiff, ↓reduceIte, Int.reduceToNat, Nat.reduceGT, Int.reduceLE, Int.reduceLT, Int.reduceGE, Int.reduceGT, Int.reduceEq, Int.reduceNe, reduceCtorEq, decide_eq_true o11.1, k1, decide_eq_false o8', hdv]
                  refine ⟨rfl, by simp, fun hd2 => ?_⟩
                  have c := fun hp => rwith_calls h2 hd2 bl [t.name] (by simp only [List.length_cons, List.length_nil]; omega) hp
                  simp only [strsAV, List.map_cons, List.map_nil] at c
                  simp only [strsAV]
                  refine callX_by (c _) ?_
                  clear c
                  rintro r hp2 ⟨hw, rfl, rfl⟩
                  simp only [go_sem, Nat.reduceEqDiff, Nat.reduceAdd, Nat.reduceSub, Nat.reduceLT, Nat.reduceMul, Nat.reduceBEq, Nat.reduceLeDiff, ↓reduceIte, Int.reduceToNat, Nat.reduceGT, Int.reduceLE, Int.reduceLT, Int.reduceGE, Int.reduceGT, Int.reduceEq, Int.reduceNe, reduceCtorEq]
                  have c := hrec a (by omega) h1 hw xa xb bv (bl ++ [t.name]) xs.1 xs.2 (by omega) (by simp only [List.length_append, List.length_cons, List.length_nil]; omega) (by omega) (by omega) (hp2.setSp ((9, 1, hd2) :: hp2.sp))
                  simp only [strsAV, TermG.av, TermG.cs_eq] at c
                  refine callX_by c ?_
                  clear c
                  rintro r hp2 ⟨⟨ha', hb', rfl⟩, rfl⟩
                  simp only [go_sem, Nat.reduceEqDiff, Nat.reduceAdd, Nat.reduceSub, Nat.reduceLT, Nat.reduceMul, Nat.reduceBEq, Nat.reduceLeDiff, ↓reduceIte, Int.reduceToNat, Nat.reduceGT, Int.reduceLE, Int.reduceLT, Int.reduceGE, Int.reduceGT, Int.reduceEq, Int.reduceNe, reduceCtorEq, hwu]
                  have hfl := frT_len a (hasB bv) (hasB (bl ++ [t.name])) xs
                  exact ⟨(k + 1, ha', hb', frT (hasB bv) (hasB (bl ++ [t.name])) a xs), by simp only; omega, ⟨by simp only; omega, by rw [← hd, frA_drop ha]; simp only [ev, el], by simp only; omega, by simp only; omega⟩, le_mkSl rfl (Hp.le_addSp _ _) (by simp [go_sem, hwu, strsAV])⟩
                · have ev : argV (hasB bv) t.op t.name k = hasB bv := by rw [argV, if_neg (by omega)]
                  have el : argL0 (hasB bl) t.op t.name k = hasB bl := by rw [argL0, if_neg (by omega)]
                  have z8 : t.op = 8 → decide ((k : Int) = 1) = false := fun h => decide_eq_false (by omega)
                  have z11 : t.op = 11 → decide ((k : Int) = 0) = false := fun h => decide_eq_false (by omega)
                  by_cases q8 : t.op = 8
                  · have q11 : ¬ t.op = 11 := by omega
                    simp only [go_sem, Nat.reduceEqDiff, Nat.reduceAdd, Nat.reduceSub, Nat.reduceLT, Nat.reduceMul, Nat.reduceBEq, Nat.reduceLeDiff, ↓reduceIte, Int.reduceToNat, Nat.reduceGT, Int.reduceLE, Int.reduceLT, Int.reduceGE, Int.reduceGT, Int.reduceEq, Int.reduceNe, reduceCtorEq, decide_eq_true q8, z8 q8, decide_eq_false q11, hdv]
                    have c := hrec a (by omega) h1 h2 xa xb bv bl xs.1 xs.2 (by omega) (by omega) (by omega) (by omega) (hp2)
                    simp only [strsAV, TermG.av, TermG.cs_eq] at c
                    refine callX_by c ?_
                    clear c
                    rintro r hp2 ⟨⟨ha', hb', rfl⟩, rfl⟩
                    simp only [go_sem, Nat.reduceEqDiff, Nat.reduceAdd, Nat.reduceSub, Nat.reduceLT, Nat.reduceMul, Nat.reduceBEq, Nat.reduceLeDiff, ↓reduceIte, Int.reduceToNat, Nat.reduceGT, Int.reduceLE, Int.reduceLT, Int.reduceGE, Int.reduceGT, Int.reduceEq, Int.reduceNe, reduceCtorEq, hwu]
                    have hfl := frT_len a (hasB bv) (hasB bl) xs
                    exact ⟨(k + 1, ha', hb', frT (hasB bv) (hasB bl) a xs), by simp only; omega, ⟨by simp only; omega, by rw [← hd, frA_drop ha]; simp only [ev, el], by simp only; omega, by simp only; omega⟩, le_mkSl rfl (Hp.le_refl _) (by simp [go_sem, hwu, strsAV])⟩
                  · by_cases q11 : t.op = 11
                    · simp only [go_sem, Nat.reduceEqDiff, Nat.reduceAdd, Nat.reduceSub, Nat.reduceLT, Nat.reduceMul, Nat.reduceBEq, Nat.reduceLeDiff, ↓reduceIte, Int.reduceToNat, Nat.reduceGT, Int.reduceLE, Int.reduceLT, Int.reduceGE, Int.reduceGT, Int.reduceEq, Int.reduceNe, reduceCtorEq, decide_eq_true q11, z11 q11, decide_eq_false q8, hdv]
                      have c := hrec a (by omega) h1 h2 xa xb bv bl xs.1 xs.2 (by omega) (by omega) (by omega) (by omega) (hp2)
                      simp only [strsAV, TermG.av, TermG.cs_eq] at c
                      refine callX_by c ?_
                      clear c
                      rintro r hp2 ⟨⟨ha', hb', rfl⟩, rfl⟩
                      simp only [go_sem, Nat.reduceEqDiff, Nat.reduceAdd, Nat.reduceSub, Nat.reduceLT, Nat.reduceMul, Nat.reduceBEq, Nat.reduceLeDiff, ↓reduceIte, Int.reduceToNat, Nat.reduceGT, Int.reduceLE, Int.reduceLT, Int.reduceGE, Int.reduceGT, Int.reduceEq, Int.reduceNe, reduceCtorEq, hwu]
                      have hfl := frT_len a (hasB bv) (hasB bl) xs
                      exact ⟨(k + 1, ha', hb', frT (hasB bv) (hasB bl) a xs), by simp only; omega, ⟨by simp only; omega, by rw [← hd, frA_drop ha]; simp only [ev, el], by simp only; omega, by simp only; omega⟩, le_mkSl rfl (Hp.le_refl _) (by simp [go_sem, hwu, strsAV])⟩
                    · simp only [go_sem, Nat.reduceEqDiff, Nat.reduceAdd, Nat.reduceSub, Nat.reduceLT, Nat.reduceMul, Nat.reduceBEq, Nat.reduceLeDiff, ↓reduceIte, Int.reduceToNat, Nat.reduceGT, Int.reduceLE, Int.reduceLT, Int.reduceGE, Int.reduceGT, Int.reduceEq, Int.reduceNe, reduceCtorEq, decide_eq_false q11, decide_eq_false q8, hdv]
                      have c := hrec a (by omega) h1 h2 xa xb bv bl xs.1 xs.2 (by omega) (by omega) (by omega) (by omega) (hp2)
                      simp only [strsAV, TermG.av, TermG.cs_eq] at c
                      refine callX_by c ?_
                      clear c
                      rintro r hp2 ⟨⟨ha', hb', rfl⟩, rfl⟩
                      simp only [go_sem, Nat.reduceEqDiff, Nat.reduceAdd, Nat.reduceSub, Nat.reduceLT, Nat.reduceMul, Nat.reduceBEq, Nat.reduceLeDiff, ↓reduceIte, Int.reduceToNat, Nat.reduceGT, Int.reduceLE, Int.reduceLT, Int.reduceGE, Int.reduceGT, Int.reduceEq, Int.reduceNe, reduceCtorEq, hwu]
                      have hfl := frT_len a (hasB bv) (hasB bl) xs
                      exact ⟨(k + 1, ha', hb', frT (hasB bv) (hasB bl) a xs), by simp only; omega, ⟨by simp only; omega, by rw [← hd, frA_drop ha]; simp only [ev, el], by simp only; omega, by simp only; omega⟩, le_mkSl rfl (Hp.le_refl _) (by simp [go_sem, hwu, strsAV])⟩
            · have ek : k = t.args.length := by have := of_decide_eq_false b1; omega
              subst ek
              rw [List.drop_of_length_le (Nat.le_refl _), frA] at hd
              rw [List.drop_of_length_le (Nat.le_refl _), nodesA] at hx1 hx2
              rw [← hd] at hft
              clear hd
              skip
              refine aw_loopX 113 (fun x : Nat × Value × Value × SS => [(1, strsAV h1 bv), (2, strsAV h2 bl), (3, strsAV x.2.1 x.2.2.2.1), (4, strsAV x.2.2.1 x.2.2.2.2), (91, .lst 7 t.hc (t.cls.map ClauseG.av)), (92, .v (.int .i64 t.cls.length)), (93, .v (.int .i64 x.1))])
                (fun _ => hp2) (fun x => x.1 ≤ t.cls.length ∧ frC (hasB bv) (hasB bl) (t.cls.drop x.1) x.2.2.2 = frC (hasB bv) (hasB bl) t.cls xs ∧ x.2.2.2.1.length + nodesC (t.cls.drop x.1) ≤ vs.length + nodesT t ∧ x.2.2.2.2.length + nodesC (t.cls.drop x.1) ≤ ls.length + nodesT t) (fun x => t.cls.length - x.1) (0, xa, xb, xs)
                ⟨Nat.zero_le _, rfl, by simp only [List.drop_zero]; omega, by simp only [List.drop_zero]; omega⟩ (le_mkSl rfl (Hp.le_refl _) (by simp [go_sem, strsAV])) ?_
              rintro ⟨k, ya, yb, ys⟩ ⟨hk, hd, hx1, hx2⟩
              simp only at hk hd hx1 hx2
              refine awp_sound (mu := []) _ _ _ ?_
              simp only [go_sem, Nat.reduceEqDiff, Nat.reduceAdd, Nat.reduceSub, Nat.reduceLT, Nat.reduceMul, Nat.reduceBEq, Nat.reduceLeDiff, ↓reduceIte, Int.reduceToNat, Nat.reduceGT, Int.reduceLE, Int.reduceLT, Int.reduceGE, Int.reduceGT, Int.reduceEq, Int.reduceNe, reduceCtorEq]
              refine brK_mk (fun b1 => ?_) (fun b1 => ?_) <;> simp only [go_sem, Nat.reduceEqDiff, Nat.reduceAdd, Nat.reduceSub, Nat.reduceLT, Nat.reduceMul, Nat.reduceBEq, Nat.reduceLeDiff, ↓reduceIte, Int.reduceToNat, Nat.reduceGT, Int.reduceLE, Int.reduceLT, Int.reduceGE, Int.reduceGT, Int.reduceEq, Int.reduceNe, reduceCtorEq, b1]
              · have hk' : k < t.cls.length := by simpa using b1
                obtain ⟨c1, hc1⟩ := someAt t.cls k hk'
                have hmem := List.mem_of_getElem? hc1
                have hwu : IntKind.i64.wrap ((k : Int) + 1) = ((k + 1 : Nat) : Int) := IntWalk.i64_in _ (by omega)
                have hlt := cls_lt hmem
                have hnl := nmC_mem hmem
                rw [nmB_eq] at hnl
                have hnd := nodesC_drop hc1
                have hma := nodesC_mem hmem
                simp only [go_sem, Nat.reduceEqDiff, Nat.reduceAdd, Nat.reduceSub, Nat.reduceLT, Nat.reduceMul, Nat.reduceBEq, Nat.reduceLeDiff, ↓reduceIte, Int.reduceToNat, Nat.reduceGT, Int.reduceLE, Int.reduceLT, Int.reduceGE, Int.reduceGT, Int.reduceEq, Int.reduceNe, reduceCtorEq, mapAt ClauseG.av _ _ _ hc1, ClauseG.av, ClauseG.cs_eq]
                intro v hv
                have hdv := fun T cs => Hp.del_set _ _ T cs hv.1
                simp only [hdv]
                refine draw_by (mu := []) (fun _ => True) (.take 0 (.take 1 (.take 2 (.take 3 (.take 4 (.take 6 (.take 7 (.take 8 (.br 5 (.br 9 (.take 10 (.take 11 (.take 12 (.take 13 (.take 14 (.done)))))) (.stop)) (.stop)))))))))) (by decide +kernel) trivial (by decide +kernel) (by decide +kernel) ?_
                simp only [go_sem, Nat.reduceEqDiff, Nat.reduceAdd, Nat.reduceSub, Nat.reduceLT, Nat.reduceMul, Nat.reduceBEq, Nat.reduceLeDiff, ↓reduceIte, Int.reduceToNat, Nat.reduceGT, Int.reduceLE, Int.reduceLT, Int.reduceGE, Int.reduceGT, Int.reduceEq, Int.reduceNe, reduceCtorEq]
                have c := fun hp => rwith_calls h1 c1.hn bv c1.names (by omega) hp
                simp only [strsAV] at c
                simp only [strsAV]
                refine callX_by (c _) ?_
                clear c
                rintro r hp2 ⟨hw, rfl, rfl⟩
                simp only [go_sem, Nat.reduceEqDiff, Nat.reduceAdd, Nat.reduceSub, Nat.reduceLT, Nat.reduceMul, Nat.reduceBEq, Nat.reduceLeDiff, ↓reduceIte, Int.reduceToNat, Nat.reduceGT, Int.reduceLE, Int.reduceLT, Int.reduceGE, Int.reduceGT, Int.reduceEq, Int.reduceNe, reduceCtorEq]
                have c := hrec c1.body (by omega) hw h2 ya yb (bv ++ c1.names) bl ys.1 ys.2 (by rw [List.length_append]; omega) (by omega) (by omega) (by omega) hp2
                simp only [strsAV, TermG.av, TermG.cs_eq] at c
                refine callX_by c ?_
                clear c
                rintro r hp2 ⟨⟨ha', hb', rfl⟩, rfl⟩
                simp only [go_sem, Nat.reduceEqDiff, Nat.reduceAdd, Nat.reduceSub, Nat.reduceLT, Nat.reduceMul, Nat.reduceBEq, Nat.reduceLeDiff, ↓reduceIte, Int.reduceToNat, Nat.reduceGT, Int.reduceLE, Int.reduceLT, Int.reduceGE, Int.reduceGT, Int.reduceEq, Int.reduceNe, reduceCtorEq, hwu]
                have hfl := frT_len c1.body (hasB (bv ++ c1.names)) (hasB bl) ys
                exact ⟨(k + 1, ha', hb', frT (hasB (bv ++ c1.names)) (hasB bl) c1.body ys), by simp only; omega, ⟨by simp only; omega, by rw [← hd, frC_drop hc1, has_append2], by simp only; omega, by simp only; omega⟩, le_mkSl rfl (Hp.le_refl _) (by simp [go_sem, hwu, strsAV])⟩
              · have ek : k = t.cls.length := by have := of_decide_eq_false b1; omega
                subst ek
                rw [List.drop_of_length_le (Nat.le_refl _), frC] at hd
                rw [← hd] at hft
                exact ret_same ⟨⟨ya, yb, by rw [hft]⟩, rfl⟩
      · simp only [go_sem, Nat.reduceEqDiff, Nat.reduceAdd, Nat.reduceSub, Nat.reduceLT, Nat.reduceMul, Nat.reduceBEq, Nat.reduceLeDiff, ↓reduceIte, Int.reduceToNat, Nat.reduceGT, Int.reduceLE, Int.reduceLT, Int.reduceGE, Int.reduceGT, Int.reduceEq, Int.reduceNe, reduceCtorEq, decide_eq_false o0, decide_eq_false o12]
        obtain ⟨hA, hB, S0, e0, eS⟩ : ∃ hA hB S0, startS (hasB bv) (hasB bl) t.op t.name (vs, ls) = S0 ∧ (strsAV h3 vs = strsAV hA S0.1 ∧ strsAV h4 ls = strsAV hB S0.2) := ⟨h3, h4, _, rfl, by simp [startS, o0, o12]⟩
        simp only [eS.1, eS.2]
        rw [e0] at hst
        clear eS hS o12'
        have hft := frT_eq (hasB bv) (hasB bl) t (vs, ls)
        rw [e0] at hft
        have hst1 : S0.1.length ≤ vs.length + 1 := hst.1
        have hst2 : S0.2.length ≤ ls.length + 1 := hst.2
        refine aw_loopX 113 (fun x : Nat × Value × Value × SS => [(1, strsAV h1 bv), (2, strsAV h2 bl), (3, strsAV x.2.1 x.2.2.2.1), (4, strsAV x.2.2.1 x.2.2.2.2), (5, .ref q5 [.v (.int .i64 t.op), .v (.int .i64 t.n), .v (.string (bs t.name)), .v (.int .i64 t.ty), .lst 6 t.ha (t.args.map TermG.av), .lst 7 t.hc (t.cls.map ClauseG.av)]), (47, .lst 6 t.ha (t.args.map TermG.av)), (48, .v (.int .i64 t.args.length)), (49, .v (.int .i64 x.1))])
          (fun _ => hp) (fun x => x.1 ≤ t.args.length ∧ frA (hasB bv) (hasB bl) t.op t.name x.1 (t.args.drop x.1) x.2.2.2 = frA (hasB bv) (hasB bl) t.op t.name 0 t.args S0 ∧ x.2.2.2.1.length + nodesA (t.args.drop x.1) ≤ vs.length + 1 + nodesA t.args ∧ x.2.2.2.2.length + nodesA (t.args.drop x.1) ≤ ls.length + 1 + nodesA t.args) (fun x => t.args.length - x.1) (0, hA, hB, S0)
          ⟨Nat.zero_le _, rfl, by simp only [List.drop_zero]; omega, by simp only [List.drop_zero]; omega⟩ (le_mkSl rfl (Hp.le_refl _) (by simp [go_sem])) ?_
        · rintro ⟨k, xa, xb, xs⟩ ⟨hk, hd, hx1, hx2⟩
          simp only at hk hd hx1 hx2
          refine awp_sound (mu := []) _ _ _ ?_
          simp only [go_sem, Nat.reduceEqDiff, Nat.reduceAdd, Nat.reduceSub, Nat.reduceLT, Nat.reduceMul, Nat.reduceBEq, Nat.reduceLeDiff, ↓reduceIte, Int.reduceToNat, Nat.reduceGT, Int.reduceLE, Int.reduceLT, Int.reduceGE, Int.reduceGT, Int.reduceEq, Int.reduceNe, reduceCtorEq]
          refine brK_mk (fun b1 => ?_) (fun b1 => ?_) <;> simp only [go_sem, Nat.reduceEqDiff, Nat.reduceAdd, Nat.reduceSub, Nat.reduceLT, Nat.reduceMul, Nat.reduceBEq, Nat.reduceLeDiff, ↓reduceIte, Int.reduceToNat, Nat.reduceGT, Int.reduceLE, Int.reduceLT, Int.reduceGE, Int.reduceGT, Int.reduceEq, Int.reduceNe, reduceCtorEq, b1]
          · have hk' : k < t.args.length := by simpa using b1
            obtain ⟨a, ha⟩ := someAt t.args k hk'
            have hmem := List.mem_of_getElem? ha
            have hwu : IntKind.i64.wrap ((k : Int) + 1) = ((k + 1 : Nat) : Int) := IntWalk.i64_in _ (by omega)
            have hlt := args_lt hmem
            have hnl := nmA_mem hmem
            have hnd := nodesA_drop ha
            have hma := nodesA_mem hmem
            simp only [go_sem, Nat.reduceEqDiff, Nat.reduceAdd, Nat.reduceSub, Nat.reduceLT, Nat.reduceMul, Nat.reduceBEq, Nat.reduceLeDiff, ↓reduceIte, Int.reduceToNat, Nat.reduceGT, Int.reduceLE, Int.reduceLT, Int.reduceGE, Int.reduceGT, Int.reduceEq, Int.reduceNe, reduceCtorEq, mapAt TermG.av _ _ _ ha, TermG.av, TermG.cs_eq]
            intro v hv
            have hdv := fun T cs => Hp.del_set _ _ T cs hv.1
            skip
            by_cases o8 : t.op = 8 ∧ k = 1
            · have o11 : ¬ t.op = 11 := by omega
              have k1 : decide ((k : Int) = 1) = true := decide_eq_true (by omega)
              have ev : argV (hasB bv) t.op t.name k = hasB (bv ++ [t.name]) := by rw [argV, if_pos o8, has_snoc2]
              have el : argL0 (hasB bl) t.op t.name k = hasB bl := by rw [argL0, if_neg (by omega)]
              simp only [go_sem, Nat.reduceEqDiff, Nat.reduceAdd, Nat.reduceSub, Nat.reduceLT, Nat.reduceMul, Nat.reduceBEq, Nat.reduceLeDiff, ↓reduceIte, Int.reduceToNat, Nat.reduceGT, Int.reduceLE, Int.reduceLT, Int.reduceGE, Int.reduceGT, Int.reduceEq, Int.reduceNe, reduceCtorEq, decide_eq_true o8.1, k1, decide_eq_false o11, hdv]
              refine ⟨rfl, by simp, fun hd2 => ?_⟩
              have c := fun hp => rwith_calls h1 hd2 bv [t.name] (by simp only [List.length_cons, List.length_nil]; omega) hp
              simp only [strsAV, List.map_cons, List.map_nil] at c
              simp only [strsAV]
              refine callX_by (c _) ?_
              clear c
              rintro r hp2 ⟨hw, rfl, rfl⟩
              simp only [go_sem, Nat.reduceEqDiff, Nat.reduceAdd, Nat.reduceSub, Nat.reduceLT, Nat.reduceMul, Nat.reduceBEq, Nat.reduceLeDiff, ↓reduceIte, Int.reduceToNat, Nat.reduceGT, Int.reduceLE, Int.reduceLT, Int.reduceGE, Int.reduceGT, Int.reduceEq, Int.reduceNe, reduceCtorEq, decide_eq_false o11]
              have c := hrec a (by omega) hw h2 xa xb (bv ++ [t.name]) bl xs.1 xs.2 (by simp only [List.length_append, List.length_cons, List.length_nil]; omega) (by omega) (by omega) (by omega) (hp.setSp ((9, 1, hd2) :: hp.sp))
              simp only [strsAV, TermG.av, TermG.cs_eq] at c
              refine callX_by c ?_
              clear c
              rintro r hp2 ⟨⟨ha', hb', rfl⟩, rfl⟩
              simp only [go_sem, Nat.reduceEqDiff, Nat.reduceAdd, Nat.reduceSub, Nat.reduceLT, Nat.reduceMul, Nat.reduceBEq, Nat.reduceLeDiff, ↓reduceIte, Int.reduceToNat, Nat.reduceGT, Int.reduceLE, Int.reduceLT, Int.reduceGE, Int.reduceGT, Int.reduceEq, Int.reduceNe, reduceCtorEq, hwu]
              have hfl := frT_len a (hasB (bv ++ [t.name])) (hasB bl) xs
              exact ⟨(k + 1, ha', hb', frT (hasB (bv ++ [t.name])) (hasB bl) a xs), by simp only; omega, ⟨by simp only; omega, by rw [← hd, frA_drop ha]; simp only [ev, el], by simp only; omega, by simp only; omega⟩, le_mkSl rfl (Hp.le_addSp _ _) (by simp [go_sem, hwu, strsAV])⟩
            · by_cases o11 : t.op = 11 ∧ k = 0
              · have o8' : ¬ t.op = 8 := by omega
                have k1 : decide ((k : Int) = 0) = true := decide_eq_true (by omega)
                have ev : argV (hasB bv) t.op t.name k = hasB bv := by rw [argV, if_neg (by omega)]
                have el : argL0 (hasB bl) t.op t.name k = hasB (bl ++ [t.name]) := by rw [argL0, if_pos o11, has_snoc2]
                simp only [go_sem, Nat.reduceEqDiff, Nat.reduceAdd, Nat.reduceSub, Nat.reduceLT, Nat.reduceMul, Nat.reduceBEq, Nat.reduceLeDiff, ↓reduceIte, Int.reduceToNat, Nat.reduceGT, Int.reduceLE, Int.reduceLT, Int.reduceGE, Int.reduceGT, Int.reduceEq, Int.reduceNe, reduceCtorEq, decide_eq_true o11.1, k1, decide_eq_false o8', hdv]
                refine ⟨rfl, by simp, fun hd2 => ?_⟩
                have c := fun hp => rwith_calls h2 hd2 bl [t.name] (by simp only [List.length_cons, List.length_nil]; omega) hp
                simp only [strsAV, List.map_cons, List.map_nil] at c
                simp only [strsAV]
                refine callX_by (c _) ?_
                clear c
                rintro r hp2 ⟨hw, rfl, rfl⟩
                simp only [go_sem, Nat.reduceEqDiff, Nat.reduceAdd, Nat.reduceSub, Nat.reduceLT, Nat.reduceMul, Nat.reduceBEq, Nat.reduceLeDiff, ↓reduceIte, Int.reduceToNat, Nat.reduceGT, Int.reduceLE, Int.reduceLT, Int.reduceGE, Int.reduceGT, Int.reduceEq, Int.reduceNe, reduceCtorEq]
                have c := hrec a (by omega) h1 hw xa xb bv (bl ++ [t.name]) xs.1 xs.2 (by omega) (by simp only [List.length_append, List.length_cons, List.length_nil]; omega) (by omega) (by omega) (hp.setSp ((9, 1, hd2) :: hp.sp))
                simp only [strsAV, TermG.av, TermG.cs_eq] at c
                refine callX_by c ?_
                clear c
                rintro r hp2 ⟨⟨ha', hb', rfl⟩, rfl⟩
                simp only [go_sem, Nat.reduceEqDiff, Nat.reduceAdd, Nat.reduceSub, Nat.reduceLT, Nat.reduceMul, Nat.reduceBEq, Nat.reduceLeDiff, ↓reduceIte, Int.reduceToNat, Nat.reduceGT, Int.reduceLE, Int.reduceLT, Int.reduceGE, Int.reduceGT, Int.reduceEq, Int.reduceNe, reduceCtorEq, hwu]
                have hfl := frT_len a (hasB bv) (hasB (bl ++ [t.name])) xs
                exact ⟨(k + 1, ha', hb', frT (hasB bv) (hasB (bl ++ [t.name])) a xs), by simp only; omega, ⟨by simp only; omega, by rw [← hd, frA_drop ha]; simp only [ev, el], by simp only; omega, by simp only; omega⟩, le_mkSl rfl (Hp.le_addSp _ _) (by simp [go_sem, hwu, strsAV])⟩
              · have ev : argV (hasB bv) t.op t.name k = hasB bv := by rw [argV, if_neg (by omega)]
                have el : argL0 (hasB bl) t.op t.name k = hasB bl := by rw [argL0, if_neg (by omega)]
                have z8 : t.op = 8 → decide ((k : Int) = 1) = false := fun h => decide_eq_false (by omega)
                have z11 : t.op = 11 → decide ((k : Int) = 0) = false := fun h => decide_eq_false (by omega)
                by_cases q8 : t.op = 8
                · have q11 : ¬ t.op = 11 := by omega
                  simp only [go_sem, Nat.reduceEqDiff, Nat.reduceAdd, Nat.reduceSub, Nat.reduceLT, Nat.reduceMul, Nat.reduceBEq, Nat.reduceLeDiff, ↓reduceIte, Int.reduceToNat, Nat.reduceGT, Int.reduceLE, Int.reduceLT, Int.reduceGE, Int.reduceGT, Int.reduceEq, Int.reduceNe, reduceCtorEq, decide_eq_true q8, z8 q8, decide_eq_false q11, hdv]
                  have c := hrec a (by omega) h1 h2 xa xb bv bl xs.1 xs.2 (by omega) (by omega) (by omega) (by omega) (hp)
                  simp only [strsAV, TermG.av, TermG.cs_eq] at c
                  refine callX_by c ?_
                  clear c
                  rintro r hp2 ⟨⟨ha', hb', rfl⟩, rfl⟩
                  simp only [go_sem, Nat.reduceEqDiff, Nat.reduceAdd, Nat.reduceSub, Nat.reduceLT, Nat.reduceMul, Nat.reduceBEq, Nat.reduceLeDiff, ↓reduceIte, Int.reduceToNat, Nat.reduceGT, Int.reduceLE, Int.reduceLT, Int.reduceGE, Int.reduceGT, Int.reduceEq, Int.reduceNe, reduceCtorEq, hwu]
                  have hfl := frT_len a (hasB bv) (hasB bl) xs
                  exact ⟨(k + 1, ha', hb', frT (hasB bv) (hasB bl) a xs), by simp only; omega, ⟨by simp only; omega, by rw [← hd, frA_drop ha]; simp only [ev, el], by simp only; omega, by simp only; omega⟩, le_mkSl rfl (Hp.le_refl _) (by simp [go_sem, hwu, strsAV])⟩
                · by_cases q11 : t.op = 11
                  · simp only [go_sem, Nat.reduceEqDiff, Nat.reduceAdd, Nat.reduceSub, Nat.reduceLT, Nat.reduceMul, Nat.reduceBEq, Nat.reduceLeDiff, ↓reduceIte, Int.reduceToNat, Nat.reduceGT, Int.reduceLE, Int.reduceLT, Int.reduceGE, Int.reduceGT, Int.reduceEq, Int.reduceNe, reduceCtorEq, decide_eq_true q11, z11 q11, decide_eq_false q8, hdv]
                    have c := hrec a (by omega) h1 h2 xa xb bv bl xs.1 xs.2 (by omega) (by omega) (by omega) (by omega) (hp)
                    simp only [strsAV, TermG.av, TermG.cs_eq] at c
                    refine callX_by c ?_
                    clear c
                    rintro r hp2 ⟨⟨ha', hb', rfl⟩, rfl⟩
                    simp only [go_sem, Nat.reduceEqDiff, Nat.reduceAdd, Nat.reduceSub, Nat.reduceLT, Nat.reduceMul, Nat.reduceBEq, Nat.reduceLeDiff, ↓reduceIte, Int.reduceToNat, Nat.reduceGT, Int.reduceLE, Int.reduceLT, Int.reduceGE, Int.reduceGT, Int.reduceEq, Int.reduceNe, reduceCtorEq, hwu]
                    have hfl := frT_len a (hasB bv) (hasB bl) xs
                    exact ⟨(k + 1, ha', hb', frT (hasB bv) (hasB bl) a xs), by simp only; omega, ⟨by simp only; omega, by rw [← hd, frA_drop ha]; simp only [ev, el], by simp only; omega, by simp only; omega⟩, le_mkSl rfl (Hp.le_refl _) (by simp [go_sem, hwu, strsAV])⟩
                  · simp only [go_sem, Nat.reduceEqDiff, Nat.reduceAdd, Nat.reduceSub, Nat.reduceLT, Nat.reduceMul, Nat.reduceBEq, Nat.reduceLeDiff, ↓reduceIte, Int.reduceToNat, Nat.reduceGT, Int.reduceLE, Int.reduceLT, Int.reduceGE, Int.reduceGT, Int.reduceEq, Int.reduceNe, reduceCtorEq, decide_eq_false q11, decide_eq_false q8, hdv]
                    have c := hrec a (by omega) h1 h2 xa xb bv bl xs.1 xs.2 (by omega) (by omega) (by omega) (by omega) (hp)
                    simp only [strsAV, TermG.av, TermG.cs_eq] at c
                    refine callX_by c ?_
                    clear c
                    rintro r hp2 ⟨⟨ha', hb', rfl⟩, rfl⟩
                    simp only [go_sem, Nat.reduceEqDiff, Nat.reduceAdd, Nat.reduceSub, Nat.reduceLT, Nat.reduceMul, Nat.reduceBEq, Nat.reduceLeDiff, ↓reduceIte, Int.reduceToNat, Nat.reduceGT, Int.reduceLE, Int.reduceLT, Int.reduceGE, Int.reduceGT, Int.reduceEq, Int.reduceNe, reduceCtorEq, hwu]
                    have hfl := frT_len a (hasB bv) (hasB bl) xs
                    exact ⟨(k + 1, ha', hb', frT (hasB bv) (hasB bl) a xs), by simp only; omega, ⟨by simp only; omega, by rw [← hd, frA_drop ha]; simp only [ev, el], by simp only; omega, by simp only; omega⟩, le_mkSl rfl (Hp.le_refl _) (by simp [go_sem, hwu, strsAV])⟩
          · have ek : k = t.args.length := by have := of_decide_eq_false b1; omega
            subst ek
            rw [List.drop_of_length_le (Nat.le_refl _), frA] at hd
            rw [List.drop_of_length_le (Nat.le_refl _), nodesA] at hx1 hx2
            rw [← hd] at hft
            clear hd
            skip
            refine aw_loopX 113 (fun x : Nat × Value × Value × SS => [(1, strsAV h1 bv), (2, strsAV h2 bl), (3, strsAV x.2.1 x.2.2.2.1), (4, strsAV x.2.2.1 x.2.2.2.2), (91, .lst 7 t.hc (t.cls.map ClauseG.av)), (92, .v (.int .i64 t.cls.length)), (93, .v (.int .i64 x.1))])
              (fun _ => hp) (fun x => x.1 ≤ t.cls.length ∧ frC (hasB bv) (hasB bl) (t.cls.drop x.1) x.2.2.2 = frC (hasB bv) (hasB bl) t.cls xs ∧ x.2.2.2.1.length + nodesC (t.cls.drop x.1) ≤ vs.length + nodesT t ∧ x.2.2.2.2.length + nodesC (t.cls.drop x.1) ≤ ls.length + nodesT t) (fun x => t.cls.length - x.1) (0, xa, xb, xs)
              ⟨Nat.zero_le _, rfl, by simp only [List.drop_zero]; omega, by simp only [List.drop_zero]; omega⟩ (le_mkSl rfl (Hp.le_refl _) (by simp [go_sem, strsAV])) ?_
            rintro ⟨k, ya, yb, ys⟩ ⟨hk, hd, hx1, hx2⟩
            simp only at hk hd hx1 hx2
            refine awp_sound (mu := []) _ _ _ ?_
            simp only [go_sem, Nat.reduceEqDiff, Nat.reduceAdd, Nat.reduceSub, Nat.reduceLT, Nat.reduceMul, Nat.reduceBEq, Nat.reduceLeDiff, ↓reduceIte, Int.reduceToNat, Nat.reduceGT, Int.reduceLE, Int.reduceLT, Int.reduceGE, Int.reduceGT, Int.reduceEq, Int.reduceNe, reduceCtorEq]
            refine brK_mk (fun b1 => ?_) (fun b1 => ?_) <;> simp only [go_sem, Nat.reduceEqDiff, Nat.reduceAdd, Nat.reduceSub, Nat.reduceLT, Nat.reduceMul, Nat.reduceBEq, Nat.reduceLeDiff, ↓reduceIte, Int.reduceToNat, Nat.reduceGT, Int.reduceLE, Int.reduceLT, Int.reduceGE, Int.reduceGT, Int.reduceEq, Int.reduceNe, reduceCtorEq, b1]
            · have hk' : k < t.cls.length := by simpa using b1
              obtain ⟨c1, hc1⟩ := someAt t.cls k hk'
              have hmem := List.mem_of_getElem? hc1
              have hwu : IntKind.i64.wrap ((k : Int) + 1) = ((k + 1 : Nat) : Int) := IntWalk.i64_in _ (by omega)
              have hlt := cls_lt hmem
              have hnl := nmC_mem hmem
              rw [nmB_eq] at hnl
              have hnd := nodesC_drop hc1
              have hma := nodesC_mem hmem
              simp only [go_sem, Nat.reduceEqDiff, Nat.reduceAdd, Nat.reduceSub, Nat.reduceLT, Nat.reduceMul, Nat.reduceBEq, Nat.reduceLeDiff, ↓reduceIte, Int.reduceToNat, Nat.reduceGT, Int.reduceLE, Int.reduceLT, Int.reduceGE, Int.reduceGT, Int.reduceEq, Int.reduceNe, reduceCtorEq, mapAt ClauseG.av _ _ _ hc1, ClauseG.av, ClauseG.cs_eq]
              intro v hv
              have hdv := fun T cs => Hp.del_set _ _ T cs hv.1
              simp only [hdv]
              refine draw_by (mu := []) (fun _ => True) (.take 0 (.take 1 (.take 2 (.take 3 (.take 4 (.take 6 (.take 7 (.take 8 (.br 5 (.br 9 (.take 10 (.take 11 (.take 12 (.take 13 (.take 14 (.done)))))) (.stop)) (.stop)))))))))) (by decide +kernel) trivial (by decide +kernel) (by decide +kernel) ?_
              simp only [go_sem, Nat.reduceEqDiff, Nat.reduceAdd, Nat.reduceSub, Nat.reduceLT, Nat.reduceMul, Nat.reduceBEq, Nat.reduceLeDiff, ↓reduceIte, Int.reduceToNat, Nat.reduceGT, Int.reduceLE, Int.reduceLT, Int.reduceGE, Int.reduceGT, Int.reduceEq, Int.reduceNe, reduceCtorEq]
              have c := fun hp => rwith_calls h1 c1.hn bv c1.names (by omega) hp
              simp only [strsAV] at c
              simp only [strsAV]
              refine callX_by (c _) ?_
              clear c
              rintro r hp2 ⟨hw, rfl, rfl⟩
              simp only [go_sem, Nat.reduceEqDiff, Nat.reduceAdd, Nat.reduceSub, Nat.reduceLT, Nat.reduceMul, Nat.reduceBEq, Nat.reduceLeDiff, ↓reduceIte, Int.reduceToNat, Nat.reduceGT, Int.reduceLE, Int.reduceLT, Int.reduceGE, Int.reduceGT, Int.reduceEq, Int.reduceNe, reduceCtorEq]
              have c := hrec c1.body (by omega) hw h2 ya yb (bv ++ c1.names) bl ys.1 ys.2 (by rw [List.length_append]; omega) (by omega) (by omega) (by omega) hp2
              simp only [strsAV, TermG.av, TermG.cs_eq] at c
              refine callX_by c ?_
              clear c
              rintro r hp2 ⟨⟨ha', hb', rfl⟩, rfl⟩
              simp only [go_sem, Nat.reduceEqDiff, Nat.reduceAdd, Nat.reduceSub, Nat.reduceLT, Nat.reduceMul, Nat.reduceBEq, Nat.reduceLeDiff, ↓reduceIte, Int.reduceToNat, Nat.reduceGT, Int.reduceLE, Int.reduceLT, Int.reduceGE, Int.reduceGT, Int.reduceEq, Int.reduceNe, reduceCtorEq, hwu]
              have hfl := frT_len c1.body (hasB (bv ++ c1.names)) (hasB bl) ys
              exact ⟨(k + 1, ha', hb', frT (hasB (bv ++ c1.names)) (hasB bl) c1.body ys), by simp only; omega, ⟨by simp only; omega, by rw [← hd, frC_drop hc1, has_append2], by simp only; omega, by simp only; omega⟩, le_mkSl rfl (Hp.le_refl _) (by simp [go_sem, hwu, strsAV])⟩
            · have ek : k = t.cls.length := by have := of_decide_eq_false b1; omega
              subst ek
              rw [List.drop_of_length_le (Nat.le_refl _), frC] at hd
              rw [← hd] at hft
              exact ret_same ⟨⟨ya, yb, by rw [hft]⟩, rfl⟩
end Go.Proofs.YtppoacgeiooppaaGreat

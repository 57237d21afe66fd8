/- The free names that the program finds, in plain words. -/
import Derived.Test.YtppoacgeiooppaaGreatCT42
import Derived.Test.YtppoacgeiooppaaGreatCT51
import Derived.Test.YtppoacgeiooppaaGreatCAL41
import Derived.Sort.Walk0
import Derived.Test.YtppoacgeiooppaaGreatCT6
import Derived.Test.YtppoacgeiooppaaGreatCT77
set_option linter.unusedSimpArgs false
set_option linter.unusedVariables false
set_option maxRecDepth 20000
set_option maxHeartbeats 4000000
namespace Go.Proofs.YtppoacgeiooppaaGreat
open Go.AL

theorem ltB_eq (a b : Bytes) : ltB a b = decide (a < b) := bytesLess_eq a b
def SortedB (l : List Bytes) : Prop := l.Pairwise fun x y => leB x y = true
theorem sortS_sorted (l : List Bytes) : SortedB (sortS l) :=
  List.pairwise_mergeSort (fun a b c h1 h2 => by simp only [leB, decide_eq_true_eq] at *; exact List.le_trans h1 h2) (fun a b => by simp only [leB, Bool.or_eq_true, decide_eq_true_eq]; exact List.le_total a b) l
theorem sortS_perm (l : List Bytes) : (sortS l).Perm l := List.mergeSort_perm l leB
theorem sorted_unique {l r : List Bytes} (hl : SortedB l) (hr : SortedB r) (h : l.Perm r) : l = r :=
  List.Perm.eq_of_pairwise (le := fun a b => leB a b = true) (fun a b _ _ h1 h2 => by simp only [leB, decide_eq_true_eq] at h1 h2; exact List.le_antisymm h1 h2) hl hr h
theorem mem_insS {l : List Bytes} {s x : Bytes} : x ∈ insS l s ↔ x = s ∨ x ∈ l := by
  have h := has_insS l s x
  have hm : ∀ l : List Bytes, x ∈ l ↔ hasB l x = true := fun l => by
    simp only [hasB, List.any_eq_true, decide_eq_true_eq]
    exact ⟨fun h => ⟨x, h, rfl⟩, by rintro ⟨y, h, rfl⟩; exact h⟩
  rw [hm, hm, h, Bool.or_eq_true, decide_eq_true_eq]
theorem insS_sorted (s : Bytes) : ∀ {l : List Bytes}, SortedB l → SortedB (insS l s)
  | [], _ => by rw [insS]; exact List.pairwise_singleton _ _
  | y :: r, h => by
    have h := List.pairwise_cons.1 h
    rw [insS, ltB_eq]
    by_cases e : y < s
    · rw [if_pos (by simpa using e)]
      refine List.pairwise_cons.2 ⟨fun z hz => ?_, insS_sorted s h.2⟩
      rcases mem_insS.1 hz with rfl | hz
      · simp only [leB, decide_eq_true_eq]; exact List.le_of_lt e
      · exact h.1 z hz
    · rw [if_neg (by simpa using e)]
      by_cases e2 : y = s
      · rw [if_pos e2]; exact List.pairwise_cons.2 h
      · rw [if_neg e2]
        have hsy : s ≤ y := List.not_lt.1 e
        refine List.pairwise_cons.2 ⟨fun z hz => ?_, List.pairwise_cons.2 h⟩
        rcases List.mem_cons.1 hz with rfl | hz
        · simpa only [leB, decide_eq_true_eq] using hsy
        · have := h.1 z hz
          simp only [leB, decide_eq_true_eq] at this ⊢
          exact List.le_trans hsy this
theorem insS_in {s : Bytes} : ∀ {l : List Bytes}, SortedB l → s ∈ l → insS l s = l
  | [], _, h => by cases h
  | y :: r, hs, h => by
    have hs := List.pairwise_cons.1 hs
    rw [insS, ltB_eq]
    by_cases e2 : y = s
    · subst e2
      rw [if_neg (by simp [List.lt_irrefl]), if_pos rfl]
    · rcases List.mem_cons.1 h with rfl | h
      · exact absurd rfl e2
      · have h1 := hs.1 s h
        simp only [leB, decide_eq_true_eq] at h1
        have h2 : y < s := by
          by_cases e : y < s
          · exact e
          · exact absurd (List.le_antisymm h1 (List.not_lt.1 e)) e2
        rw [if_pos (by simpa using h2), insS_in hs.2 h]
theorem insS_out {s : Bytes} : ∀ {l : List Bytes}, s ∉ l → (insS l s).Perm (s :: l)
  | [], _ => List.Perm.refl _
  | y :: r, h => by
    rw [insS]
    by_cases e : ltB y s = true
    · rw [if_pos e]
      exact ((insS_out fun hr => h (List.mem_cons_of_mem _ hr)).cons y).trans (List.Perm.swap s y r)
    · rw [if_neg e, if_neg (fun e2 => h (by rw [e2]; exact List.mem_cons_self ..))]
theorem has_iff {l : List Bytes} {x : Bytes} : hasB l x = true ↔ x ∈ l := by
  simp only [hasB, List.any_eq_true, decide_eq_true_eq]
  exact ⟨by rintro ⟨y, h, rfl⟩; exact h, fun h => ⟨x, h, rfl⟩⟩
theorem sortS_ins (l : List Bytes) (s : Bytes) : sortS (insB l s) = insS (sortS l) s := by
  rw [insB]
  by_cases h : hasB l s = true
  · rw [if_pos h, insS_in (sortS_sorted l) ((sortS_perm l).mem_iff.2 (has_iff.1 h))]
  · rw [if_neg h]
    have hn : s ∉ sortS l := fun hm => h (has_iff.2 ((sortS_perm l).mem_iff.1 hm))
    refine sorted_unique (sortS_sorted _) (insS_sorted s (sortS_sorted l)) ((sortS_perm _).trans ?_)
    exact (List.perm_append_comm.trans (List.Perm.refl (s :: l))).trans (((sortS_perm l).symm.cons s).trans (insS_out hn).symm)
def startP (bv bl : Bytes → Bool) (op : Int) (name : Bytes) (s : SS) : SS := (if op = 0 ∧ bv name = false then insB s.1 name else s.1, if op = 12 ∧ bl name = false then insB s.2 name else s.2)
mutual
def fpT (bv bl : Bytes → Bool) : TermG → SS → SS
  | .mk op n name ty ha args hc cls, s => fpC bv bl cls (fpA bv bl op name 0 args (startP bv bl op name s))
def fpA (bv bl : Bytes → Bool) (op : Int) (name : Bytes) (k : Nat) : List TermG → SS → SS
  | [], s => s
  | a :: r, s => fpA bv bl op name (k + 1) r (fpT (argV bv op name k) (argL0 bl op name k) a s)
def fpC (bv bl : Bytes → Bool) : List ClauseG → SS → SS
  | [], s => s
  | c :: r, s => fpC bv bl r (fpB bv bl c s)
def fpB (bv bl : Bytes → Bool) : ClauseG → SS → SS
  | .mk _ names b, s => fpT (addL bv names) bl b s
end
theorem fpT_eq (bv bl : Bytes → Bool) (t : TermG) (s : SS) : fpT bv bl t s = fpC bv bl t.cls (fpA bv bl t.op t.name 0 t.args (startP bv bl t.op t.name s)) := by cases t; rw [fpT]; rfl
theorem fpB_eq (bv bl : Bytes → Bool) (c : ClauseG) (s : SS) : fpB bv bl c s = fpT (addL bv c.names) bl c.body s := by cases c; rw [fpB]; rfl
theorem fpA_drop {bv bl : Bytes → Bool} {op : Int} {name : Bytes} {l : List TermG} {k : Nat} {a : TermG} (h : l[k]? = some a) (s : SS) : fpA bv bl op name k (l.drop k) s = fpA bv bl op name (k + 1) (l.drop (k + 1)) (fpT (argV bv op name k) (argL0 bl op name k) a s) := by
  rw [dropK h, fpA]
theorem fpC_drop {bv bl : Bytes → Bool} {l : List ClauseG} {k : Nat} {c : ClauseG} (h : l[k]? = some c) (s : SS) : fpC bv bl (l.drop k) s = fpC bv bl (l.drop (k + 1)) (fpT (addL bv c.names) bl c.body s) := by
  rw [dropK h, fpC, fpB_eq]
def SameS (s s' : SS) : Prop := sortS s.1 = s'.1 ∧ sortS s.2 = s'.2
theorem start_same {s s' : SS} (h : SameS s s') (bv bl : Bytes → Bool) (op : Int) (name : Bytes) : SameS (startP bv bl op name s) (startS bv bl op name s') := by
  obtain ⟨h1, h2⟩ := h
  constructor
  · simp only [startP, startS]
    split
    · rw [sortS_ins, h1]
    · exact h1
  · simp only [startP, startS]
    split
    · rw [sortS_ins, h2]
    · exact h2
mutual
theorem fpT_same : ∀ (t : TermG) {bv bl : Bytes → Bool} {s s' : SS}, SameS s s' → SameS (fpT bv bl t s) (frT bv bl t s')
  | .mk op n name ty ha args hc cls, bv, bl, s, s', h => by
    rw [fpT, frT]; exact fpC_same cls (fpA_same args 0 (start_same h bv bl op name))
theorem fpA_same : ∀ (l : List TermG) (k : Nat) {bv bl : Bytes → Bool} {op : Int} {name : Bytes} {s s' : SS}, SameS s s' → SameS (fpA bv bl op name k l s) (frA bv bl op name k l s')
  | [], k, bv, bl, op, name, s, s', h => by rw [fpA, frA]; exact h
  | a :: r, k, bv, bl, op, name, s, s', h => by rw [fpA, frA]; exact fpA_same r (k + 1) (fpT_same a h)
theorem fpC_same : ∀ (l : List ClauseG) {bv bl : Bytes → Bool} {s s' : SS}, SameS s s' → SameS (fpC bv bl l s) (frC bv bl l s')
  | [], bv, bl, s, s', h => by rw [fpC, frC]; exact h
  | c :: r, bv, bl, s, s', h => by rw [fpC, frC]; exact fpC_same r (fpB_same c h)
theorem fpB_same : ∀ (c : ClauseG) {bv bl : Bytes → Bool} {s s' : SS}, SameS s s' → SameS (fpB bv bl c s) (frB bv bl c s')
  | .mk _ names b, bv, bl, s, s', h => by rw [fpB, frB]; exact fpT_same b h
end
theorem same_nil : SameS ([], []) ([], []) := ⟨by simp [sortS], by simp [sortS]⟩
theorem fp_nil (t : TermG) : SameS (fpT (fun _ => false) (fun _ => false) t ([], [])) (frT (fun _ => false) (fun _ => false) t ([], [])) := fpT_same t same_nil
/-! ### The lengths of the names -/
mutual
def shT : TermG → Prop
  | .mk _ _ name _ _ args _ cls => name.length ≤ maxLen ∧ shA args ∧ shC cls
def shA : List TermG → Prop
  | [] => True
  | a :: r => shT a ∧ shA r
def shC : List ClauseG → Prop
  | [] => True
  | c :: r => shB c ∧ shC r
def shB : ClauseG → Prop
  | .mk _ _ b => shT b
end
mutual
theorem smT_sh : ∀ t : TermG, smT t → shT t
  | .mk op n name ty ha args hc cls, h => by
    rw [smT] at h; rw [shT]; exact ⟨h.1, smA_sh args h.2.1, smC_sh cls h.2.2⟩
theorem smA_sh : ∀ l : List TermG, smA l → shA l
  | [], _ => by rw [shA]; trivial
  | a :: r, h => by
    rw [smA] at h; rw [shA]; exact ⟨smT_sh a h.1, smA_sh r h.2⟩
theorem smC_sh : ∀ l : List ClauseG, smC l → shC l
  | [], _ => by rw [shC]; trivial
  | c :: r, h => by
    rw [smC] at h; rw [shC]; exact ⟨smB_sh c h.1, smC_sh r h.2⟩
theorem smB_sh : ∀ c : ClauseG, smB c → shB c
  | .mk hn names b, h => by
    rw [smB] at h; rw [shB]; exact smT_sh b h.2
end
def ShS (s : SS) : Prop := (∀ x ∈ s.1, x.length ≤ maxLen) ∧ ∀ x ∈ s.2, x.length ≤ maxLen
theorem mem_insB {l : List Bytes} {s x : Bytes} (h : x ∈ insB l s) : x = s ∨ x ∈ l := by
  have h1 := has_ins l s x
  rw [← has_iff, h1, Bool.or_eq_true, decide_eq_true_eq] at h
  exact h.imp_right has_iff.1
theorem start_sh {s : SS} (h : ShS s) (bv bl : Bytes → Bool) (op : Int) {name : Bytes} (hn : name.length ≤ maxLen) : ShS (startP bv bl op name s) := by
  constructor
  · intro x hx
    simp only [startP] at hx
    split at hx
    · rcases mem_insB hx with rfl | hx
      · exact hn
      · exact h.1 x hx
    · exact h.1 x hx
  · intro x hx
    simp only [startP] at hx
    split at hx
    · rcases mem_insB hx with rfl | hx
      · exact hn
      · exact h.2 x hx
    · exact h.2 x hx
mutual
theorem fpT_sh : ∀ (t : TermG) {bv bl : Bytes → Bool} {s : SS}, shT t → ShS s → ShS (fpT bv bl t s)
  | .mk op n name ty ha args hc cls, bv, bl, s, ht, h => by
    rw [shT] at ht
    rw [fpT]; exact fpC_sh cls ht.2.2 (fpA_sh args 0 ht.2.1 (start_sh h bv bl op ht.1))
theorem fpA_sh : ∀ (l : List TermG) (k : Nat) {bv bl : Bytes → Bool} {op : Int} {name : Bytes} {s : SS}, shA l → ShS s → ShS (fpA bv bl op name k l s)
  | [], k, bv, bl, op, name, s, ht, h => by rw [fpA]; exact h
  | a :: r, k, bv, bl, op, name, s, ht, h => by
    rw [shA] at ht
    rw [fpA]; exact fpA_sh r (k + 1) ht.2 (fpT_sh a ht.1 h)
theorem fpC_sh : ∀ (l : List ClauseG) {bv bl : Bytes → Bool} {s : SS}, shC l → ShS s → ShS (fpC bv bl l s)
  | [], bv, bl, s, ht, h => by rw [fpC]; exact h
  | c :: r, bv, bl, s, ht, h => by
    rw [shC] at ht
    rw [fpC]; exact fpC_sh r ht.2 (fpB_sh c ht.1 h)
theorem fpB_sh : ∀ (c : ClauseG) {bv bl : Bytes → Bool} {s : SS}, shB c → ShS s → ShS (fpB bv bl c s)
  | .mk _ names b, bv, bl, s, ht, h => by
    rw [shB] at ht
    rw [fpB]; exact fpT_sh b ht h
end
end Go.Proofs.YtppoacgeiooppaaGreat
/- The layer 'term': free, Free. -/
set_option linter.unusedSimpArgs false
set_option linter.unusedVariables false
set_option maxRecDepth 20000
set_option maxHeartbeats 4000000
namespace Go.Proofs.YtppoacgeiooppaaGreat
open Go.AL

def HS (hp : Hp) (x y : Nat) (s : SS) : Hp := (hp.setMp x (ents s.1)).setMp y (ents s.2)
theorem hs_x (hp : Hp) {x y : Nat} (h : x ≠ y) (s : SS) : (HS hp x y s).mp x = some (ents s.1) := by simp [HS, Hp.setMp, h]
theorem hs_y (hp : Hp) (x y : Nat) (s : SS) : (HS hp x y s).mp y = some (ents s.2) := by simp [HS, Hp.setMp]
theorem hs_o (hp : Hp) {x y i : Nat} (h1 : i ≠ x) (h2 : i ≠ y) (s : SS) : (HS hp x y s).mp i = hp.mp i := by simp [HS, Hp.setMp, h1, h2]
theorem hs_le {hp hp' : Hp} {x y : Nat} {s : SS} (h1 : ∀ b z, hp.blk b = some z → hp'.blk b = some z) (h2 : ∀ b z, b ≠ x → b ≠ y → hp.mp b = some z → hp'.mp b = some z) (h3 : hp.sp.Sublist hp'.sp) (h4 : ∀ p, p ∈ hp.gl → p ∈ hp'.gl) : (HS hp x y s).le (HS hp' x y s) := by
  refine ⟨h1, fun b z hz => ?_, h3, h4⟩
  by_cases e1 : b = y
  · subst e1; rw [hs_y] at hz ⊢; exact hz
  · by_cases e2 : b = x
    · subst e2; rw [hs_x _ e1] at hz ⊢; exact hz
    · rw [hs_o _ e2 e1] at hz ⊢; exact h2 b z e2 e1 hz
theorem hs_self {hp : Hp} {x y : Nat} {s : SS} (h1 : hp.mp x = some (ents s.1)) (h2 : hp.mp y = some (ents s.2)) : HS hp x y s = hp := by
  rw [HS, setMp_id hp x _ h1, setMp_id hp y _ h2]
theorem startP_v {bv bl : Bytes → Bool} {op : Int} {name : Bytes} {s : SS} (h : op = 0) (hb : bv name = false) : startP bv bl op name s = (insB s.1 name, s.2) := by
  subst h; simp [startP, hb]
theorem startP_l {bv bl : Bytes → Bool} {op : Int} {name : Bytes} {s : SS} (h : op = 12) (hb : bl name = false) : startP bv bl op name s = (s.1, insB s.2 name) := by
  subst h; simp [startP, hb]
theorem startP_o {bv bl : Bytes → Bool} {op : Int} {name : Bytes} {s : SS} (h : op = 0 → bv name = true) (h2 : op = 12 → bl name = true) : startP bv bl op name s = s := by
  simp only [startP]
  rw [if_neg (fun e => by rw [h e.1] at e; cases e.2), if_neg (fun e => by rw [h2 e.1] at e; cases e.2)]
def FreeC (N : Nat) : Prop := ∀ (t : TermG), nodesT t ≤ N → ∀ (hp : Hp) (bv bl x y : Nat) (V L : List Bytes) (s : SS), hp.mp bv = some (ents V) → hp.mp bl = some (ents L) → hp.mp x = some (ents s.1) → hp.mp y = some (ents s.2) → x ≠ y → bv ≠ x → bv ≠ y → bl ≠ x → bl ≠ y →
  ACalls Tryz.prog 60 [t.av, scopeAV bv bl, .v (.map (some x)), .v (.map (some y))] hp (fun r hp' => r = .tup [] ∧ hp' = HS hp x y (fpT (hasB V) (hasB L) t s))
theorem free_step {N : Nat} (hrec : FreeC N) : FreeC (N + 1) := by
  intro t hN hp bv bl x y V L s hV hL hx hy hxy hvx hvy hlx hly
  have hnt := nodesT_eq t
  refine acalls_fit (callable_of Tryz.func60 (by decide +kernel)) fun hfit => ?_
  have hla : t.args.length ≤ maxLen ∧ t.cls.length ≤ maxLen := by
    have h := hfit.1
    simp only [TermG.av, TermG.cs_eq, AV.fit, AV.fits] at h
    exact ⟨by simpa using h.2.2.2.2.1.1, by simpa using h.2.2.2.2.2.1.1⟩
  clear hfit
  refine acalls_of Tryz.func60 rfl (by decide +kernel) (aw_seq (awp_sound (mu := []) _ _ _ ?_))
  simp only [go_sem, Nat.reduceEqDiff, Nat.reduceAdd, Nat.reduceSub, Nat.reduceLT, Nat.reduceMul, Nat.reduceBEq, Nat.reduceLeDiff, ↓reduceIte, Int.reduceToNat, Nat.reduceGT, Int.reduceLE, Int.reduceLT, Int.reduceGE, Int.reduceGT, Int.reduceEq, Int.reduceNe, reduceCtorEq, TermG.av, TermG.cs_eq, scopeAV]
  intro q4 q5
  refine aw_cut 94 (fun _ : Unit => [(2, .v (.map (some x))), (3, .v (.map (some y))), (4, .ref q4 [.v (.int .i64 t.op), .v (.int .i64 t.n), .v (.string (bs t.name)), .v (.int .i64 t.ty), .lst 6 t.ha (t.args.map TermG.av), .lst 7 t.hc (t.cls.map ClauseG.av)]), (5, .ref q5 [.v (.map (some bv)), .v (.map (some bl))])])
    (fun _ => HS hp x y (startP (hasB V) (hasB L) t.op t.name s)) (fun _ => True) (awp_sound (mu := []) _ _ _ ?_) ?_
  · simp only [go_sem, Nat.reduceEqDiff, Nat.reduceAdd, Nat.reduceSub, Nat.reduceLT, Nat.reduceMul, Nat.reduceBEq, Nat.reduceLeDiff, ↓reduceIte, Int.reduceToNat, Nat.reduceGT, Int.reduceLE, Int.reduceLT, Int.reduceGE, Int.reduceGT, Int.reduceEq, Int.reduceNe, reduceCtorEq]
    refine brK_mk (fun b0 => ?_) (fun b0 => ?_) <;> simp only [go_sem, Nat.reduceEqDiff, Nat.reduceAdd, Nat.reduceSub, Nat.reduceLT, Nat.reduceMul, Nat.reduceBEq, Nat.reduceLeDiff, ↓reduceIte, Int.reduceToNat, Nat.reduceGT, Int.reduceLE, Int.reduceLT, Int.reduceGE, Int.reduceGT, Int.reduceEq, Int.reduceNe, reduceCtorEq, b0, hV, hL, mfind_ents]
    · have o0 : t.op = 0 := of_decide_eq_true b0
      have o12 : ¬ t.op = 12 := by omega
      refine brK_mk (fun b1 => ?_) (fun b1 => ?_) <;> simp only [go_sem, Nat.reduceEqDiff, Nat.reduceAdd, Nat.reduceSub, Nat.reduceLT, Nat.reduceMul, Nat.reduceBEq, Nat.reduceLeDiff, ↓reduceIte, Int.reduceToNat, Nat.reduceGT, Int.reduceLE, Int.reduceLT, Int.reduceGE, Int.reduceGT, Int.reduceEq, Int.reduceNe, reduceCtorEq, b1, hx, mset_ins]
      · have hb : hasB V t.name = true := by simpa using b1
        refine ⟨(), le_mkSl rfl ?_ (by simp [go_sem])⟩
        rw [startP_o (fun _ => hb) (fun h => absurd h o12), hs_self hx hy]
        exact Hp.le_refl _
      · have hb : hasB V t.name = false := by simpa using b1
        refine ⟨(), le_mkSl rfl ?_ (by simp [go_sem])⟩
        rw [startP_v o0 hb, HS, setMp_id _ y _ (by simp [Hp.setMp, Ne.symm hxy, hy])]
        exact Hp.le_refl _
    · have o0 : ¬ t.op = 0 := of_decide_eq_false b0
      refine brK_mk (fun b2 => ?_) (fun b2 => ?_) <;> simp only [go_sem, Nat.reduceEqDiff, Nat.reduceAdd, Nat.reduceSub, Nat.reduceLT, Nat.reduceMul, Nat.reduceBEq, Nat.reduceLeDiff, ↓reduceIte, Int.reduceToNat, Nat.reduceGT, Int.reduceLE, Int.reduceLT, Int.reduceGE, Int.reduceGT, Int.reduceEq, Int.reduceNe, reduceCtorEq, b2, hV, hL, mfind_ents]
      · have o12 : t.op = 12 := of_decide_eq_true b2
        refine brK_mk (fun b1 => ?_) (fun b1 => ?_) <;> simp only [go_sem, Nat.reduceEqDiff, Nat.reduceAdd, Nat.reduceSub, Nat.reduceLT, Nat.reduceMul, Nat.reduceBEq, Nat.reduceLeDiff, ↓reduceIte, Int.reduceToNat, Nat.reduceGT, Int.reduceLE, Int.reduceLT, Int.reduceGE, Int.reduceGT, Int.reduceEq, Int.reduceNe, reduceCtorEq, b1, hy, mset_ins]
        · have hb : hasB L t.name = true := by simpa using b1
          refine ⟨(), le_mkSl rfl ?_ (by simp [go_sem])⟩
          rw [startP_o (fun h => absurd h o0) (fun _ => hb), hs_self hx hy]
          exact Hp.le_refl _
        · have hb : hasB L t.name = false := by simpa using b1
          refine ⟨(), le_mkSl rfl ?_ (by simp [go_sem])⟩
          rw [startP_l o12 hb, HS, setMp_id _ x _ hx]
          exact Hp.le_refl _
      · have o12 : ¬ t.op = 12 := of_decide_eq_false b2
        refine ⟨(), le_mkSl rfl ?_ (by simp [go_sem])⟩
        rw [startP_o (fun h => absurd h o0) (fun h => absurd h o12), hs_self hx hy]
        exact Hp.le_refl _
  · rintro ⟨⟩ -
    obtain ⟨S0, e0⟩ : ∃ S0, startP (hasB V) (hasB L) t.op t.name s = S0 := ⟨_, rfl⟩
    have hft := fpT_eq (hasB V) (hasB L) t s
    rw [e0] at hft ⊢
    refine awp_sound (mu := [10]) _ _ _ ?_
    simp only [go_sem, Nat.reduceEqDiff, Nat.reduceAdd, Nat.reduceSub, Nat.reduceLT, Nat.reduceMul, Nat.reduceBEq, Nat.reduceLeDiff, ↓reduceIte, Int.reduceToNat, Nat.reduceGT, Int.reduceLE, Int.reduceLT, Int.reduceGE, Int.reduceGT, Int.reduceEq, Int.reduceNe, reduceCtorEq]
    refine aw_loopX 94 (fun z : Nat × SS => [(2, .v (.map (some x))), (3, .v (.map (some y))), (4, .ref q4 [.v (.int .i64 t.op), .v (.int .i64 t.n), .v (.string (bs t.name)), .v (.int .i64 t.ty), .lst 6 t.ha (t.args.map TermG.av), .lst 7 t.hc (t.cls.map ClauseG.av)]), (5, .ref q5 [.v (.map (some bv)), .v (.map (some bl))]), (38, .lst 6 t.ha (t.args.map TermG.av)), (39, .v (.int .i64 t.args.length)), (40, .v (.int .i64 z.1))])
      (fun z => HS hp x y z.2) (fun z => z.1 ≤ t.args.length ∧ fpA (hasB V) (hasB L) t.op t.name z.1 (t.args.drop z.1) z.2 = fpA (hasB V) (hasB L) t.op t.name 0 t.args S0) (fun z => t.args.length - z.1) (0, S0)
      ⟨Nat.zero_le _, rfl⟩ (le_mkSl rfl (Hp.le_refl _) (by simp [go_sem])) ?_
    rintro ⟨k, S⟩ ⟨hk, hd⟩
    simp only at hk hd
    refine awp_sound (mu := [10]) _ _ _ ?_
    simp only [go_sem, Nat.reduceEqDiff, Nat.reduceAdd, Nat.reduceSub, Nat.reduceLT, Nat.reduceMul, Nat.reduceBEq, Nat.reduceLeDiff, ↓reduceIte, Int.reduceToNat, Nat.reduceGT, Int.reduceLE, Int.reduceLT, Int.reduceGE, Int.reduceGT, Int.reduceEq, Int.reduceNe, reduceCtorEq]
    refine brK_mk (fun b1 => ?_) (fun b1 => ?_) <;> simp only [go_sem, Nat.reduceEqDiff, Nat.reduceAdd, Nat.reduceSub, Nat.reduceLT, Nat.reduceMul, Nat.reduceBEq, Nat.reduceLeDiff, ↓reduceIte, Int.reduceToNat, Nat.reduceGT, Int.reduceLE, Int.reduceLT, Int.reduceGE, Int.reduceGT, Int.reduceEq, Int.reduceNe, reduceCtorEq, b1]
    · have hk' : k < t.args.length := by simpa using b1
      obtain ⟨a, ha⟩ := someAt t.args k hk'
      have hmem := List.mem_of_getElem? ha
      have hwu := upK k _ hk' hla.1
      have hlt := args_lt hmem
      simp only [go_sem, Nat.reduceEqDiff, Nat.reduceAdd, Nat.reduceSub, Nat.reduceLT, Nat.reduceMul, Nat.reduceBEq, Nat.reduceLeDiff, ↓reduceIte, Int.reduceToNat, Nat.reduceGT, Int.reduceLE, Int.reduceLT, Int.reduceGE, Int.reduceGT, Int.reduceEq, Int.reduceNe, reduceCtorEq, mapAt TermG.av _ _ _ ha, TermG.av, TermG.cs_eq]
      intro v hv
      have hdv := fun T cs => Hp.del_set _ _ T cs hv.1
      simp only [go_sem, Nat.reduceEqDiff, Nat.reduceAdd, Nat.reduceSub, Nat.reduceLT, Nat.reduceMul, Nat.reduceBEq, Nat.reduceLeDiff, ↓reduceIte, Int.reduceToNat, Nat.reduceGT, Int.reduceLE, Int.reduceLT, Int.reduceGE, Int.reduceGT, Int.reduceEq, Int.reduceNe, reduceCtorEq, hdv]
      intro b hbf
      have hbb : hp.blk b = none := hbf.1
      have hbl : ∀ (T : TypeId) (cs : List AV) (i : Nat) (z : TypeId × List AV), hp.blk i = some z → (if i = b then some (T, cs) else hp.blk i) = some z := fun T cs i z h => by
        rw [if_neg (fun e => by rw [e, hbb] at h; cases h)]; exact h
      have hmp : ∀ (b2 : Nat), (HS hp x y S).mp b2 = none → ∀ (es : List (Value × AV)) (i : Nat) (z : List (Value × AV)), i ≠ x → i ≠ y → hp.mp i = some z → (if i = b2 then some es else (HS hp x y S).mp i) = some z := fun b2 h es i z e1 e2 hi => by
        rw [← hs_o hp e1 e2 S] at hi
        rw [if_neg (fun e => by rw [e, h] at hi; cases hi)]; exact hi
      have hVk : (HS hp x y S).mp bv = some (ents V) := by rw [hs_o _ hvx hvy]; exact hV
      have hLk : (HS hp x y S).mp bl = some (ents L) := by rw [hs_o _ hlx hly]; exact hL
      have hxk := hs_x hp hxy S
      have hyk := hs_y hp x y S
      by_cases o8 : t.op = 8 ∧ k = 1
      · have o11 : ¬ t.op = 11 := by omega
        have k1 : decide ((k : Int) = 1) = true := decide_eq_true (by omega)
        have ev : argV (hasB V) t.op t.name k = hasB (insL V [t.name]) := by rw [argV, if_pos o8, addL_ins]; funext z; simp [addL, addP, hasB]
        have el : argL0 (hasB L) t.op t.name k = hasB L := by rw [argL0, if_neg (by omega)]
        simp only [go_sem, Nat.reduceEqDiff, Nat.reduceAdd, Nat.reduceSub, Nat.reduceLT, Nat.reduceMul, Nat.reduceBEq, Nat.reduceLeDiff, ↓reduceIte, Int.reduceToNat, Nat.reduceGT, Int.reduceLE, Int.reduceLT, Int.reduceGE, Int.reduceGT, Int.reduceEq, Int.reduceNe, reduceCtorEq, decide_eq_true o8.1, k1, decide_eq_false o11, hdv]
        refine ⟨rfl, by simp, fun hd2 => ?_⟩
        have cw := fun (hp9 : Hp) (q : hp9.mp bv = some (ents V)) => with_calls (bv := bv) (bl := bl) hd2 [t.name] hp9 q
        simp only [strsAV, scopeAV, List.map_cons, List.map_nil] at cw
        refine callX_by (cw _ ?_) ?_
        · exact hVk
        clear cw
        rintro r hp2 ⟨b2, rfl, hb2, rfl⟩
        have hb2' : (HS hp x y S).mp b2 = none := hb2
        have n1 : b2 ≠ x := by rintro rfl; rw [hxk] at hb2'; cases hb2'
        have n2 : b2 ≠ y := by rintro rfl; rw [hyk] at hb2'; cases hb2'
        have n3 : bl ≠ b2 := by rintro rfl; rw [hLk] at hb2'; cases hb2'
        have c := fun (hp9 : Hp) (q1 : hp9.mp b2 = some (ents (insL V [t.name]))) (q2 : hp9.mp bl = some (ents L)) (q3 : hp9.mp x = some (ents S.1)) (q4 : hp9.mp y = some (ents S.2)) => hrec a (by omega) hp9 b2 bl x y (insL V [t.name]) L S q1 q2 q3 q4 hxy n1 n2 hlx hly
        simp only [TermG.av, TermG.cs_eq, scopeAV] at c
        simp only [go_sem, Nat.reduceEqDiff, Nat.reduceAdd, Nat.reduceSub, Nat.reduceLT, Nat.reduceMul, Nat.reduceBEq, Nat.reduceLeDiff, ↓reduceIte, Int.reduceToNat, Nat.reduceGT, Int.reduceLE, Int.reduceLT, Int.reduceGE, Int.reduceGT, Int.reduceEq, Int.reduceNe, reduceCtorEq]
        refine callX_by (c _ ?_ ?_ ?_ ?_) ?_
        · simp [Hp.setMp, Hp.setBlk]
        · simp [Hp.setMp, Hp.setBlk, Hp.setSp, n3, hLk]
        · simp [Hp.setMp, Hp.setBlk, Hp.setSp, Ne.symm n1, hxk]
        · simp [Hp.setMp, Hp.setBlk, Hp.setSp, Ne.symm n2, hyk]
        clear c
        rintro r hp2 ⟨rfl, rfl⟩
        simp only [go_sem, Nat.reduceEqDiff, Nat.reduceAdd, Nat.reduceSub, Nat.reduceLT, Nat.reduceMul, Nat.reduceBEq, Nat.reduceLeDiff, ↓reduceIte, Int.reduceToNat, Nat.reduceGT, Int.reduceLE, Int.reduceLT, Int.reduceGE, Int.reduceGT, Int.reduceEq, Int.reduceNe, reduceCtorEq, hwu]
        exact ⟨(k + 1, fpT (hasB (insL V [t.name])) (hasB L) a S), by simp only; omega, ⟨by simp only; omega, by rw [← hd, fpA_drop ha, ev, el]⟩, le_mkSl rfl (by simp only [go_sem, Nat.reduceEqDiff, Nat.reduceAdd, Nat.reduceSub, Nat.reduceLT, Nat.reduceMul, Nat.reduceBEq, Nat.reduceLeDiff, ↓reduceIte, Int.reduceToNat, Nat.reduceGT, Int.reduceLE, Int.reduceLT, Int.reduceGE, Int.reduceGT, Int.reduceEq, Int.reduceNe, reduceCtorEq, hdv]; exact hs_le (fun i z h => by have e : i ≠ b := (fun e => by rw [e, hbb] at h; cases h); simpa [Hp.setMp, Hp.setBlk, Hp.setSp, HS, e] using h) (fun i z e1 e2 h => by have e : i ≠ b2 := (fun e => by rw [hs_o hp n1 n2] at hb2'; rw [e, hb2'] at h; cases h); simpa [Hp.setMp, Hp.setBlk, Hp.setSp, HS, e, e1, e2] using h) (List.sublist_cons_self _ _) (fun _ h => h)) (by simp [go_sem, hwu])⟩
      · by_cases o11 : t.op = 11 ∧ k = 0
        · have o8' : ¬ t.op = 8 := by omega
          have k1 : decide ((k : Int) = 0) = true := decide_eq_true (by omega)
          have ev : argV (hasB V) t.op t.name k = hasB V := by rw [argV, if_neg (by omega)]
          have el : argL0 (hasB L) t.op t.name k = hasB (insB L t.name) := by rw [argL0, if_pos o11, addP_ins]
          simp only [go_sem, Nat.reduceEqDiff, Nat.reduceAdd, Nat.reduceSub, Nat.reduceLT, Nat.reduceMul, Nat.reduceBEq, Nat.reduceLeDiff, ↓reduceIte, Int.reduceToNat, Nat.reduceGT, Int.reduceLE, Int.reduceLT, Int.reduceGE, Int.reduceGT, Int.reduceEq, Int.reduceNe, reduceCtorEq, decide_eq_true o11.1, k1, decide_eq_false o8', hdv]
          have cw := fun (hp9 : Hp) (q : hp9.mp bl = some (ents L)) => label_calls (bv := bv) (bl := bl) t.name hp9 q
          simp only [scopeAV] at cw
          refine callX_by (cw _ ?_) ?_
          · exact hLk
          clear cw
          rintro r hp2 ⟨b2, rfl, hb2, rfl⟩
          have hb2' : (HS hp x y S).mp b2 = none := hb2
          have n1 : b2 ≠ x := by rintro rfl; rw [hxk] at hb2'; cases hb2'
          have n2 : b2 ≠ y := by rintro rfl; rw [hyk] at hb2'; cases hb2'
          have n3 : bv ≠ b2 := by rintro rfl; rw [hVk] at hb2'; cases hb2'
          have c := fun (hp9 : Hp) (q1 : hp9.mp bv = some (ents V)) (q2 : hp9.mp b2 = some (ents (insB L t.name))) (q3 : hp9.mp x = some (ents S.1)) (q4 : hp9.mp y = some (ents S.2)) => hrec a (by omega) hp9 bv b2 x y V (insB L t.name) S q1 q2 q3 q4 hxy hvx hvy n1 n2
          simp only [TermG.av, TermG.cs_eq, scopeAV] at c
          simp only [go_sem, Nat.reduceEqDiff, Nat.reduceAdd, Nat.reduceSub, Nat.reduceLT, Nat.reduceMul, Nat.reduceBEq, Nat.reduceLeDiff, ↓reduceIte, Int.reduceToNat, Nat.reduceGT, Int.reduceLE, Int.reduceLT, Int.reduceGE, Int.reduceGT, Int.reduceEq, Int.reduceNe, reduceCtorEq]
          refine callX_by (c _ ?_ ?_ ?_ ?_) ?_
          · simp [Hp.setMp, Hp.setBlk, Hp.setSp, n3, hVk]
          · simp [Hp.setMp, Hp.setBlk]
          · simp [Hp.setMp, Hp.setBlk, Hp.setSp, Ne.symm n1, hxk]
          · simp [Hp.setMp, Hp.setBlk, Hp.setSp, Ne.symm n2, hyk]
          clear c
          rintro r hp2 ⟨rfl, rfl⟩
          simp only [go_sem, Nat.reduceEqDiff, Nat.reduceAdd, Nat.reduceSub, Nat.reduceLT, Nat.reduceMul, Nat.reduceBEq, Nat.reduceLeDiff, ↓reduceIte, Int.reduceToNat, Nat.reduceGT, Int.reduceLE, Int.reduceLT, Int.reduceGE, Int.reduceGT, Int.reduceEq, Int.reduceNe, reduceCtorEq, hwu]
          exact ⟨(k + 1, fpT (hasB V) (hasB (insB L t.name)) a S), by simp only; omega, ⟨by simp only; omega, by rw [← hd, fpA_drop ha, ev, el]⟩, le_mkSl rfl (by simp only [go_sem, Nat.reduceEqDiff, Nat.reduceAdd, Nat.reduceSub, Nat.reduceLT, Nat.reduceMul, Nat.reduceBEq, Nat.reduceLeDiff, ↓reduceIte, Int.reduceToNat, Nat.reduceGT, Int.reduceLE, Int.reduceLT, Int.reduceGE, Int.reduceGT, Int.reduceEq, Int.reduceNe, reduceCtorEq, hdv]; exact hs_le (fun i z h => by have e : i ≠ b := (fun e => by rw [e, hbb] at h; cases h); simpa [Hp.setMp, Hp.setBlk, Hp.setSp, HS, e] using h) (fun i z e1 e2 h => by have e : i ≠ b2 := (fun e => by rw [hs_o hp n1 n2] at hb2'; rw [e, hb2'] at h; cases h); simpa [Hp.setMp, Hp.setBlk, Hp.setSp, HS, e, e1, e2] using h) (List.Sublist.refl _) (fun _ h => h)) (by simp [go_sem, hwu])⟩
        · have ev : argV (hasB V) t.op t.name k = hasB V := by rw [argV, if_neg (by omega)]
          have el : argL0 (hasB L) t.op t.name k = hasB L := by rw [argL0, if_neg (by omega)]
          have z8 : t.op = 8 → decide ((k : Int) = 1) = false := fun h => decide_eq_false (by omega)
          have z11 : t.op = 11 → decide ((k : Int) = 0) = false := fun h => decide_eq_false (by omega)
          by_cases q8 : t.op = 8
          · have q11 : ¬ t.op = 11 := by omega
            simp only [go_sem, Nat.reduceEqDiff, Nat.reduceAdd, Nat.reduceSub, Nat.reduceLT, Nat.reduceMul, Nat.reduceBEq, Nat.reduceLeDiff, ↓reduceIte, Int.reduceToNat, Nat.reduceGT, Int.reduceLE, Int.reduceLT, Int.reduceGE, Int.reduceGT, Int.reduceEq, Int.reduceNe, reduceCtorEq, decide_eq_true q8, z8 q8, decide_eq_false q11, hdv]
            have c := fun (hp9 : Hp) (q1 : hp9.mp bv = some (ents V)) (q2 : hp9.mp bl = some (ents L)) (q3 : hp9.mp x = some (ents S.1)) (q4 : hp9.mp y = some (ents S.2)) => hrec a (by omega) hp9 bv bl x y V L S q1 q2 q3 q4 hxy hvx hvy hlx hly
            simp only [TermG.av, TermG.cs_eq, scopeAV] at c
            refine callX_by (c _ ?_ ?_ ?_ ?_) ?_
            · simp [Hp.setMp, Hp.setBlk, Hp.setSp, hVk]
            · simp [Hp.setMp, Hp.setBlk, Hp.setSp, hLk]
            · simp [Hp.setMp, Hp.setBlk, Hp.setSp, hxk]
            · simp [Hp.setMp, Hp.setBlk, Hp.setSp, hyk]
            clear c
            rintro r hp2 ⟨rfl, rfl⟩
            simp only [go_sem, Nat.reduceEqDiff, Nat.reduceAdd, Nat.reduceSub, Nat.reduceLT, Nat.reduceMul, Nat.reduceBEq, Nat.reduceLeDiff, ↓reduceIte, Int.reduceToNat, Nat.reduceGT, Int.reduceLE, Int.reduceLT, Int.reduceGE, Int.reduceGT, Int.reduceEq, Int.reduceNe, reduceCtorEq, hwu]
            exact ⟨(k + 1, fpT (hasB V) (hasB L) a S), by simp only; omega, ⟨by simp only; omega, by rw [← hd, fpA_drop ha, ev, el]⟩, le_mkSl rfl (by simp only [go_sem, Nat.reduceEqDiff, Nat.reduceAdd, Nat.reduceSub, Nat.reduceLT, Nat.reduceMul, Nat.reduceBEq, Nat.reduceLeDiff, ↓reduceIte, Int.reduceToNat, Nat.reduceGT, Int.reduceLE, Int.reduceLT, Int.reduceGE, Int.reduceGT, Int.reduceEq, Int.reduceNe, reduceCtorEq, hdv]; exact hs_le (fun i z h => by have e : i ≠ b := (fun e => by rw [e, hbb] at h; cases h); simpa [Hp.setMp, Hp.setBlk, Hp.setSp, HS, e] using h) (fun i z e1 e2 h => by simpa [Hp.setMp, Hp.setBlk, Hp.setSp, HS, e1, e2] using h) (List.Sublist.refl _) (fun _ h => h)) (by simp [go_sem, hwu])⟩
          · by_cases q11 : t.op = 11
            · simp only [go_sem, Nat.reduceEqDiff, Nat.reduceAdd, Nat.reduceSub, Nat.reduceLT, Nat.reduceMul, Nat.reduceBEq, Nat.reduceLeDiff, ↓reduceIte, Int.reduceToNat, Nat.reduceGT, Int.reduceLE, Int.reduceLT, Int.reduceGE, Int.reduceGT, Int.reduceEq, Int.reduceNe, reduceCtorEq, decide_eq_true q11, z11 q11, decide_eq_false q8, hdv]
              have c := fun (hp9 : Hp) (q1 : hp9.mp bv = some (ents V)) (q2 : hp9.mp bl = some (ents L)) (q3 : hp9.mp x = some (ents S.1)) (q4 : hp9.mp y = some (ents S.2)) => hrec a (by omega) hp9 bv bl x y V L S q1 q2 q3 q4 hxy hvx hvy hlx hly
              simp only [TermG.av, TermG.cs_eq, scopeAV] at c
              refine callX_by (c _ ?_ ?_ ?_ ?_) ?_
              · simp [Hp.setMp, Hp.setBlk, Hp.setSp, hVk]
              · simp [Hp.setMp, Hp.setBlk, Hp.setSp, hLk]
              · simp [Hp.setMp, Hp.setBlk, Hp.setSp, hxk]
              · simp [Hp.setMp, Hp.setBlk, Hp.setSp, hyk]
              clear c
              rintro r hp2 ⟨rfl, rfl⟩
              simp only [go_sem, Nat.reduceEqDiff, Nat.reduceAdd, Nat.reduceSub, Nat.reduceLT, Nat.reduceMul, Nat.reduceBEq, Nat.reduceLeDiff, ↓reduceIte, Int.reduceToNat, Nat.reduceGT, Int.reduceLE, Int.reduceLT, Int.reduceGE, Int.reduceGT, Int.reduceEq, Int.reduceNe, reduceCtorEq, hwu]
              exact ⟨(k + 1, fpT (hasB V) (hasB L) a S), by simp only; omega, ⟨by simp only; omega, by rw [← hd, fpA_drop ha, ev, el]⟩, le_mkSl rfl (by simp only [go_sem, Nat.reduceEqDiff, Nat.reduceAdd, Nat.reduceSub, Nat.reduceLT, Nat.reduceMul, Nat.reduceBEq, Nat.reduceLeDiff, ↓reduceIte, Int.reduceToNat, Nat.reduceGT, Int.reduceLE, Int.reduceLT, Int.reduceGE, Int.reduceGT, Int.reduceEq, Int.reduceNe, reduceCtorEq, hdv]; exact hs_le (fun i z h => by have e : i ≠ b := (fun e => by rw [e, hbb] at h; cases h); simpa [Hp.setMp, Hp.setBlk, Hp.setSp, HS, e] using h) (fun i z e1 e2 h => by simpa [Hp.setMp, Hp.setBlk, Hp.setSp, HS, e1, e2] using h) (List.Sublist.refl _) (fun _ h => h)) (by simp [go_sem, hwu])⟩
            · simp only [go_sem, Nat.reduceEqDiff, Nat.reduceAdd, Nat.reduceSub, Nat.reduceLT, Nat.reduceMul, Nat.reduceBEq, Nat.reduceLeDiff, ↓reduceIte, Int.reduceToNat, Nat.reduceGT, Int.reduceLE, Int.reduceLT, Int.reduceGE, Int.reduceGT, Int.reduceEq, Int.reduceNe, reduceCtorEq, decide_eq_false q11, decide_eq_false q8, hdv]
              have c := fun (hp9 : Hp) (q1 : hp9.mp bv = some (ents V)) (q2 : hp9.mp bl = some (ents L)) (q3 : hp9.mp x = some (ents S.1)) (q4 : hp9.mp y = some (ents S.2)) => hrec a (by omega) hp9 bv bl x y V L S q1 q2 q3 q4 hxy hvx hvy hlx hly
              simp only [TermG.av, TermG.cs_eq, scopeAV] at c
              refine callX_by (c _ ?_ ?_ ?_ ?_) ?_
              · simp [Hp.setMp, Hp.setBlk, Hp.setSp, hVk]
              · simp [Hp.setMp, Hp.setBlk, Hp.setSp, hLk]
              · simp [Hp.setMp, Hp.setBlk, Hp.setSp, hxk]
              · simp [Hp.setMp, Hp.setBlk, Hp.setSp, hyk]
              clear c
              rintro r hp2 ⟨rfl, rfl⟩
              simp only [go_sem, Nat.reduceEqDiff, Nat.reduceAdd, Nat.reduceSub, Nat.reduceLT, Nat.reduceMul, Nat.reduceBEq, Nat.reduceLeDiff, ↓reduceIte, Int.reduceToNat, Nat.reduceGT, Int.reduceLE, Int.reduceLT, Int.reduceGE, Int.reduceGT, Int.reduceEq, Int.reduceNe, reduceCtorEq, hwu]
              exact ⟨(k + 1, fpT (hasB V) (hasB L) a S), by simp only; omega, ⟨by simp only; omega, by rw [← hd, fpA_drop ha, ev, el]⟩, le_mkSl rfl (by simp only [go_sem, Nat.reduceEqDiff, Nat.reduceAdd, Nat.reduceSub, Nat.reduceLT, Nat.reduceMul, Nat.reduceBEq, Nat.reduceLeDiff, ↓reduceIte, Int.reduceToNat, Nat.reduceGT, Int.reduceLE, Int.reduceLT, Int.reduceGE, Int.reduceGT, Int.reduceEq, Int.reduceNe, reduceCtorEq, hdv]; exact hs_le (fun i z h => by have e : i ≠ b := (fun e => by rw [e, hbb] at h; cases h); simpa [Hp.setMp, Hp.setBlk, Hp.setSp, HS, e] using h) (fun i z e1 e2 h => by simpa [Hp.setMp, Hp.setBlk, Hp.setSp, HS, e1, e2] using h) (List.Sublist.refl _) (fun _ h => h)) (by simp [go_sem, hwu])⟩
    · have ek : k = t.args.length := by have := of_decide_eq_false b1; omega
      subst ek
      rw [List.drop_of_length_le (Nat.le_refl _), fpA] at hd
      rw [← hd] at hft
      clear hd
      refine aw_loopX 94 (fun z : Nat × SS => [(2, .v (.map (some x))), (3, .v (.map (some y))), (5, .ref q5 [.v (.map (some bv)), .v (.map (some bl))]), (78, .lst 7 t.hc (t.cls.map ClauseG.av)), (79, .v (.int .i64 t.cls.length)), (80, .v (.int .i64 z.1))])
        (fun z => HS hp x y z.2) (fun z => z.1 ≤ t.cls.length ∧ fpC (hasB V) (hasB L) (t.cls.drop z.1) z.2 = fpC (hasB V) (hasB L) t.cls S) (fun z => t.cls.length - z.1) (0, S)
        ⟨Nat.zero_le _, rfl⟩ (le_mkSl rfl (by simp only [go_sem, Nat.reduceEqDiff, Nat.reduceAdd, Nat.reduceSub, Nat.reduceLT, Nat.reduceMul, Nat.reduceBEq, Nat.reduceLeDiff, ↓reduceIte, Int.reduceToNat, Nat.reduceGT, Int.reduceLE, Int.reduceLT, Int.reduceGE, Int.reduceGT, Int.reduceEq, Int.reduceNe, reduceCtorEq]; exact Hp.le_refl _) (by simp [go_sem])) ?_
      rintro ⟨k, S1⟩ ⟨hk, hd⟩
      simp only at hk hd
      refine awp_sound (mu := []) _ _ _ ?_
      simp only [go_sem, Nat.reduceEqDiff, Nat.reduceAdd, Nat.reduceSub, Nat.reduceLT, Nat.reduceMul, Nat.reduceBEq, Nat.reduceLeDiff, ↓reduceIte, Int.reduceToNat, Nat.reduceGT, Int.reduceLE, Int.reduceLT, Int.reduceGE, Int.reduceGT, Int.reduceEq, Int.reduceNe, reduceCtorEq]
      refine brK_mk (fun b1 => ?_) (fun b1 => ?_) <;> simp only [go_sem, Nat.reduceEqDiff, Nat.reduceAdd, Nat.reduceSub, Nat.reduceLT, Nat.reduceMul, Nat.reduceBEq, Nat.reduceLeDiff, ↓reduceIte, Int.reduceToNat, Nat.reduceGT, Int.reduceLE, Int.reduceLT, Int.reduceGE, Int.reduceGT, Int.reduceEq, Int.reduceNe, reduceCtorEq, b1]
      · have hk' : k < t.cls.length := by simpa using b1
        obtain ⟨c1, hc1⟩ := someAt t.cls k hk'
        have hmem := List.mem_of_getElem? hc1
        have hwu := upK k _ hk' hla.2
        have hlt := cls_lt hmem
        simp only [go_sem, Nat.reduceEqDiff, Nat.reduceAdd, Nat.reduceSub, Nat.reduceLT, Nat.reduceMul, Nat.reduceBEq, Nat.reduceLeDiff, ↓reduceIte, Int.reduceToNat, Nat.reduceGT, Int.reduceLE, Int.reduceLT, Int.reduceGE, Int.reduceGT, Int.reduceEq, Int.reduceNe, reduceCtorEq, mapAt ClauseG.av _ _ _ hc1, ClauseG.av, ClauseG.cs_eq]
        intro v hv
        have hdv := fun T cs => Hp.del_set _ _ T cs hv.1
        simp only [hdv]
        have hVk : (HS hp x y S1).mp bv = some (ents V) := by rw [hs_o _ hvx hvy]; exact hV
        have hLk : (HS hp x y S1).mp bl = some (ents L) := by rw [hs_o _ hlx hly]; exact hL
        have hxk := hs_x hp hxy S1
        have hyk := hs_y hp x y S1
        refine draw_by (mu := []) (fun h => True) (.take 0 (.take 1 (.take 2 (.take 3 (.take 4 (.take 6 (.take 7 (.br 5 (.br 8 (.done) (.stop)) (.stop))))))))) (by decide +kernel) trivial (by decide +kernel) (by decide +kernel) ?_
        simp only [go_sem, Nat.reduceEqDiff, Nat.reduceAdd, Nat.reduceSub, Nat.reduceLT, Nat.reduceMul, Nat.reduceBEq, Nat.reduceLeDiff, ↓reduceIte, Int.reduceToNat, Nat.reduceGT, Int.reduceLE, Int.reduceLT, Int.reduceGE, Int.reduceGT, Int.reduceEq, Int.reduceNe, reduceCtorEq]
        have cw := fun (hp9 : Hp) (q : hp9.mp bv = some (ents V)) => with_calls (bv := bv) (bl := bl) c1.hn c1.names hp9 q
        simp only [strsAV, scopeAV] at cw
        refine callX_by (cw _ ?_) ?_
        · exact hVk
        clear cw
        rintro r hp2 ⟨b2, rfl, hb2, rfl⟩
        have hb2' : (HS hp x y S1).mp b2 = none := hb2
        have n1 : b2 ≠ x := by rintro rfl; rw [hxk] at hb2'; cases hb2'
        have n2 : b2 ≠ y := by rintro rfl; rw [hyk] at hb2'; cases hb2'
        have n3 : bl ≠ b2 := by rintro rfl; rw [hLk] at hb2'; cases hb2'
        simp only [go_sem, Nat.reduceEqDiff, Nat.reduceAdd, Nat.reduceSub, Nat.reduceLT, Nat.reduceMul, Nat.reduceBEq, Nat.reduceLeDiff, ↓reduceIte, Int.reduceToNat, Nat.reduceGT, Int.reduceLE, Int.reduceLT, Int.reduceGE, Int.reduceGT, Int.reduceEq, Int.reduceNe, reduceCtorEq]
        have c := fun (hp9 : Hp) (q1 : hp9.mp b2 = some (ents (insL V c1.names))) (q2 : hp9.mp bl = some (ents L)) (q3 : hp9.mp x = some (ents S1.1)) (q4 : hp9.mp y = some (ents S1.2)) => hrec c1.body (by omega) hp9 b2 bl x y (insL V c1.names) L S1 q1 q2 q3 q4 hxy n1 n2 hlx hly
        simp only [TermG.av, TermG.cs_eq, scopeAV] at c
        refine callX_by (c _ ?_ ?_ ?_ ?_) ?_
        · simp [Hp.setMp, Hp.setBlk]
        · simp [Hp.setMp, Hp.setBlk, Hp.setSp, n3, hLk]
        · simp [Hp.setMp, Hp.setBlk, Hp.setSp, Ne.symm n1, hxk]
        · simp [Hp.setMp, Hp.setBlk, Hp.setSp, Ne.symm n2, hyk]
        clear c
        rintro r hp2 ⟨rfl, rfl⟩
        simp only [go_sem, Nat.reduceEqDiff, Nat.reduceAdd, Nat.reduceSub, Nat.reduceLT, Nat.reduceMul, Nat.reduceBEq, Nat.reduceLeDiff, ↓reduceIte, Int.reduceToNat, Nat.reduceGT, Int.reduceLE, Int.reduceLT, Int.reduceGE, Int.reduceGT, Int.reduceEq, Int.reduceNe, reduceCtorEq, hwu]
        exact ⟨(k + 1, fpT (hasB (insL V c1.names)) (hasB L) c1.body S1), by simp only; omega, ⟨by simp only; omega, by rw [← hd, fpC_drop hc1, addL_ins]⟩, le_mkSl rfl (by simp only [go_sem, Nat.reduceEqDiff, Nat.reduceAdd, Nat.reduceSub, Nat.reduceLT, Nat.reduceMul, Nat.reduceBEq, Nat.reduceLeDiff, ↓reduceIte, Int.reduceToNat, Nat.reduceGT, Int.reduceLE, Int.reduceLT, Int.reduceGE, Int.reduceGT, Int.reduceEq, Int.reduceNe, reduceCtorEq, hdv]; exact hs_le (fun i z h => by simpa [Hp.setMp, Hp.setBlk, Hp.setSp, HS] using h) (fun i z e1 e2 h => by have e : i ≠ b2 := (fun e => by rw [hs_o hp n1 n2] at hb2'; rw [e, hb2'] at h; cases h); simpa [Hp.setMp, Hp.setBlk, Hp.setSp, HS, e, e1, e2] using h) (List.Sublist.refl _) (fun _ h => h)) (by simp [go_sem, hwu])⟩
      · have ek : k = t.cls.length := by have := of_decide_eq_false b1; omega
        subst ek
        rw [List.drop_of_length_le (Nat.le_refl _), fpC] at hd
        rw [← hd] at hft
        exact ret_same ⟨rfl, by rw [hft]⟩
theorem free_calls : ∀ N : Nat, FreeC N
  | 0 => fun t hN => by have := nodesT_pos t; omega
  | N + 1 => free_step (free_calls N)
/-- The free names that the program hands back: sorted. -/
def freeS (t : TermG) : SS := (sortS (fpT (fun _ => false) (fun _ => false) t ([], [])).1, sortS (fpT (fun _ => false) (fun _ => false) t ([], [])).2)
theorem freeS_eq (t : TermG) : freeS t = frT (fun _ => false) (fun _ => false) t ([], []) := by
  obtain ⟨h1, h2⟩ := fp_nil t
  rw [freeS, h1, h2]
theorem sortS_len (l : List Bytes) : (sortS l).length = l.length := (sortS_perm l).length_eq
theorem free_lens (t : TermG) : (fpT (fun _ => false) (fun _ => false) t ([], [])).1.length ≤ nodesT t ∧ (fpT (fun _ => false) (fun _ => false) t ([], [])).2.length ≤ nodesT t := by
  obtain ⟨h1, h2⟩ := fp_nil t
  have h := frT_len t (fun _ => false) (fun _ => false) ([], [])
  rw [← h1, ← h2, sortS_len, sortS_len] at h
  simpa using h
theorem keysS_calls (mb : Option Nat) (hp : Hp) : ACalls Tryz.prog 62 [.v (.map mb)] hp (fun r hp' => ∃ q, r = .v (.func (.func 106) #[] #[.pointer (some ⟨q, 0, none⟩)]) ∧ Fresh hp q ∧ hp' = hp.setBlk q 110 [.v (.map mb)]) :=
  acalls_keys (callable_of Tryz.func62 (by decide +kernel)) fun w => callsIn_wide.1 (keysS_in mb w)
theorem sortedS_calls {hp : Hp} {q b : Nat} {V : List Bytes} (hq : hp.blk q = some (110, [.v (.map (some b))])) (hb : hp.mp b = some (ents V)) (hV : ∀ s ∈ V, s.length ≤ maxLen) (hn : V.length ≤ 4194304) :
    ACalls Tryz.prog 61 [.v (.func (.func 106) #[] #[.pointer (some ⟨q, 0, none⟩)])] hp (fun r hp' => ∃ h, r = strsAV h (sortS V) ∧ hp' = hp.setSp ((9, 1, h) :: hp.sp)) :=
  acalls_sortedS (callable_of Tryz.func61 (by decide +kernel)) Tryz.underlying9 (fun b nn q D w h1 h2 h3 h4 => (callsIn_wide.1 (sortedS_in b nn q D anyR w h1 h2 h3 h4)).mono fun e w' ⟨v, ss, e1, e2, e3, _, e4⟩ => ⟨v, ss, e1, e2, e3, e4⟩) hq hb
    (by rw [ents, List.map_map]; rfl) hV hn
theorem freeT_calls (t : TermG) (hN : nodesT t ≤ 5000) (hs : shT t) (hp : Hp) : ACalls Tryz.prog 33 [t.av] hp (fun r hp' => ∃ h h', r = .tup [strsAV h (freeS t).1, strsAV h' (freeS t).2] ∧ hp' = hp.setSp ((9, 1, h') :: (9, 1, h) :: hp.sp)) := by
  have hln := free_lens t
  have hsh : ShS (fpT (fun _ => false) (fun _ => false) t ([], [])) := fpT_sh t hs ⟨by simp, by simp⟩
  refine acalls_of Tryz.func33 rfl (by decide +kernel) (awp_sound (mu := []) _ _ _ ?_)
  simp only [go_sem, Nat.reduceEqDiff, Nat.reduceAdd, Nat.reduceSub, Nat.reduceLT, Nat.reduceMul, Nat.reduceBEq, Nat.reduceLeDiff, ↓reduceIte, Int.reduceToNat, Nat.reduceGT, Int.reduceLE, Int.reduceLT, Int.reduceGE, Int.reduceGT, Int.reduceEq, Int.reduceNe, reduceCtorEq, TermG.av, TermG.cs_eq]
  intro q b hb1 b1 hb2 b2 hb3 b3 hb4
  have n1 : b1 ≠ b := by rintro rfl; have := hb2.2.1; simp [Hp.setMp] at this
  have n2 : b2 ≠ b ∧ b2 ≠ b1 := by
    constructor
    · rintro rfl; have := hb3.2.1; simp [Hp.setMp, Ne.symm n1] at this
    · rintro rfl; have := hb3.2.1; simp [Hp.setMp] at this
  have n3 : b3 ≠ b ∧ b3 ≠ b1 ∧ b3 ≠ b2 := by
    refine ⟨?_, ?_, ?_⟩
    · rintro rfl; have := hb4.2.1; simp [Hp.setMp, Ne.symm n1, Ne.symm n2.1] at this
    · rintro rfl; have := hb4.2.1; simp [Hp.setMp, n1, Ne.symm n2.2] at this
    · rintro rfl; have := hb4.2.1; simp [Hp.setMp] at this
  have p1 : hp.mp b = none := hb1.2.1
  have p2 : hp.mp b1 = none := by have := hb2.2.1; simpa [Hp.setMp, n1] using this
  have p3 : hp.mp b2 = none := by have := hb3.2.1; simpa [Hp.setMp, n2.1, n2.2] using this
  have p4 : hp.mp b3 = none := by have := hb4.2.1; simpa [Hp.setMp, n3.1, n3.2.1, n3.2.2] using this
  have hf : hasB [] = fun _ => false := by funext z; simp [hasB]
  have c := free_calls (nodesT t) t (Nat.le_refl _) ((((hp.setMp b []).setMp b1 []).setMp b2 []).setMp b3 []) b2 b3 b b1 [] [] ([], []) (by simp [Hp.setMp, ents, Ne.symm n3.2.2]) (by simp [Hp.setMp, ents]) (by simp [Hp.setMp, ents, Ne.symm n3.1, Ne.symm n2.1, Ne.symm n1]) (by simp [Hp.setMp, ents, Ne.symm n3.2.1, Ne.symm n2.2]) (Ne.symm n1) n2.1 n2.2 n3.1 n3.2.1
  rw [hf] at c
  obtain ⟨S, hS⟩ : ∃ S, fpT (fun _ => false) (fun _ => false) t ([], []) = S := ⟨_, rfl⟩
  rw [hS] at c hln hsh
  have hfs : freeS t = (sortS S.1, sortS S.2) := by rw [freeS, hS]
  rw [hfs]
  clear hfs hS
  simp only [TermG.av, TermG.cs_eq, scopeAV] at c
  refine callX_by c ?_
  clear c
  rintro r hp2 ⟨rfl, rfl⟩
  simp only [go_sem, Nat.reduceEqDiff, Nat.reduceAdd, Nat.reduceSub, Nat.reduceLT, Nat.reduceMul, Nat.reduceBEq, Nat.reduceLeDiff, ↓reduceIte, Int.reduceToNat, Nat.reduceGT, Int.reduceLE, Int.reduceLT, Int.reduceGE, Int.reduceGT, Int.reduceEq, Int.reduceNe, reduceCtorEq]
  refine callX_by (keysS_calls (some b) _) ?_
  rintro r hp2 ⟨q1, rfl, hq1, rfl⟩
  simp only [go_sem, Nat.reduceEqDiff, Nat.reduceAdd, Nat.reduceSub, Nat.reduceLT, Nat.reduceMul, Nat.reduceBEq, Nat.reduceLeDiff, ↓reduceIte, Int.reduceToNat, Nat.reduceGT, Int.reduceLE, Int.reduceLT, Int.reduceGE, Int.reduceGT, Int.reduceEq, Int.reduceNe, reduceCtorEq]
  refine callX_by (sortedS_calls (V := S.1) (b := b) (by simp [Hp.setBlk]) (by rw [Hp.setBlk_mp]; exact hs_x _ (Ne.symm n1) S) hsh.1 (by omega)) ?_
  rintro r hp2 ⟨h1, rfl, rfl⟩
  simp only [go_sem, Nat.reduceEqDiff, Nat.reduceAdd, Nat.reduceSub, Nat.reduceLT, Nat.reduceMul, Nat.reduceBEq, Nat.reduceLeDiff, ↓reduceIte, Int.reduceToNat, Nat.reduceGT, Int.reduceLE, Int.reduceLT, Int.reduceGE, Int.reduceGT, Int.reduceEq, Int.reduceNe, reduceCtorEq]
  refine callX_by (keysS_calls (some b1) _) ?_
  rintro r hp2 ⟨q2, rfl, hq2, rfl⟩
  simp only [go_sem, Nat.reduceEqDiff, Nat.reduceAdd, Nat.reduceSub, Nat.reduceLT, Nat.reduceMul, Nat.reduceBEq, Nat.reduceLeDiff, ↓reduceIte, Int.reduceToNat, Nat.reduceGT, Int.reduceLE, Int.reduceLT, Int.reduceGE, Int.reduceGT, Int.reduceEq, Int.reduceNe, reduceCtorEq]
  refine callX_by (sortedS_calls (V := S.2) (b := b1) (by simp [Hp.setBlk]) (by rw [Hp.setBlk_mp]; exact hs_y _ _ _ S) hsh.2 (by omega)) ?_
  rintro r hp2 ⟨h2, rfl, rfl⟩
  simp only [go_sem, Nat.reduceEqDiff, Nat.reduceAdd, Nat.reduceSub, Nat.reduceLT, Nat.reduceMul, Nat.reduceBEq, Nat.reduceLeDiff, ↓reduceIte, Int.reduceToNat, Nat.reduceGT, Int.reduceLE, Int.reduceLT, Int.reduceGE, Int.reduceGT, Int.reduceEq, Int.reduceNe, reduceCtorEq]
  have e1 : hp.blk q1 = none := hq1.1
  have e2 : q2 ≠ q1 ∧ hp.blk q2 = none := by
    have h := hq2.1
    by_cases e : q2 = q1
    · subst e; simp [Hp.setBlk, Hp.setSp] at h
    · exact ⟨e, by simpa [Hp.setBlk, Hp.setSp, HS, Hp.setMp, e] using h⟩
  refine ret_le (hp' := hp.setSp ((9, 1, h2) :: (9, 1, h1) :: hp.sp)) ⟨fun i z h => ?_, fun i z h => ?_, List.Sublist.refl _, fun _ h => h⟩ ⟨h1, h2, rfl, rfl⟩
  · have h : hp.blk i = some z := h
    have q1' : i ≠ q1 := fun e => by rw [e, e1] at h; cases h
    have q2' : i ≠ q2 := fun e => by rw [e, e2.2] at h; cases h
    simpa [Hp.setBlk, Hp.setSp, HS, Hp.setMp, q1', q2'] using h
  · have h : hp.mp i = some z := h
    have r1 : i ≠ b := fun e => by rw [e, p1] at h; cases h
    have r2 : i ≠ b1 := fun e => by rw [e, p2] at h; cases h
    have r3 : i ≠ b2 := fun e => by rw [e, p3] at h; cases h
    have r4 : i ≠ b3 := fun e => by rw [e, p4] at h; cases h
    simpa [Hp.setBlk, Hp.setSp, HS, Hp.setMp, r1, r2, r3, r4] using h
end Go.Proofs.YtppoacgeiooppaaGreat

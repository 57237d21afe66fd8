/- Free variables and labels, in plain words: validity and types depend on them alone. -/
import Derived.Test.YtppoacgeiooppaaGreatCT19
import Derived.Test.YtppoacgeiooppaaGreatCT22
import Derived.Test.YtppoacgeiooppaaGreatCAL34
set_option linter.unusedSimpArgs false
set_option linter.unusedVariables false
set_option maxRecDepth 20000
set_option maxHeartbeats 4000000
namespace Go.Proofs.YtppoacgeiooppaaGreat
open Go.AL

theorem valid_cls {ds : List DeclG} {pf : List Nat} {V L : Bytes → Bool} {t : TermG} (h : nodeB ds pf V L t = true) (hne : t.cls ≠ []) : clsNames (xtorsOf ds t.ty) t.cls = true ∧ t.op ≠ 8 ∧ t.op ≠ 11 ∧ 1 ≤ t.ty ∧ t.ty ≤ ds.length := by
  by_cases h5 : t.op = 5
  · rw [node_5 h5, Bool.and_eq_true, Bool.and_eq_true] at h
    obtain ⟨h1, h2⟩ := data_ty h.2.1
    exact ⟨h.2.2, by omega, by omega, by omega, h2⟩
  · by_cases h7 : t.op = 7
    · rw [node_7 h7, Bool.and_eq_true, Bool.and_eq_true] at h
      obtain ⟨h1, h2⟩ := data_ty h.2.1
      exact ⟨h.2.2, by omega, by omega, by omega, h2⟩
    · exact absurd (node_nocls h5 h7 h) hne
section
variable {ds : List DeclG} {pf : List Nat}
variable {fs : List FunG}
theorem valid_parts {V L : Bytes → Bool} {t : TermG} (h : validT ds pf V L t = true) : nodeB ds pf V L t = true ∧ validA ds pf V L t.op t.name 0 t.args = true ∧ validC ds pf V L t.cls = true ∧ (t.cls ≠ [] → clsNames (xtorsOf ds t.ty) t.cls = true) := by
  have hn := valid_node h
  rw [validT_eq, Bool.and_eq_true, Bool.and_eq_true] at h
  exact ⟨h.1, h.2.1, h.2.2, fun hne => (valid_cls hn hne).1⟩
end
/-! ### How many names the clauses bind -/
mutual
def nmT : TermG → Nat
  | .mk _ _ _ _ _ args _ cls => nmA args + nmC cls
def nmA : List TermG → Nat
  | [] => 0
  | a :: r => nmT a + nmA r
def nmC : List ClauseG → Nat
  | [] => 0
  | c :: r => nmB c + nmC r
def nmB : ClauseG → Nat
  | .mk _ names b => names.length + nmT b
end
theorem nmT_eq (t : TermG) : nmT t = nmA t.args + nmC t.cls := by cases t; rw [nmT]; rfl
theorem nmB_eq (c : ClauseG) : nmB c = c.names.length + nmT c.body := by cases c; rw [nmB]; rfl
theorem nmA_mem {a : TermG} : ∀ {l : List TermG}, a ∈ l → nmT a ≤ nmA l
  | [], h => by cases h
  | b :: r, h => by
    rw [nmA]
    rcases List.mem_cons.1 h with rfl | h
    · omega
    · have := nmA_mem h; omega
theorem nmC_mem {c : ClauseG} : ∀ {l : List ClauseG}, c ∈ l → nmB c ≤ nmC l
  | [], h => by cases h
  | b :: r, h => by
    rw [nmC]
    rcases List.mem_cons.1 h with rfl | h
    · omega
    · have := nmC_mem h; omega
end Go.Proofs.YtppoacgeiooppaaGreat
/- The reference of the layer 'term': free variables and labels. -/
set_option linter.unusedSimpArgs false
set_option linter.unusedVariables false
set_option maxRecDepth 20000
set_option maxHeartbeats 4000000
namespace Go.Proofs.YtppoacgeiooppaaGreat
open Go.AL

/-! ### Ordered lists of strings -/
def ltB (a b : Bytes) : Bool := Op.bytesLess a b
def insS : List Bytes → Bytes → List Bytes
  | [], s => [s]
  | x :: r, s => if ltB x s = true then x :: insS r s else if x = s then x :: r else s :: x :: r
def cutS (s : Bytes) : List Bytes → Nat
  | [] => 0
  | x :: r => if ltB x s = true then cutS s r + 1 else 0
theorem cutS_le (s : Bytes) : ∀ l : List Bytes, cutS s l ≤ l.length
  | [] => Nat.le_refl _
  | x :: r => by
    rw [cutS, List.length_cons]
    have := cutS_le s r
    split <;> omega
theorem cutS_lt (s : Bytes) : ∀ (l : List Bytes) (k : Nat) {x : Bytes}, k < cutS s l → l[k]? = some x → ltB x s = true
  | [], _, _, h, _ => by rw [cutS] at h; omega
  | y :: r, 0, x, h, hx => by
    simp at hx; subst hx
    rw [cutS] at h
    by_cases e : ltB y s = true
    · exact e
    · rw [if_neg e] at h; omega
  | y :: r, k + 1, x, h, hx => by
    rw [List.getElem?_cons_succ] at hx
    rw [cutS] at h
    by_cases e : ltB y s = true
    · rw [if_pos e] at h; exact cutS_lt s r k (by omega) hx
    · rw [if_neg e] at h; omega
theorem cutS_at (s : Bytes) : ∀ (l : List Bytes) {x : Bytes}, l[cutS s l]? = some x → ltB x s = false
  | [], _, h => by simp [cutS] at h
  | y :: r, x, h => by
    rw [cutS] at h
    by_cases e : ltB y s = true
    · rw [if_pos e, List.getElem?_cons_succ] at h; exact cutS_at s r h
    · rw [if_neg e, List.getElem?_cons_zero] at h
      obtain rfl := Option.some.inj h
      simpa using e
theorem insS_cut (s : Bytes) : ∀ (l : List Bytes), insS l s = if l[cutS s l]? = some s then l else l.take (cutS s l) ++ [s] ++ l.drop (cutS s l)
  | [] => by simp [insS, cutS]
  | y :: r => by
    rw [insS, cutS]
    by_cases e : ltB y s = true
    · rw [if_pos e, if_pos e, List.getElem?_cons_succ, List.take_succ_cons, List.drop_succ_cons, insS_cut s r]
      by_cases h : r[cutS s r]? = some s
      · rw [if_pos h, if_pos h]
      · rw [if_neg h, if_neg h]; rfl
    · rw [if_neg e, if_neg e, List.getElem?_cons_zero, List.take_zero, List.drop_zero]
      by_cases h : y = s
      · rw [if_pos h, if_pos (by rw [h])]
      · rw [if_neg h, if_neg (by simpa using h)]; rfl
theorem insS_len (l : List Bytes) (s : Bytes) : (insS l s).length ≤ l.length + 1 := by
  rw [insS_cut]
  have := cutS_le s l
  split
  · omega
  · simp; omega
theorem has_insS (l : List Bytes) (s x : Bytes) : hasB (insS l s) x = (decide (x = s) || hasB l x) := by
  induction l with
  | nil => simp [insS, hasB]
  | cons y r ih =>
    rw [insS]
    by_cases e : ltB y s = true
    · rw [if_pos e]
      simp only [hasB, List.any_cons] at ih ⊢
      rw [ih]; cases decide (x = y) <;> simp
    · rw [if_neg e]
      by_cases h : y = s
      · rw [if_pos h, h]; simp only [hasB, List.any_cons]; cases decide (x = s) <;> simp
      · rw [if_neg h]; simp only [hasB, List.any_cons]

theorem bs_toList (l : List UInt8) : (bs l).toList = l := by rw [ByteArray.toList_eq]; rfl
theorem rinsert_calls (h : Value) (l : List Bytes) (s : Bytes) (hl8 : l.length ≤ 7000000000000) (hp : Hp) : ACalls Tryz.prog 107 [strsAV h l, .v (.string (bs s))] hp (fun r hp' => ∃ h', r = strsAV h' (insS l s) ∧ hp' = hp) := by
  refine acalls_of Tryz.func107 rfl (by decide +kernel) (awp_sound (mu := []) _ _ _ ?_)
  simp only [go_sem, Nat.reduceEqDiff, Nat.reduceAdd, Nat.reduceSub, Nat.reduceLT, Nat.reduceMul, Nat.reduceBEq, Nat.reduceLeDiff, ↓reduceIte, Int.reduceToNat, Nat.reduceGT, Int.reduceLE, Int.reduceLT, Int.reduceGE, Int.reduceGT, Int.reduceEq, Int.reduceNe, reduceCtorEq, strsAV]
  have hcl := cutS_le s l
  refine aw_loopX 44 (fun k : Nat => [(0, .lst 1 h (l.map fun s => .v (.string (bs s)))), (1, .v (.string (bs s))), (5, .v (.int .i64 k))])
    (fun _ => hp) (fun k => k ≤ cutS s l) (fun k => l.length - k) 0 (Nat.zero_le _) (le_mkSl rfl (Hp.le_refl _) (by simp [go_sem])) ?_
  intro k hk
  refine awp_sound (mu := []) _ _ _ ?_
  simp only [go_sem, Nat.reduceEqDiff, Nat.reduceAdd, Nat.reduceSub, Nat.reduceLT, Nat.reduceMul, Nat.reduceBEq, Nat.reduceLeDiff, ↓reduceIte, Int.reduceToNat, Nat.reduceGT, Int.reduceLE, Int.reduceLT, Int.reduceGE, Int.reduceGT, Int.reduceEq, Int.reduceNe, reduceCtorEq]
  have tail : k = cutS s l → ¬ (l[cutS s l]? = some s) → insS l s = l.take k ++ [s] ++ l.drop k := fun e h => by rw [insS_cut, if_neg h, e]
  have app : ¬ (l[cutS s l]? = some s) → k = cutS s l → ∀ (Q : Exit → St → Prop), True := fun _ _ _ => trivial
  refine brK_mk (fun b1 => ?_) (fun b1 => ?_) <;> simp only [go_sem, Nat.reduceEqDiff, Nat.reduceAdd, Nat.reduceSub, Nat.reduceLT, Nat.reduceMul, Nat.reduceBEq, Nat.reduceLeDiff, ↓reduceIte, Int.reduceToNat, Nat.reduceGT, Int.reduceLE, Int.reduceLT, Int.reduceGE, Int.reduceGT, Int.reduceEq, Int.reduceNe, reduceCtorEq, b1, List.length_map]
  · have hk' : k < l.length := by simpa using b1
    obtain ⟨x, hx⟩ := someAt l k hk'
    have hwk : IntKind.i64.wrap ((k : Int) + 1) = ((k + 1 : Nat) : Int) := IntWalk.i64_in _ (by omega)
    simp only [go_sem, Nat.reduceEqDiff, Nat.reduceAdd, Nat.reduceSub, Nat.reduceLT, Nat.reduceMul, Nat.reduceBEq, Nat.reduceLeDiff, ↓reduceIte, Int.reduceToNat, Nat.reduceGT, Int.reduceLE, Int.reduceLT, Int.reduceGE, Int.reduceGT, Int.reduceEq, Int.reduceNe, reduceCtorEq, strAt _ _ _ hx, bs_toList]
    cases b2 : ltB x s with
    | true =>
      have b2' : Op.bytesLess x s = true := b2
      simp only [go_sem, Nat.reduceEqDiff, Nat.reduceAdd, Nat.reduceSub, Nat.reduceLT, Nat.reduceMul, Nat.reduceBEq, Nat.reduceLeDiff, ↓reduceIte, Int.reduceToNat, Nat.reduceGT, Int.reduceLE, Int.reduceLT, Int.reduceGE, Int.reduceGT, Int.reduceEq, Int.reduceNe, reduceCtorEq, b2', hwk]
      refine ⟨k + 1, by omega, ?_, le_mkSl rfl (Hp.le_refl _) (by simp [go_sem, hwk])⟩
      rcases Nat.lt_or_ge k (cutS s l) with h | h
      · exact h
      · have e : k = cutS s l := by omega
        rw [e] at hx; rw [cutS_at s l hx] at b2; cases b2
    | false =>
      have b2' : Op.bytesLess x s = false := b2
      have e : k = cutS s l := by
        rcases Nat.lt_or_ge k (cutS s l) with h | h
        · rw [cutS_lt s l k h hx] at b2; cases b2
        · omega
      simp only [go_sem, Nat.reduceEqDiff, Nat.reduceAdd, Nat.reduceSub, Nat.reduceLT, Nat.reduceMul, Nat.reduceBEq, Nat.reduceLeDiff, ↓reduceIte, Int.reduceToNat, Nat.reduceGT, Int.reduceLE, Int.reduceLT, Int.reduceGE, Int.reduceGT, Int.reduceEq, Int.reduceNe, reduceCtorEq, b2', b1, strAt _ _ _ hx]
      refine brK_mk (fun b3 => ?_) (fun b3 => ?_) <;> simp only [go_sem, Nat.reduceEqDiff, Nat.reduceAdd, Nat.reduceSub, Nat.reduceLT, Nat.reduceMul, Nat.reduceBEq, Nat.reduceLeDiff, ↓reduceIte, Int.reduceToNat, Nat.reduceGT, Int.reduceLE, Int.reduceLT, Int.reduceGE, Int.reduceGT, Int.reduceEq, Int.reduceNe, reduceCtorEq, b3]
      · have exs := of_decide_eq_true b3
        exact ret_same ⟨h, by rw [insS_cut, if_pos (by rw [← e, hx, exs])], rfl⟩
      · have hne : ¬ (l[cutS s l]? = some s) := by rw [← e, hx]; intro h; exact of_decide_eq_false b3 (Option.some.inj h)
        have ht := tail e hne
        clear b2 b2' b3 hne
        refine draw_by (mu := []) (fun _ => True) (.take 0 (.take 1 (.take 4 (.take 7 (.take 8 (.br 2 (.br 3 (.br 5 (.br 6 (.br 9 (.br 10 (.take 11 (.done)) (.stop)) (.stop)) (.br 9 (.br 6 (.br 10 (.take 11 (.done)) (.stop)) (.stop)) (.stop))) (.br 9 (.br 5 (.br 6 (.br 10 (.take 11 (.done)) (.stop)) (.stop)) (.stop)) (.stop))) (.br 5 (.br 3 (.br 6 (.br 9 (.br 10 (.take 11 (.done)) (.stop)) (.stop)) (.br 9 (.br 6 (.br 10 (.take 11 (.done)) (.stop)) (.stop)) (.stop))) (.br 9 (.br 3 (.br 6 (.br 10 (.take 11 (.done)) (.stop)) (.stop)) (.stop)) (.stop))) (.br 9 (.br 3 (.br 5 (.br 6 (.br 10 (.take 11 (.done)) (.stop)) (.stop)) (.stop)) (.br 5 (.br 3 (.br 6 (.br 10 (.take 11 (.done)) (.stop)) (.stop)) (.stop)) (.stop))) (.stop)))) (.br 5 (.br 2 (.br 3 (.br 6 (.br 9 (.br 10 (.take 11 (.done)) (.stop)) (.stop)) (.br 9 (.br 6 (.br 10 (.take 11 (.done)) (.stop)) (.stop)) (.stop))) (.br 9 (.br 3 (.br 6 (.br 10 (.take 11 (.done)) (.stop)) (.stop)) (.stop)) (.stop))) (.br 9 (.br 2 (.br 3 (.br 6 (.br 10 (.take 11 (.done)) (.stop)) (.stop)) (.stop)) (.stop)) (.stop))) (.br 9 (.br 2 (.br 3 (.br 5 (.br 6 (.br 10 (.take 11 (.done)) (.stop)) (.stop)) (.stop)) (.br 5 (.br 3 (.br 6 (.br 10 (.take 11 (.done)) (.stop)) (.stop)) (.stop)) (.stop))) (.br 5 (.br 2 (.br 3 (.br 6 (.br 10 (.take 11 (.done)) (.stop)) (.stop)) (.stop)) (.stop)) (.stop))) (.stop))))))))) (by decide +kernel) trivial (by decide +kernel) (by decide +kernel) ?_
        simp only [go_sem, Nat.reduceEqDiff, Nat.reduceAdd, Nat.reduceSub, Nat.reduceLT, Nat.reduceMul, Nat.reduceBEq, Nat.reduceLeDiff, ↓reduceIte, Int.reduceToNat, Nat.reduceGT, Int.reduceLE, Int.reduceLT, Int.reduceGE, Int.reduceGT, Int.reduceEq, Int.reduceNe, reduceCtorEq]
        repeat' first
          | with_reducible exact trivial
          | (refine ⟨by omega, fun a' c' => ?_⟩; try simp only [go_sem, Nat.reduceEqDiff, Nat.reduceAdd, Nat.reduceSub, Nat.reduceLT, Nat.reduceMul, Nat.reduceBEq, Nat.reduceLeDiff, ↓reduceIte, Int.reduceToNat, Nat.reduceGT, Int.reduceLE, Int.reduceLT, Int.reduceGE, Int.reduceGT, Int.reduceEq, Int.reduceNe, reduceCtorEq])
          | (refine ⟨by omega, by omega, fun a' c' => ?_⟩; try simp only [go_sem, Nat.reduceEqDiff, Nat.reduceAdd, Nat.reduceSub, Nat.reduceLT, Nat.reduceMul, Nat.reduceBEq, Nat.reduceLeDiff, ↓reduceIte, Int.reduceToNat, Nat.reduceGT, Int.reduceLE, Int.reduceLT, Int.reduceGE, Int.reduceGT, Int.reduceEq, Int.reduceNe, reduceCtorEq])
          | (refine ⟨rfl, by simp, fun hd => ?_⟩; try simp only [go_sem, Nat.reduceEqDiff, Nat.reduceAdd, Nat.reduceSub, Nat.reduceLT, Nat.reduceMul, Nat.reduceBEq, Nat.reduceLeDiff, ↓reduceIte, Int.reduceToNat, Nat.reduceGT, Int.reduceLE, Int.reduceLT, Int.reduceGE, Int.reduceGT, Int.reduceEq, Int.reduceNe, reduceCtorEq])
          | (refine append0_by Tryz.k48 Tryz.s9 Tryz.y9 Tryz.z9 rfl (by decide) rfl (Cast.nil 1) rfl (Cast.refl _) (ones_take (ones_strs _) _) (by simp [maxLen]; omega) (by simp; omega) (by simp [go_sem]) (fun h3 => ?_); try simp only [go_sem, Nat.reduceEqDiff, Nat.reduceAdd, Nat.reduceSub, Nat.reduceLT, Nat.reduceMul, Nat.reduceBEq, Nat.reduceLeDiff, ↓reduceIte, Int.reduceToNat, Nat.reduceGT, Int.reduceLE, Int.reduceLT, Int.reduceGE, Int.reduceGT, Int.reduceEq, Int.reduceNe, reduceCtorEq])
          | (refine append_at 0 Tryz.k48 Tryz.s9 Tryz.y9 Tryz.z9 rfl (by decide) rfl (Cast.refl _) rfl (Cast.refl _) rfl (by first | rfl | exact ones_drop (ones_take (ones_strs _) _) _) (by simp [maxLen]; omega) (by simp; omega) (by simp [go_sem]) (fun h3 => ?_); try simp only [go_sem, Nat.reduceEqDiff, Nat.reduceAdd, Nat.reduceSub, Nat.reduceLT, Nat.reduceMul, Nat.reduceBEq, Nat.reduceLeDiff, ↓reduceIte, Int.reduceToNat, Nat.reduceGT, Int.reduceLE, Int.reduceLT, Int.reduceGE, Int.reduceGT, Int.reduceEq, Int.reduceNe, reduceCtorEq])
          | (refine append_at 1 Tryz.k48 Tryz.s9 Tryz.y9 Tryz.z9 rfl (by decide) rfl (Cast.refl _) rfl (Cast.refl _) rfl (by first | rfl | exact ones_drop (ones_take (ones_strs _) _) _) (by simp [maxLen]; omega) (by simp; omega) (by simp [go_sem]) (fun h3 => ?_); try simp only [go_sem, Nat.reduceEqDiff, Nat.reduceAdd, Nat.reduceSub, Nat.reduceLT, Nat.reduceMul, Nat.reduceBEq, Nat.reduceLeDiff, ↓reduceIte, Int.reduceToNat, Nat.reduceGT, Int.reduceLE, Int.reduceLT, Int.reduceGE, Int.reduceGT, Int.reduceEq, Int.reduceNe, reduceCtorEq])
          | (with_reducible refine And.intro ?_ ?_)
        all_goals exact ret_le (hp' := hp) ⟨fun _ _ h => h, fun _ _ h => h, (List.sublist_cons_self _ _).trans (List.sublist_cons_self _ _), fun _ h => h⟩ ⟨h3, by rw [ht]; simp [strsAV, List.take_of_length_le], rfl⟩
  · have e0 : k = l.length := by have := of_decide_eq_false b1; omega
    have e : k = cutS s l := by omega
    have hne : ¬ (l[cutS s l]? = some s) := by rw [← e, e0]; simp
    have ht := tail e hne
    refine draw_by (mu := []) (fun _ => True) (.take 0 (.take 1 (.take 4 (.take 7 (.take 8 (.br 2 (.br 3 (.br 5 (.br 6 (.br 9 (.br 10 (.take 11 (.done)) (.stop)) (.stop)) (.br 9 (.br 6 (.br 10 (.take 11 (.done)) (.stop)) (.stop)) (.stop))) (.br 9 (.br 5 (.br 6 (.br 10 (.take 11 (.done)) (.stop)) (.stop)) (.stop)) (.stop))) (.br 5 (.br 3 (.br 6 (.br 9 (.br 10 (.take 11 (.done)) (.stop)) (.stop)) (.br 9 (.br 6 (.br 10 (.take 11 (.done)) (.stop)) (.stop)) (.stop))) (.br 9 (.br 3 (.br 6 (.br 10 (.take 11 (.done)) (.stop)) (.stop)) (.stop)) (.stop))) (.br 9 (.br 3 (.br 5 (.br 6 (.br 10 (.take 11 (.done)) (.stop)) (.stop)) (.stop)) (.br 5 (.br 3 (.br 6 (.br 10 (.take 11 (.done)) (.stop)) (.stop)) (.stop)) (.stop))) (.stop)))) (.br 5 (.br 2 (.br 3 (.br 6 (.br 9 (.br 10 (.take 11 (.done)) (.stop)) (.stop)) (.br 9 (.br 6 (.br 10 (.take 11 (.done)) (.stop)) (.stop)) (.stop))) (.br 9 (.br 3 (.br 6 (.br 10 (.take 11 (.done)) (.stop)) (.stop)) (.stop)) (.stop))) (.br 9 (.br 2 (.br 3 (.br 6 (.br 10 (.take 11 (.done)) (.stop)) (.stop)) (.stop)) (.stop)) (.stop))) (.br 9 (.br 2 (.br 3 (.br 5 (.br 6 (.br 10 (.take 11 (.done)) (.stop)) (.stop)) (.stop)) (.br 5 (.br 3 (.br 6 (.br 10 (.take 11 (.done)) (.stop)) (.stop)) (.stop)) (.stop))) (.br 5 (.br 2 (.br 3 (.br 6 (.br 10 (.take 11 (.done)) (.stop)) (.stop)) (.stop)) (.stop)) (.stop))) (.stop))))))))) (by decide +kernel) trivial (by decide +kernel) (by decide +kernel) ?_
    simp only [go_sem, Nat.reduceEqDiff, Nat.reduceAdd, Nat.reduceSub, Nat.reduceLT, Nat.reduceMul, Nat.reduceBEq, Nat.reduceLeDiff, ↓reduceIte, Int.reduceToNat, Nat.reduceGT, Int.reduceLE, Int.reduceLT, Int.reduceGE, Int.reduceGT, Int.reduceEq, Int.reduceNe, reduceCtorEq]
    repeat' first
      | with_reducible exact trivial
      | (refine ⟨by omega, fun a' c' => ?_⟩; try simp only [go_sem, Nat.reduceEqDiff, Nat.reduceAdd, Nat.reduceSub, Nat.reduceLT, Nat.reduceMul, Nat.reduceBEq, Nat.reduceLeDiff, ↓reduceIte, Int.reduceToNat, Nat.reduceGT, Int.reduceLE, Int.reduceLT, Int.reduceGE, Int.reduceGT, Int.reduceEq, Int.reduceNe, reduceCtorEq])
      | (refine ⟨by omega, by omega, fun a' c' => ?_⟩; try simp only [go_sem, Nat.reduceEqDiff, Nat.reduceAdd, Nat.reduceSub, Nat.reduceLT, Nat.reduceMul, Nat.reduceBEq, Nat.reduceLeDiff, ↓reduceIte, Int.reduceToNat, Nat.reduceGT, Int.reduceLE, Int.reduceLT, Int.reduceGE, Int.reduceGT, Int.reduceEq, Int.reduceNe, reduceCtorEq])
      | (refine ⟨rfl, by simp, fun hd => ?_⟩; try simp only [go_sem, Nat.reduceEqDiff, Nat.reduceAdd, Nat.reduceSub, Nat.reduceLT, Nat.reduceMul, Nat.reduceBEq, Nat.reduceLeDiff, ↓reduceIte, Int.reduceToNat, Nat.reduceGT, Int.reduceLE, Int.reduceLT, Int.reduceGE, Int.reduceGT, Int.reduceEq, Int.reduceNe, reduceCtorEq])
      | (refine append0_by Tryz.k48 Tryz.s9 Tryz.y9 Tryz.z9 rfl (by decide) rfl (Cast.nil 1) rfl (Cast.refl _) (ones_take (ones_strs _) _) (by simp [maxLen]; omega) (by simp; omega) (by simp [go_sem]) (fun h3 => ?_); try simp only [go_sem, Nat.reduceEqDiff, Nat.reduceAdd, Nat.reduceSub, Nat.reduceLT, Nat.reduceMul, Nat.reduceBEq, Nat.reduceLeDiff, ↓reduceIte, Int.reduceToNat, Nat.reduceGT, Int.reduceLE, Int.reduceLT, Int.reduceGE, Int.reduceGT, Int.reduceEq, Int.reduceNe, reduceCtorEq])
      | (refine append_at 0 Tryz.k48 Tryz.s9 Tryz.y9 Tryz.z9 rfl (by decide) rfl (Cast.refl _) rfl (Cast.refl _) rfl (by first | rfl | exact ones_drop (ones_take (ones_strs _) _) _) (by simp [maxLen]; omega) (by simp; omega) (by simp [go_sem]) (fun h3 => ?_); try simp only [go_sem, Nat.reduceEqDiff, Nat.reduceAdd, Nat.reduceSub, Nat.reduceLT, Nat.reduceMul, Nat.reduceBEq, Nat.reduceLeDiff, ↓reduceIte, Int.reduceToNat, Nat.reduceGT, Int.reduceLE, Int.reduceLT, Int.reduceGE, Int.reduceGT, Int.reduceEq, Int.reduceNe, reduceCtorEq])
      | (refine append_at 1 Tryz.k48 Tryz.s9 Tryz.y9 Tryz.z9 rfl (by decide) rfl (Cast.refl _) rfl (Cast.refl _) rfl (by first | rfl | exact ones_drop (ones_take (ones_strs _) _) _) (by simp [maxLen]; omega) (by simp; omega) (by simp [go_sem]) (fun h3 => ?_); try simp only [go_sem, Nat.reduceEqDiff, Nat.reduceAdd, Nat.reduceSub, Nat.reduceLT, Nat.reduceMul, Nat.reduceBEq, Nat.reduceLeDiff, ↓reduceIte, Int.reduceToNat, Nat.reduceGT, Int.reduceLE, Int.reduceLT, Int.reduceGE, Int.reduceGT, Int.reduceEq, Int.reduceNe, reduceCtorEq])
      | (with_reducible refine And.intro ?_ ?_)
    all_goals exact ret_le (hp' := hp) ⟨fun _ _ h => h, fun _ _ h => h, (List.sublist_cons_self _ _).trans (List.sublist_cons_self _ _), fun _ h => h⟩ ⟨h3, by rw [ht]; simp [strsAV, List.take_of_length_le], rfl⟩
end Go.Proofs.YtppoacgeiooppaaGreat

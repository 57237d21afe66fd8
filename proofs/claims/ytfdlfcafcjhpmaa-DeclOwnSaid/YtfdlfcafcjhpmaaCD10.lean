/- strings.Builder and strings.Join, as contracts of AL. -/
import Derived.Test.YtfdlfcafcjhpmaaCD9
import Derived.Test.YtfdlfcafcjhpmaaCAL19
set_option linter.unusedSimpArgs false
set_option linter.unusedVariables false
set_option maxRecDepth 20000
namespace Go.Proofs.Ytfdlfcafcjhpmaa
open Go.AL

def bptr (b : Nat) : AV := .v (.pointer (some ⟨b, 0, none⟩))
def bself (b : Nat) : AV := .v (.pointer (some ⟨b, 0, none⟩))

theorem L240 : Lays.n240 Try.prog Try.lays156_ren := { Try.lays156 with }

theorem copyCheck_calls (b : Nat) (q : Option Addr) (buf : AV) (hp : Hp) (hb : hp.blk b = some (148, [.v (.pointer q), buf])) (hq : q = none ∨ q = some ⟨b, 0, none⟩) :
    ACalls Try.prog 108 [bptr b] hp (fun r hp' => r = .tup [] ∧ hp' = hp.setBlk b 148 [bself b, buf]) := by
  refine acalls_turn (cs := [.v (.pointer q), buf]) (callable_of Try.func108 (by decide +kernel)) (fun m _ => trivial) hb (fun m h => ⟨trivial, h.2⟩) fun base m w hh _ => ?_
  obtain ⟨h1, h2, h3, h4⟩ := hh.blk b _ _ hb
  have hcell : w.cell? ⟨b, 0, none⟩ = some (.pointer q) := by rw [cell_of_row w b 0 _ _ _ h2]; rfl
  rcases hq with rfl | rfl
  · have hsh : w.shape? b = some (148, 2) := by simp [World.shape?, h2, AV.vals]
    have hfz : w.frozen? ⟨b, 0, none⟩ = false := by simp [World.frozen?, h2]
    refine (Any.Builder_copyCheck_fresh L240 Try.Builder_Extra_156.toX72 b w hcell hsh hfz).mono ?_
    rintro e w' ⟨rfl, rfl⟩
    refine ⟨rfl, ?_⟩
    rw [setCell_eq_setRow w b 0 _ _ _ _ h2]
    simp [AV.vals, AV.val, bself]
  · refine (Any.Builder_copyCheck_used L240 Try.Builder_Extra_156.toX72 b w hcell).mono ?_
    rintro e w' ⟨rfl, hw⟩
    exact ⟨rfl, by rw [hw]; exact (setRow_self w b _ _ _ h2).symm⟩

def BuilderOk (b : Nat) (h : Value) (l : List UInt8) (l1 l2 : List (TypeId × Nat × Value)) (hp : Hp) : Prop :=
  (∃ q, (q = none ∨ q = some ⟨b, 0, none⟩) ∧ hp.blk b = some (148, [.v (.pointer q), .lst 1 h (byAV l)])) ∧ hp.sp = l1 ++ (5, 1, h) :: l2 ∧ (l = [] → h = .slice none 0 0)
def wrote (b : Nat) (h : Value) (l : List UInt8) (l1 l2 : List (TypeId × Nat × Value)) (hp : Hp) : Hp := (hp.setBlk b 148 [bself b, .lst 1 h (byAV l)]).setSp (l1 ++ (5, 1, h) :: l2)

theorem writeString_calls (b : Nat) (h : Value) (l s : List UInt8) (l1 l2 : List (TypeId × Nat × Value)) (hp : Hp) (hb : BuilderOk b h l l1 l2 hp) (hlen : l.length + s.length ≤ 140737488355328) :
    ACalls Try.prog 96 [bptr b, .v (.string (bs s))] hp
      (fun r hp' => ∃ h', r = .tup [.v (.int .i64 s.length), .v .nilIface] ∧ hp' = wrote b h' (l ++ s) l1 l2 hp ∧ BuilderOk b h' (l ++ s) l1 l2 hp') := by
  obtain ⟨⟨q, hq, hblk⟩, hsp, h0⟩ := hb
  refine acalls_of Try.func96 rfl (by decide +kernel) (awp_sound (mu := [16]) _ _ _ ?_)
  simp only [go_sem, Int.natCast_nonneg, Nat.reduceEqDiff, Nat.reduceAdd, Nat.reduceSub, Nat.reduceLT, Nat.reduceMul, Nat.reduceBEq, Nat.reduceLeDiff, ↓reduceIte, Int.toNat_natCast, Int.reduceToNat, Int.toNat_zero, Int.toNat_one, not_true_eq_false, false_or, or_self, Nat.reduceGT, Option.isSome_some, Bool.and_self, Nat.zero_add, Nat.mul_one, List.length_map, List.take_length, Int.cast_ofNat_Int, Int.reduceLE, Int.reduceLT, Int.reduceGE, Int.reduceGT, Int.reduceEq, Int.reduceNe, Int.le_refl, Nat.le_refl, Nat.reduceAdd, ne_eq, not_false_eq_true, reduceCtorEq, beq_true, beq_false, BEq.rfl, Bool.not_true, Bool.not_false, decide_true, decide_false, exists_prop, bptr]
  refine callX_by (copyCheck_calls b q _ hp hblk hq) ?_
  rintro r hp' ⟨rfl, rfl⟩
  simp only [go_sem, Int.natCast_nonneg, Nat.reduceEqDiff, Nat.reduceAdd, Nat.reduceSub, Nat.reduceLT, Nat.reduceMul, Nat.reduceBEq, Nat.reduceLeDiff, ↓reduceIte, Int.toNat_natCast, Int.reduceToNat, Int.toNat_zero, Int.toNat_one, not_true_eq_false, false_or, or_self, Nat.reduceGT, Option.isSome_some, Bool.and_self, Nat.zero_add, Nat.mul_one, List.length_map, List.take_length, Int.cast_ofNat_Int, Int.reduceLE, Int.reduceLT, Int.reduceGE, Int.reduceGT, Int.reduceEq, Int.reduceNe, Int.le_refl, Nat.le_refl, Nat.reduceAdd, ne_eq, not_false_eq_true, reduceCtorEq, beq_true, beq_false, BEq.rfl, Bool.not_true, Bool.not_false, decide_true, decide_false, exists_prop, bptr, bself]
  refine appendS_by (a := .lst 1 h (byAV l)) (h := h) (xs := byAV l) (b := s) (l1 := l1) (l2 := l2) Try.k146 Try.k9 Try.s5 Try.y5 Try.z5 rfl
    (by simp [go_sem]) (Cast.refl _) (by simp [go_sem]) (by simp [go_sem, hsp]) (by rw [byAV_length]; simp only [maxLen]; omega) (by rw [byAV_length]; omega) (by simp [go_sem]) (fun h' hh => ?_)
  simp only [go_sem, Int.natCast_nonneg, Nat.reduceEqDiff, Nat.reduceAdd, Nat.reduceSub, Nat.reduceLT, Nat.reduceMul, Nat.reduceBEq, Nat.reduceLeDiff, ↓reduceIte, Int.toNat_natCast, Int.reduceToNat, Int.toNat_zero, Int.toNat_one, not_true_eq_false, false_or, or_self, Nat.reduceGT, Option.isSome_some, Bool.and_self, Nat.zero_add, Nat.mul_one, List.length_map, List.take_length, Int.cast_ofNat_Int, Int.reduceLE, Int.reduceLT, Int.reduceGE, Int.reduceGT, Int.reduceEq, Int.reduceNe, Int.le_refl, Nat.le_refl, Nat.reduceAdd, ne_eq, not_false_eq_true, reduceCtorEq, beq_true, beq_false, BEq.rfl, Bool.not_true, Bool.not_false, decide_true, decide_false, exists_prop]
  have e : byAV l ++ byAV s = byAV (l ++ s) := (byAV_append l s).symm
  refine ret_le (hp' := wrote b h' (l ++ s) l1 l2 hp) ?_ ⟨h', rfl, rfl, ⟨some ⟨b, 0, none⟩, .inr rfl, ?_⟩, rfl, ?_⟩
  · rw [e]
    have : ((hp.setBlk b 148 [AV.v (.pointer (some ⟨b, 0, none⟩)), .lst 1 h (byAV l)]).setSp (l1 ++ (5, 1, h') :: l2)).setBlk b 148 [AV.v (.pointer (some ⟨b, 0, none⟩)), .lst 1 h' (byAV (l ++ s))] = wrote b h' (l ++ s) l1 l2 hp := by
      rw [show ((hp.setBlk b 148 [AV.v (.pointer (some ⟨b, 0, none⟩)), .lst 1 h (byAV l)]).setSp (l1 ++ (5, 1, h') :: l2)).setBlk b 148 [AV.v (.pointer (some ⟨b, 0, none⟩)), .lst 1 h' (byAV (l ++ s))] = ((hp.setBlk b 148 [AV.v (.pointer (some ⟨b, 0, none⟩)), .lst 1 h (byAV l)]).setBlk b 148 [AV.v (.pointer (some ⟨b, 0, none⟩)), .lst 1 h' (byAV (l ++ s))]).setSp (l1 ++ (5, 1, h') :: l2) from rfl, Hp.set_set]
      rfl
    rw [this]
    exact Hp.le_refl _
  · simp [wrote, Hp.setBlk, Hp.setSp, bself]
  · intro hl
    rcases hh with hh | hh
    · rw [e, hl] at hh; exact absurd rfl hh
    · rw [hh]; exact h0 (by simp at hl; exact hl.1)

theorem string_calls (b : Nat) (h : Value) (l : List UInt8) (l1 l2 : List (TypeId × Nat × Value)) (hp : Hp) (hb : BuilderOk b h l l1 l2 hp) (hlen : l.length ≤ maxLen) :
    ACalls Try.prog 97 [bptr b] hp (fun r hp' => r = .v (.string (bs l)) ∧ hp' = hp.setSp (l1 ++ l2)) := by
  obtain ⟨⟨q, hq, hblk⟩, hsp, h0⟩ := hb
  refine acalls_of Try.func97 rfl (by decide +kernel) (awp_sound (mu := []) _ _ _ ?_)
  simp only [go_sem, Int.natCast_nonneg, Nat.reduceEqDiff, Nat.reduceAdd, Nat.reduceSub, Nat.reduceLT, Nat.reduceMul, Nat.reduceBEq, Nat.reduceLeDiff, ↓reduceIte, Int.toNat_natCast, Int.reduceToNat, Int.toNat_zero, Int.toNat_one, not_true_eq_false, false_or, or_self, Nat.reduceGT, Option.isSome_some, Bool.and_self, Nat.zero_add, Nat.mul_one, List.length_map, List.take_length, Int.cast_ofNat_Int, Int.reduceLE, Int.reduceLT, Int.reduceGE, Int.reduceGT, Int.reduceEq, Int.reduceNe, Int.le_refl, Nat.le_refl, Nat.reduceAdd, ne_eq, not_false_eq_true, reduceCtorEq, beq_true, beq_false, BEq.rfl, Bool.not_true, Bool.not_false, decide_true, decide_false, exists_prop, bptr]
  refine draw_by (mu := []) (fun hp' => hp'.blk b = some (148, [.v (.pointer q), .lst 1 h (byAV l)])) (.take 0 (.take 1 (.take 2 (.take 3 (.take 5 (.take 6 (.take 7 (.take 8 (.take 9 (.br 4 (.br 10 (.take 11 (.done)) (.stop)) (.stop))))))))))) (by decide +kernel) hblk (by decide +kernel) (by decide +kernel) ?_
  simp only [go_sem, Int.natCast_nonneg, Nat.reduceEqDiff, Nat.reduceAdd, Nat.reduceSub, Nat.reduceLT, Nat.reduceMul, Nat.reduceBEq, Nat.reduceLeDiff, ↓reduceIte, Int.toNat_natCast, Int.reduceToNat, Int.toNat_zero, Int.toNat_one, not_true_eq_false, false_or, or_self, Nat.reduceGT, Option.isSome_some, Bool.and_self, Nat.zero_add, Nat.mul_one, List.length_map, List.take_length, Int.cast_ofNat_Int, Int.reduceLE, Int.reduceLT, Int.reduceGE, Int.reduceGT, Int.reduceEq, Int.reduceNe, Int.le_refl, Nat.le_refl, Nat.reduceAdd, ne_eq, not_false_eq_true, reduceCtorEq, beq_true, beq_false, BEq.rfl, Bool.not_true, Bool.not_false, decide_true, decide_false, exists_prop, hblk]
  refine ⟨fun hp' hh => by rw [hh]; simp only [go_sem, Int.natCast_nonneg, Nat.reduceEqDiff, Nat.reduceAdd, Nat.reduceSub, Nat.reduceLT, Nat.reduceMul, Nat.reduceBEq, Nat.reduceLeDiff, ↓reduceIte, Int.toNat_natCast, Int.reduceToNat, Int.toNat_zero, Int.toNat_one, not_true_eq_false, false_or, or_self, Nat.reduceGT, Option.isSome_some, Bool.and_self, Nat.zero_add, Nat.mul_one, List.length_map, List.take_length, Int.cast_ofNat_Int, Int.reduceLE, Int.reduceLT, Int.reduceGE, Int.reduceGT, Int.reduceEq, Int.reduceNe, Int.le_refl, Nat.le_refl, Nat.reduceAdd, ne_eq, not_false_eq_true, reduceCtorEq, beq_true, beq_false, BEq.rfl, Bool.not_true, Bool.not_false, decide_true, decide_false, exists_prop], fun hp' hh => by rw [hh]; simp only [go_sem, Int.natCast_nonneg, Nat.reduceEqDiff, Nat.reduceAdd, Nat.reduceSub, Nat.reduceLT, Nat.reduceMul, Nat.reduceBEq, Nat.reduceLeDiff, ↓reduceIte, Int.toNat_natCast, Int.reduceToNat, Int.toNat_zero, Int.toNat_one, not_true_eq_false, false_or, or_self, Nat.reduceGT, Option.isSome_some, Bool.and_self, Nat.zero_add, Nat.mul_one, List.length_map, List.take_length, Int.cast_ofNat_Int, Int.reduceLE, Int.reduceLT, Int.reduceGE, Int.reduceGT, Int.reduceEq, Int.reduceNe, Int.le_refl, Nat.le_refl, Nat.reduceAdd, ne_eq, not_false_eq_true, reduceCtorEq, beq_true, beq_false, BEq.rfl, Bool.not_true, Bool.not_false, decide_true, decide_false, exists_prop], ?_⟩
  refine usd_by (h := h) (l := l) (by simp [go_sem]) h0 (by simp [go_sem]) ?_
  refine ⟨by simp [go_sem, hblk], ?_⟩
  refine ust_by (e := 5) (h := h) (l := l) (i := 6) (l1 := l1) (l2 := l2) Try.underlying160 (by kernel_rfl) (by simp [go_sem]) (by simp [go_sem, byAV_length]) (by simp [go_sem]) (by simp [go_sem, hsp]) (by simp [go_sem]) ?_
  simp only [go_sem, Int.natCast_nonneg, Nat.reduceEqDiff, Nat.reduceAdd, Nat.reduceSub, Nat.reduceLT, Nat.reduceMul, Nat.reduceBEq, Nat.reduceLeDiff, ↓reduceIte, Int.toNat_natCast, Int.reduceToNat, Int.toNat_zero, Int.toNat_one, not_true_eq_false, false_or, or_self, Nat.reduceGT, Option.isSome_some, Bool.and_self, Nat.zero_add, Nat.mul_one, List.length_map, List.take_length, Int.cast_ofNat_Int, Int.reduceLE, Int.reduceLT, Int.reduceGE, Int.reduceGT, Int.reduceEq, Int.reduceNe, Int.le_refl, Nat.le_refl, Nat.reduceAdd, ne_eq, not_false_eq_true, reduceCtorEq, beq_true, beq_false, BEq.rfl, Bool.not_true, Bool.not_false, decide_true, decide_false, exists_prop, hblk]
  exact ret_same ⟨rfl, rfl⟩

theorem join_calls (h : Value) (l : List (List UInt8)) (sep : List UInt8) (hl : (Lib.join l sep).length ≤ 140737488355328) (hn : l.length ≤ 140737488355328) (hp : Hp) :
    ACalls Try.prog 95 [strsAV h l, .v (.string (bs sep))] hp (fun r hp' => r = .v (.string (bs (Lib.join l sep))) ∧ hp' = hp) := by
  refine acalls_below (callable_of Try.func95 (by decide +kernel)) (fun m _ => trivial) fun base m w hh hok => ?_
  obtain ⟨⟨⟨a, cap, rfl, hcap, hmax, hsz, hrow⟩, hoks⟩, _⟩ := hok
  have hvals : AV.vals (l.map fun s => AV.v (.string (bs s))) = l.map fun s => Value.string (bs s) := by rw [AV.vals_eq, List.map_map]; rfl
  have hlen : (AV.vals (l.map fun s => AV.v (.string (bs s)))).length = (l.map bs).length := by rw [hvals]; simp
  have hxs : (l.map bs).map (fun s : ByteArray => s.data.toList) = l := by
    rw [List.map_map]
    have : ((fun s : ByteArray => s.data.toList) ∘ bs) = id := by funext x; rfl
    rw [this, List.map_id]
  by_cases h0 : l = []
  · subst h0
    refine (Try.strings_Join_none a cap (bs sep) w).mono ?_
    rintro e w' ⟨rfl, rfl⟩
    exact ⟨rfl, Go.RowKit.Below.refl _ _⟩
  · obtain ⟨b, off, rfl, hr⟩ := hrow (by rw [hvals]; simpa using h0)
    have hcells : ∀ (j : Nat) (x : ByteArray), (l.map bs)[j]? = some x → w.cell? ⟨b, off + j, none⟩ = some (.string x) := by
      intro j x hx
      have h1 : (AV.vals (l.map fun s => AV.v (.string (bs s))))[j]? = some (.string x) := by
        rw [hvals, List.getElem?_map]
        rw [List.getElem?_map] at hx
        cases hj : l[j]? with
        | none => rw [hj] at hx; cases hx
        | some s => rw [hj] at hx; simp at hx ⊢; exact hx
      have h2 := hr j _ h1 0 (.string x) rfl
      simpa using hh.mem _ _ _ h2
    have hb : b < w.heap.size := by
      obtain ⟨s, hs⟩ := some_at (l.map bs) 0 (by simpa using List.length_pos_iff.2 h0)
      exact World.block_lt_of_cell? w ⟨b, off + 0, none⟩ (hcells 0 s hs)
    have hj := Try.strings_Join b off cap (l.map bs) (bs sep) w hcells hb (by simpa using hn) (by rw [← hlen]; exact hcap) (by rw [hxs]; exact hl)
    rw [hxs] at hj
    simp only [AV.vals, AV.val, strsAV, hlen]
    exact hj
end Go.Proofs.Ytfdlfcafcjhpmaa

/- The law of the layer 'check': CheckOwn. -/
import Derived.Test.YtppoacgeiooppaaCT62
import Derived.Test.YtppoacgeiooppaaCT45
set_option linter.unusedSimpArgs false
set_option linter.unusedVariables false
set_option maxRecDepth 20000
set_option maxHeartbeats 4000000
namespace Go.Proofs.Ytppoacgeiooppaa
open Go.AL

section
variable (ds : List DeclG) (fs : List FunG)
mutual
theorem pathT (E K : Bytes → Option Int) : ∀ (t : TermG) (p : List Int), typeT ds fs E K t = .error p → ∀ x ∈ p, 0 ≤ x
  | .mk op n name ty ha args hc cls, p, h => by
    rw [typeT] at h
    split at h
    · rename_i q hq
      cases h
      exact pathA E K op name ty 0 args _ hq
    · split at h
      · rename_i q hq
        cases h
        exact pathC E K _ _ cls _ hq
      · split at h
        · cases h
        · cases h; intro x hx; cases hx
theorem pathA (E K : Bytes → Option Int) (op : Int) (name : Bytes) (ty : Int) : ∀ (k : Nat) (l : List TermG) (p : List Int), typeA ds fs E K op name ty k l = .error p → ∀ x ∈ p, 0 ≤ x
  | k, [], p, h => by rw [typeA] at h; cases h
  | k, a :: r, p, h => by
    rw [typeA] at h
    split at h
    · rename_i q hq
      cases h
      intro x hx
      rcases List.mem_cons.1 hx with rfl | hx
      · omega
      · exact pathT _ _ a _ hq x hx
    · split at h
      · rename_i q hq
        cases h
        exact pathA E K op name ty (k + 1) r _ hq
      · cases h
theorem pathC (E K : Bytes → Option Int) (xs : List XtorG) : ∀ (k : Nat) (l : List ClauseG) (p : List Int), typeC ds fs E K xs k l = .error p → ∀ x ∈ p, 0 ≤ x
  | k, [], p, h => by rw [typeC] at h; cases h
  | k, .mk hn names b :: r, p, h => by
    rw [typeC] at h
    split at h
    · rename_i q hq
      cases h
      intro x hx
      rcases List.mem_cons.1 hx with rfl | hx
      · omega
      · rw [typeB] at hq
        exact pathT _ _ b _ hq x hx
    · split at h
      · rename_i q hq
        cases h
        exact pathC E K _ (k + 1) r _ hq
      · cases h
end
end
theorem faultF_nonneg (ds : List DeclG) (fs : List FunG) : ∀ (l : List FunG) (k i : Nat) (q : List Int), faultF ds fs k l = some (i, q) → ∀ x ∈ q, 0 ≤ x
  | [], k, i, q, h => by rw [faultF] at h; cases h
  | f :: r, k, i, q, h => by
    rw [faultF] at h
    split at h
    · rename_i p hp
      cases h
      exact pathT ds fs _ _ _ _ hp
    · split at h
      · exact faultF_nonneg ds fs r (k + 1) i q h
      · cases h; intro x hx; cases hx
def ivs (l : List Int) : List AV := l.map fun n => .v (.int .i64 n)
theorem ivs_flat (s : List Int) : (s.map fun n => AV.v (.int .i64 n)).flatMap AV.cells = ivs s := by
  induction s with
  | nil => rfl
  | cons a l ih => rw [List.map_cons, List.flatMap_cons, ih]; rfl
theorem ivs_oks (m : Mem) : ∀ l : List Int, AV.oks m (ivs l)
  | [] => trivial
  | _ :: l => ⟨trivial, ivs_oks m l⟩
theorem ivs_len (l : List Int) : (ivs l).length = l.length := by simp [ivs]
theorem ivs_drop (l : List Int) (rest : List AV) (i : Nat) (x : Int) (h : l[i]? = some x) : (ivs l ++ rest).drop i = .v (.int .i64 x) :: (ivs l ++ rest).drop (i + 1) := by
  have hi : i < l.length := (List.getElem?_eq_some_iff.1 h).1
  refine drop_at _ _ _ ?_
  rw [List.getElem?_append_left (by rw [ivs_len]; exact hi), ivs, List.getElem?_map, h]; rfl
theorem ivs_set (l : List Int) (rest : List AV) (i : Nat) (x : Int) (h : i < l.length) : List.take i (ivs l ++ rest) ++ [AV.v (.int .i64 x)] ++ List.drop (i + 1) (ivs l ++ rest) = ivs (l.set i x) ++ rest := by
  rw [List.take_append_of_le_length (by rw [ivs_len]; omega), List.drop_append_of_le_length (by rw [ivs_len]; omega), ← List.append_assoc]
  congr 1
  rw [List.set_eq_take_append_cons_drop, if_pos h]
  simp [ivs]
/-- Fault: a row in new memory, or none. -/
theorem cfault_own (p : ProgG) (hpf : PFit p) (hp : Hp) (hg : GOk hp) : ACalls Try.prog 19 [p.av] hp (fun r hp' =>
    (∃ (i : Int) (ok : Bool) (c : Int), r = .tup [.v (.int .i64 i), .v (.slice none 0 0), .v (.bool ok), .v (.int .i64 c)] ∧ hp' = hp) ∨
    ∃ (i : Int) (q : List Int) (b cap : Nat) (rest : List AV), (∀ x ∈ q, 0 ≤ x) ∧ r = .tup [.v (.int .i64 i), .v (.slice (some ⟨b, 0, none⟩) q.length cap), .v (.bool true), .v (.int .i64 0)] ∧ q.length ≤ cap ∧ cap ≤ maxLen ∧ Fresh hp b ∧ hp' = hp.setBlk b 3 (ivs q ++ rest)) := by
  by_cases hv : progB p = true
  · cases hf : faultF p.ds p.fs 0 p.fs with
    | none =>
      refine (cfault_calls p hpf hp hg).mono fun r hp' h => ?_
      rw [FaultE, if_pos hv, hf] at h
      exact .inl ⟨0, false, 0, h⟩
    | some a =>
      obtain ⟨i, q⟩ := a
      have hq := faultF_nonneg _ _ _ _ _ _ hf
      refine (acalls_own (e := 3) (sz := 1) (args := [p.av]) (args' := [p.av]) (C := fun pre xs post => pre = [.v (.int .i64 i)] ∧ xs = q.map (fun n => AV.v (.int .i64 n)) ∧ post = [.v (.bool true), .v (.int .i64 0)]) rfl
        (fun base m w h ho => AV.oks_mono (fun b o x hx => h.mem b o x hx) _ ho) (fun pre xs post h m => by
          obtain ⟨rfl, rfl, rfl⟩ := h
          exact ⟨⟨trivial, trivial⟩, by rw [ivs_flat]; exact ivs_oks m q, ⟨trivial, trivial, trivial⟩⟩)
        ((cfault_calls p hpf (bareHp hp) hg).mono fun r hp' h => ?_)).mono ?_
      · rw [FaultE, if_pos hv, hf] at h
        obtain ⟨h, rfl, rfl⟩ := h
        exact ⟨[.v (.int .i64 i)], h, _, [.v (.bool true), .v (.int .i64 0)], ⟨rfl, rfl, rfl⟩, rfl, by simp [Hp.setSp]⟩
      · rintro r hp' ⟨pre, hd, xs, post, ⟨rfl, rfl, rfl⟩, rfl, hh⟩
        rcases hh with ⟨rfl, h, rfl⟩ | ⟨b, cap, rest, rfl, h1, h2, h3, rfl⟩
        · exact .inl ⟨i, true, 0, rfl, rfl⟩
        · rw [List.length_map] at h1
          rw [ivs_flat, List.length_map]
          exact .inr ⟨i, q, b, cap, rest, hq, rfl, h1, h2, h3, rfl⟩
  · refine (cfault_calls p hpf hp hg).mono fun r hp' h => ?_
    rw [FaultE, if_neg hv] at h
    exact .inl ⟨0, false, 20, h⟩
end Go.Proofs.Ytppoacgeiooppaa

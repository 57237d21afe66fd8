/- The layer 'term': Free and Calls, whose rows the caller writes. -/
import Derived.Test.YtppoacgeiooppaaGreatCT80
import Derived.Test.YtppoacgeiooppaaGreatCT75
import Derived.Test.YtppoacgeiooppaaGreatCAL44
set_option linter.unusedSimpArgs false
set_option linter.unusedVariables false
set_option maxRecDepth 20000
set_option maxHeartbeats 4000000
namespace Go.Proofs.YtppoacgeiooppaaGreat
open Go.AL Go.RowKit

def FreeRows (t : TermG) (r : AV) (hs : List Value) : Prop :=
  ∃ a1 c1 a2 c2, hs = [.slice a1 (freeS t).1.length c1, .slice a2 (freeS t).2.length c2] ∧ r = .tup [.v (.slice a1 (freeS t).1.length c1), .v (.slice a2 (freeS t).2.length c2)]
theorem strs_hdr {m : Mem} {h : Value} {l : List Bytes} (ho : (strsAV h l).ok m) : ∃ a c, h = .slice a l.length c := by
  obtain ⟨⟨a, c, e, _⟩, _⟩ := ho
  refine ⟨a, c, ?_⟩
  rw [e, AV.vals_length, List.length_map]
theorem freeOwn_calls (t : TermG) (hN : nodesT t ≤ 5000) (hs : shT t) (hp : Hp) : ACalls Tryz.prog 33 [t.av] hp (fun r hp' => ∃ hs, FreeRows t r hs ∧ AllRows 9 hp hs hp') := by
  refine acalls_rowsOf (acalls_okR (freeT_calls t hN hs (bareHp hp))) ?_
  rintro r hp' ⟨⟨h, h', rfl, rfl⟩, m, ho⟩
  have o1 := (AV.oks_iff _ _).1 ho _ List.mem_cons_self
  have o2 := (AV.oks_iff _ _).1 ho _ (List.mem_cons_of_mem _ List.mem_cons_self)
  obtain ⟨a1, c1, rfl⟩ := strs_hdr o1
  obtain ⟨a2, c2, rfl⟩ := strs_hdr o2
  refine ⟨_, _, ⟨a1, c1, a2, c2, rfl, rfl⟩, rfl, fun v hv => ?_, fun m => ⟨trivial, trivial, trivial⟩⟩
  simp only [List.mem_cons, List.not_mem_nil, or_false] at hv
  rcases hv with rfl | rfl
  · exact List.mem_cons_of_mem _ List.mem_cons_self
  · exact List.mem_cons_self

/-- The rows of Calls: the outer one is read, the inner ones are the caller's. -/
def CallRows (r : AV) (hs : List Value) : Prop :=
  hs.length ≤ 12 ∧ (∀ (i : Nat) (v : Value), hs[i]? = some v → ∃ a n c, v = .slice a n c ∧ n ≤ 1000) ∧ ∃ h c, r = .tup [.lst 1 h (hs.map AV.v), .v (.int .i64 c)]
theorem callsOwn_calls (p : ProgG) (hpf : PFit p) (hp : Hp) (hg : GOk hp) : ACalls Tryz.prog 25 [p.av] hp (fun r hp' => ∃ hs, CallRows r hs ∧ AllRows 3 hp hs hp') := by
  refine acalls_rows (callable_of Tryz.func25 (by decide +kernel)) fun base m w h ho => ?_
  obtain ⟨mx, hx⟩ := gok_cell h hg
  refine (calls_rawP p hpf mx w hx (AV.oks_mono (fun b o x hx => h.mem b o x hx) _ ho)).mono ?_
  rintro e w' ⟨h1, h2, hb⟩
  refine ⟨hb, ?_⟩
  by_cases hv : progB p = true
  · obtain ⟨ob, hs, rfl, hob, hr⟩ := h2 hv
    have hn := prog_len hv
    have hrow : ∀ (i : Nat) (v : Value), hs[i]? = some v → ∃ f, p.fs[i]? = some f ∧ w'.ownsRow (ob + 1) 3 1 v (refL p.fs.length (preT f.body)).length ((refL p.fs.length (preT f.body)).map encZ) := fun i v hi => by
      have hil := (List.getElem?_eq_some_iff.1 hi).1
      have hif : i < p.fs.length := by rw [← hr.len]; exact hil
      exact ⟨p.fs[i], List.getElem?_eq_getElem hif, hr.row i v p.fs[i] hif hi (List.getElem?_eq_getElem hif)⟩
    have hin : ∀ v ∈ hs, ∃ g n c, v = .slice none 0 0 ∨ v = .slice (some ⟨g, 0, none⟩) n c ∧ ob + 1 ≤ g := fun v hv2 => by
      obtain ⟨i, hi, rfl⟩ := List.getElem_of_mem hv2
      obtain ⟨f, _, q⟩ := hrow i _ (List.getElem?_eq_getElem hi)
      rcases q.2 with ⟨e, _⟩ | ⟨g, cap, cur, e, hg2, _⟩
      · exact ⟨0, 0, 0, .inl e⟩
      · exact ⟨g, _, cap, .inr ⟨e, hg2⟩⟩
    refine ⟨.tup [.lst 1 (.slice (some ⟨ob, 0, none⟩) p.fs.length p.fs.length) (hs.map AV.v), .v (.int .i64 0)], hs, ⟨by rw [hr.len]; exact hn, fun i v hi => ?_, _, _, rfl⟩, rfl, fun v hv2 => ?_, fun m' _ hm' => ⟨⟨?_, ?_⟩, trivial, trivial⟩⟩
    · obtain ⟨f, _, q⟩ := hrow i v hi
      have hl : (refL p.fs.length (preT f.body)).length ≤ 1000 := by
        have : (refL p.fs.length (preT f.body)).length ≤ p.fs.length := by
          rw [refL, List.length_map]
          exact Nat.le_trans (List.length_filter_le _ _) (by rw [List.length_range]; exact Nat.le_refl _)
        omega
      rcases q.2 with ⟨e, h0⟩ | ⟨g, cap, cur, e, _⟩
      · exact ⟨_, _, _, e, by omega⟩
      · exact ⟨_, _, _, e, hl⟩
    · obtain ⟨i, hi, rfl⟩ := List.getElem_of_mem hv2
      obtain ⟨f, _, q⟩ := hrow i _ (List.getElem?_eq_getElem hi)
      rcases q.2 with ⟨e, h0⟩ | ⟨g, cap, cur, e, hg2, hc, hn2, hcm, hsz, _⟩
      · exact .inl ⟨_, _, e⟩
      · exact .inr ⟨g, _, cap, cur, e, by omega, hc, hn2, by omega⟩
    · rw [map_v_vals]
      refine ⟨some ⟨ob, 0, none⟩, p.fs.length, by rw [hr.len], by rw [hr.len]; exact Nat.le_refl _, by simp only [maxLen]; omega, fun v hv2 => ?_, fun _ => ⟨ob, 0, rfl, fun i v hi j x hx => ?_⟩⟩
      · obtain ⟨g, n, c, e | ⟨e, _⟩⟩ := hin v hv2 <;> (rw [e]; rfl)
      · have hv2 := List.mem_of_getElem? hi
        have hce : v.cells = #[v] := by obtain ⟨g, n, c, e | ⟨e, _⟩⟩ := hin v hv2 <;> (rw [e]; rfl)
        rw [hce] at hx
        match j with
        | 0 =>
          simp at hx
          subst hx
          refine hm' _ _ _ hob ?_ ?_
          · cases hq : isRow hs ob with
            | false => rfl
            | true =>
              obtain ⟨a, n, c, hm2, e⟩ := isRow_of hq
              obtain ⟨g, n', c', e2 | ⟨e2, h3⟩⟩ := hin _ hm2
              · cases e2
              · cases e2; simp only at e; omega
          · rw [cell_at hr.cells, Nat.zero_add, Nat.mul_one, Nat.add_zero]
            simpa using hi
        | j + 1 => simp at hx
    · exact map_v_oks m' hs
  · have hv' : progB p = false := by simpa using hv
    have he := h1 hv'
    exact ⟨.tup [.lst 1 (.slice none 0 0) ([].map AV.v), .v (.int .i64 20)], [], ⟨by simp, by simp, _, _, rfl⟩, he, fun v hv2 => (by cases hv2), fun _ _ _ => ⟨⟨⟨none, 0, rfl, Nat.le_refl _, Nat.zero_le _, by simp [AV.vals], by simp [AV.vals]⟩, trivial⟩, trivial, trivial⟩⟩
/-- The rows of Calls, read. -/
def CallSeen (r : AV) : Prop :=
  ∃ h hs ls c, hs.length = ls.length ∧ ls.length ≤ 12 ∧ (∀ l ∈ ls, l.length ≤ 1000 ∧ ∀ x ∈ l, (0 : Int) ≤ x) ∧ r = .tup [rowsAV h hs ls, .v (.int .i64 c)]
theorem callsSeen_calls (p : ProgG) (hpf : PFit p) (hp : Hp) (hg : GOk hp) : ACalls Tryz.prog 25 [p.av] hp (fun r hp' => CallSeen r ∧ hp' = hp) := by
  refine acalls_val (callsV_calls p hpf hp hg) ?_
  rintro r hp' ⟨hr, rfl⟩
  by_cases hv : progB p = true
  · rw [CallsV, if_pos hv] at hr
    obtain ⟨h, hs, hl, rfl⟩ := hr
    have hn := prog_len hv
    refine ⟨_, ⟨⟨h, hs, callRows p, 0, by rw [hl, callRows, List.length_map], by rw [callRows, List.length_map]; exact hn, fun l hm => ?_, rfl⟩, rfl⟩, rfl, fun m ho => ho⟩
    obtain ⟨f, hf, rfl⟩ := List.mem_map.1 hm
    refine ⟨?_, fun x hx => (mem_refL.1 hx).1⟩
    have : (refL p.fs.length (preT f.body)).length ≤ p.fs.length := by
      rw [refL, List.length_map]
      exact Nat.le_trans (List.length_filter_le _ _) (by rw [List.length_range]; exact Nat.le_refl _)
    omega
  · rw [CallsV, if_neg hv] at hr
    subst hr
    exact ⟨_, ⟨⟨.slice none 0 0, [], [], 20, rfl, by simp, by simp, rfl⟩, rfl⟩, rfl, fun m ho => ⟨⟨⟨none, 0, rfl, Nat.le_refl _, Nat.zero_le _, by simp [AV.vals], by simp [AV.vals]⟩, trivial⟩, trivial, trivial⟩⟩
end Go.Proofs.YtppoacgeiooppaaGreat

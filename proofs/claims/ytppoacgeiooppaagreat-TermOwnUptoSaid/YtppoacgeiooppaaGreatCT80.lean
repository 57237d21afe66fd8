/- The contract of term.Calls, its results published. -/
import Derived.Test.YtppoacgeiooppaaGreatCT77
import Derived.Test.YtppoacgeiooppaaGreatCT19
import Derived.Test.YtppoacgeiooppaaGreatCT41
import Derived.Test.YtppoacgeiooppaaGreatCAL41
import Derived.Test.YtppoacgeiooppaaGreatCT75
import Derived.Test.YtppoacgeiooppaaGreatCT9
import Derived.Test.YtppoacgeiooppaaGreatCT61
import Derived.Test.YtppoacgeiooppaaGreatCAL36
import Derived.Test.YtppoacgeiooppaaGreatCAL41
set_option linter.unusedSimpArgs false
set_option linter.unusedVariables false
namespace Go.Proofs.YtppoacgeiooppaaGreat
open Go.AL

section
variable {ds : List DeclG} {pf : List Nat}
theorem node_call {V L : Bytes → Bool} {t : TermG} (h : nodeB ds pf V L t = true) (ho : t.op = 9) : 0 ≤ t.n ∧ t.n < pf.length := by
  simp only [nodeB, ho] at h
  simp at h
  obtain ⟨⟨⟨⟨h1, _⟩, _⟩, _⟩, h2⟩ := h
  have := (List.getElem?_eq_some_iff.1 h2).1
  exact ⟨h1, by omega⟩
mutual
theorem valid_callT : ∀ (t : TermG) {V L : Bytes → Bool}, validT ds pf V L t = true → ∀ s ∈ preT t, s.op = 9 → 0 ≤ s.n ∧ s.n < pf.length
  | .mk op n name ty ha args hc cls, V, L, h, s, hs, ho => by
    obtain ⟨h1, h2, h3, _⟩ := valid_parts h
    rw [preT] at hs
    rcases List.mem_cons.1 hs with rfl | hs
    · exact node_call h1 ho
    · rcases List.mem_append.1 hs with hs | hs
      · exact valid_callA args 0 h2 s hs ho
      · exact valid_callC cls h3 s hs ho
theorem valid_callA : ∀ (l : List TermG) (k : Nat) {op : Int} {name : Bytes} {V L : Bytes → Bool}, validA ds pf V L op name k l = true → ∀ s ∈ preA l, s.op = 9 → 0 ≤ s.n ∧ s.n < pf.length
  | [], k, op, name, V, L, h, s, hs, ho => by rw [preA] at hs; cases hs
  | a :: r, k, op, name, V, L, h, s, hs, ho => by
    rw [validA_cons, Bool.and_eq_true] at h
    rw [preA] at hs
    rcases List.mem_append.1 hs with hs | hs
    · exact valid_callT a h.1 s hs ho
    · exact valid_callA r (k + 1) h.2 s hs ho
theorem valid_callC : ∀ (l : List ClauseG) {V L : Bytes → Bool}, validC ds pf V L l = true → ∀ s ∈ preC l, s.op = 9 → 0 ≤ s.n ∧ s.n < pf.length
  | [], V, L, h, s, hs, ho => by rw [preC] at hs; cases hs
  | .mk hn names b :: r, V, L, h, s, hs, ho => by
    rw [validC, Bool.and_eq_true, validB1] at h
    rw [preC] at hs
    rcases List.mem_append.1 hs with hs | hs
    · exact valid_callT b h.1 s hs ho
    · exact valid_callC r h.2 s hs ho
end
end
theorem prog_calls {p : ProgG} (h : progB p = true) : ∀ f ∈ p.fs, ∀ s ∈ preT f.body, s.op = 9 → 0 ≤ s.n ∧ s.n < p.fs.length := fun f hf s hs ho => by
  have h1 := valid_callT f.body (prog_body h f hf).2.2 s hs ho
  simpa [ProgG.pf] using h1
theorem prog_len {p : ProgG} (h : progB p = true) : p.fs.length ≤ 12 := by
  simp only [progB, Bool.and_eq_true] at h
  have h2 := h.2.2.1
  simp at h2; omega
theorem nodesF_bound : ∀ (l : List FunG), (∀ f ∈ l, nodesT f.body ≤ 600) → nodesF l ≤ l.length * 600
  | [], _ => by simp [nodesF]
  | f :: r, h => by
    have h1 := nodesF_bound r (fun g hg => h g (List.mem_cons_of_mem _ hg))
    have h2 := h f List.mem_cons_self
    simp only [nodesF, List.map_cons, List.sum_cons, List.length_cons] at h1 ⊢
    omega
theorem prog_nodes {p : ProgG} (h : progB p = true) : nodesF p.fs ≤ 1000000 := by
  have h1 := nodesF_bound p.fs (fun f hf => (prog_body h f hf).1)
  have h2 := prog_len h
  omega
theorem nodesP_calls (p : ProgG) (hpf : PFit p) (hp : Hp) (hg : GOk hp) : ACalls Tryz.prog 24 [p.av] hp (fun r hp' => r = .tup [.v (.int .i64 (if progB p = true then nodesF p.fs else 0)), .v (.int .i64 (if progB p = true then 0 else 20))] ∧ hp' = hp) :=
  nodes_calls p hpf prog_nodes hp hg
theorem calls_rawP (p : ProgG) (hpf : PFit p) (mx : Int) (w : World) (hg : w.cell? ⟨0, 0, none⟩ = some (.int .i64 mx)) (hok : AV.oks (memOf w) [p.av]) : Calls Tryz.prog 25 #[p.av.val] w (CallsR w p) :=
  calls_raw p hpf mx w hg hok (fun h f hf => by have := (prog_body h f hf).1; omega) prog_calls
/-- The rows of a program's calls. -/
def callRows (p : ProgG) : List (List Int) := p.fs.map fun f => refL p.fs.length (preT f.body)
def rowsAV (h : Value) (hs : List Value) (ls : List (List Int)) : AV := .lst 1 h ((hs.zip ls).map fun x => intsAV x.1 x.2)
def CallsV (p : ProgG) (r : AV) : Prop :=
  if progB p = true then ∃ h hs, hs.length = p.fs.length ∧ r = .tup [rowsAV h hs (callRows p), .v (.int .i64 0)] else r = .tup [.v (.slice none 0 0), .v (.int .i64 20)]
theorem rows_vals : ∀ (hs : List Value) (ls : List (List Int)), hs.length = ls.length → AV.vals ((hs.zip ls).map fun x => intsAV x.1 x.2) = hs
  | [], [], _ => rfl
  | [], _ :: _, h => by cases h
  | _ :: _, [], h => by cases h
  | a :: r, l :: q, h => by
    rw [List.zip_cons_cons, List.map_cons, AV.vals, rows_vals r q (by simpa using h)]; rfl
theorem ints_vals (l : List Int) : AV.vals (l.map iv) = l.map encZ := by
  rw [AV.vals_eq, List.map_map]; rfl
theorem row_ok {w' : World} {B : Nat} {h : Value} {l : List Int} {m : Mem} (hr : w'.ownsRow B 3 1 h l.length (l.map encZ)) (hm : ∀ b o x, B ≤ b → w'.cell? ⟨b, o, none⟩ = some x → m b o = some x) : (intsAV h l).ok m := by
  refine ⟨?_, by rw [AV.oks_iff]; intro a ha; obtain ⟨z, _, rfl⟩ := List.mem_map.1 ha; trivial⟩
  rw [ints_vals]
  rcases hr.2 with ⟨rfl, h0⟩ | ⟨g, cap, cur, rfl, hg, hc, hn, hcm, hsz, htk⟩
  · obtain rfl : l = [] := List.eq_nil_of_length_eq_zero h0
    exact ⟨none, 0, rfl, Nat.le_refl _, Nat.zero_le _, by simp, by simp⟩
  · refine ⟨some ⟨g, 0, none⟩, cap, by simp, by simpa using hn, hcm, fun v hv => by obtain ⟨z, _, rfl⟩ := List.mem_map.1 hv; rfl, fun _ => ⟨g, 0, rfl, fun i v hv j x hx => ?_⟩⟩
    obtain ⟨z, _, e⟩ := List.mem_map.1 (List.mem_of_getElem? hv)
    subst e
    match j with
    | 0 =>
      simp [Value.cells] at hx
      subst hx
      refine hm _ _ _ hg ?_
      rw [cell_at hc, Nat.zero_add, Nat.mul_one, Nat.add_zero]
      rw [Nat.mul_one] at htk
      have hil : i < (l.map encZ).length := (List.getElem?_eq_some_iff.1 hv).1
      rw [← htk, List.getElem?_take, if_pos (by simpa using hil)] at hv
      simpa using hv
    | j + 1 => simp [Value.cells] at hx
theorem callsV_raw (p : ProgG) (hpf : PFit p) (mx : Int) (w : World) (hx : w.cell? ⟨0, 0, none⟩ = some (.int .i64 mx)) (hok : AV.oks (memOf w) [p.av]) :
    Calls Tryz.prog 25 (AV.vals [p.av]).toArray w (fun e w' => Go.RowKit.Below w.heap.size w w' ∧ ∃ r, CallsV p r ∧ e = .returned r.val ∧ ∀ m' : Mem, (∀ b o x, w.heap.size ≤ b → w'.cell? ⟨b, o, none⟩ = some x → m' b o = some x) → r.ok m') := by
  refine (calls_rawP p hpf mx w hx hok).mono ?_
  rintro e w' ⟨h1, h2, hb⟩
  refine ⟨hb, ?_⟩
  by_cases hv : progB p = true
  · obtain ⟨ob, hs, rfl, hob, hr⟩ := h2 hv
    refine ⟨.tup [rowsAV (.slice (some ⟨ob, 0, none⟩) p.fs.length p.fs.length) hs (callRows p), .v (.int .i64 0)], by rw [CallsV, if_pos hv]; exact ⟨_, hs, hr.len, rfl⟩, rfl, fun m' hm' => ⟨⟨?_, ?_⟩, trivial, trivial⟩⟩
    · have hl : hs.length = (callRows p).length := by rw [hr.len, callRows, List.length_map]
      rw [rows_vals _ _ hl]
      have hn := prog_len hv
      refine ⟨some ⟨ob, 0, none⟩, p.fs.length, by rw [hr.len], by rw [hr.len]; exact Nat.le_refl _, by simp only [maxLen]; omega, fun v hv2 => ?_, fun _ => ⟨ob, 0, rfl, fun i v hi j x hx => ?_⟩⟩
      · obtain ⟨i, hi, rfl⟩ := List.getElem_of_mem hv2
        have hif : i < p.fs.length := by rw [← hr.len]; exact hi
        obtain ⟨a, b, c, e⟩ := row_slice (hr.row i hs[i] p.fs[i] hif (List.getElem?_eq_getElem hi) (List.getElem?_eq_getElem hif))
        rw [e]; rfl
      · have hil := (List.getElem?_eq_some_iff.1 hi).1
        have hif : i < p.fs.length := by rw [← hr.len]; exact hil
        obtain ⟨a, b, c, e⟩ := row_slice (hr.row i v p.fs[i] hif hi (List.getElem?_eq_getElem hif))
        subst e
        match j with
        | 0 =>
          simp [Value.cells] at hx
          subst hx
          refine hm' _ _ _ hob ?_
          rw [cell_at hr.cells, Nat.zero_add, Nat.mul_one, Nat.add_zero]
          simpa using hi
        | j + 1 => simp [Value.cells] at hx
    · rw [AV.oks_iff]
      intro a ha
      obtain ⟨⟨hd, l⟩, hm, rfl⟩ := List.mem_map.1 ha
      obtain ⟨i, hi, e⟩ := List.getElem_of_mem hm
      have hil : i < hs.length := by rw [List.length_zip] at hi; omega
      have hif : i < p.fs.length := by rw [← hr.len]; exact hil
      rw [List.getElem_zip] at e
      simp only [Prod.mk.injEq] at e
      obtain ⟨rfl, rfl⟩ := e
      have q := hr.row i hs[i] p.fs[i] hif (List.getElem?_eq_getElem hil) (List.getElem?_eq_getElem hif)
      have e2 : (callRows p)[i]'(by rw [callRows, List.length_map]; exact hif) = refL p.fs.length (preT p.fs[i].body) := by simp [callRows]
      rw [e2]
      exact row_ok q (fun b o x hb2 hx => hm' b o x (by omega) hx)
  · have hv' : progB p = false := by simpa using hv
    have he := h1 hv'
    exact ⟨.tup [.v (.slice none 0 0), .v (.int .i64 20)], by rw [CallsV, if_neg hv], he, fun _ _ => ⟨trivial, trivial, trivial⟩⟩
theorem callsV_calls (p : ProgG) (hpf : PFit p) (hp : Hp) (hg : GOk hp) : ACalls Tryz.prog 25 [p.av] hp (fun r hp' => CallsV p r ∧ hp' = hp) := by
  refine acalls_new (callable_of Tryz.func25 (by decide +kernel)) fun base m w h ho => ?_
  obtain ⟨mx, hx⟩ := gok_cell h hg
  exact (callsV_raw p hpf mx w hx (AV.oks_mono (fun b o x hx => h.mem b o x hx) _ ho)).mono fun e w' ⟨h1, r, h2, h3, h4⟩ => ⟨h1, r, h2, h3, fun m' _ h5 => h4 m' h5⟩
theorem callsV_lend {p : ProgG} (hpf : PFit p) {hp : Hp} (hg : GOk hp) {args : List AV} (hv : AV.vals [p.av] = AV.vals args) (hok : ∀ base m w, HpOk base hp m w → AV.oks m args → AV.oks (memOf w) [p.av]) :
    ACalls Tryz.prog 25 args hp (fun r hp' => CallsV p r ∧ hp' = hp) := by
  refine acalls_lendNew (args' := [p.av]) hv hok (callable_of Tryz.func25 (by decide +kernel)) fun base m w h ho => ?_
  obtain ⟨mx, hx⟩ := gok_cell h hg
  exact (callsV_raw p hpf mx w hx ho).mono fun e w' ⟨h1, r, h2, h3, h4⟩ => ⟨h1, r, h2, h3, fun m' _ h5 => h4 m' h5⟩
end Go.Proofs.YtppoacgeiooppaaGreat
/- The law of the layer 'term': what its fixed calls are about. -/
set_option linter.unusedSimpArgs false
set_option linter.unusedVariables false
set_option maxRecDepth 20000
set_option maxHeartbeats 4000000
namespace Go.Proofs.YtppoacgeiooppaaGreat
open Go.AL

abbrev nilU : Value := .slice none 0 0
def uv : AV := .v nilU
def uVar (s : Bytes) : AV := .agg [.v (.int .i64 0), .v (.int .i64 0), .v (.string (bs s)), .v (.int .i64 0), uv, uv]
def uInt (n : Int) : AV := .agg [.v (.int .i64 1), .v (.int .i64 n), .v (.string (bs [])), .v (.int .i64 0), uv, uv]
theorem le_del {hp : Hp} {b : Nat} (h : hp.blk b = none) (T : TypeId) (cs : List AV) : hp.le ((hp.setBlk b T cs).delBlk b) := by
  rw [Hp.del_set _ _ _ _ h]; exact Hp.le_refl _
theorem le_del2 {hp : Hp} {b : Nat} (h : hp.blk b = none) (T : TypeId) (cs : List AV) (x : TypeId × Nat × Value) : hp.le (((hp.setBlk b T cs).setSp (x :: hp.sp)).delBlk b) := by
  refine ⟨fun i z hz => ?_, fun _ _ h => h, List.sublist_cons_self _ _, fun _ h => h⟩
  have e : i ≠ b := fun e => by rw [e, h] at hz; cases hz
  simpa [Hp.delBlk, Hp.setSp, Hp.setBlk, e] using hz
theorem variable_calls (s : Bytes) (hp : Hp) : ACalls Tryz.prog 54 [.v (.string (bs s))] hp (fun r hp' => r = uVar s ∧ hp' = hp) := by
  refine acalls_of Tryz.func54 rfl (by decide +kernel) (awp_sound (mu := []) _ _ _ ?_)
  simp only [go_sem, Nat.reduceEqDiff, Nat.reduceAdd, Nat.reduceSub, Nat.reduceLT, Nat.reduceMul, Nat.reduceBEq, Nat.reduceLeDiff, ↓reduceIte, Int.reduceToNat, Nat.reduceGT, Int.reduceLE, Int.reduceLT, Int.reduceGE, Int.reduceGT, Int.reduceEq, Int.reduceNe, reduceCtorEq]
  intro b hb
  exact ret_le (le_del hb.1 _ _) ⟨rfl, rfl⟩
theorem sumV_calls (x0 x1 x2 x3 x4 x5 y0 y1 y2 y3 y4 y5 : Value) (hp : Hp) : ACalls Tryz.prog 53 [.agg [.v x0, .v x1, .v x2, .v x3, .v x4, .v x5], .agg [.v y0, .v y1, .v y2, .v y3, .v y4, .v y5]] hp
    (fun r hp' => ∃ h, r = .agg [.v (.int .i64 2), .v (.int .i64 0), .v (.string (bs [])), .v (.int .i64 0), .lst 6 h [.agg [.v x0, .v x1, .v x2, .v x3, .v x4, .v x5], .agg [.v y0, .v y1, .v y2, .v y3, .v y4, .v y5]], uv] ∧ hp' = hp) := by
  refine acalls_of Tryz.func53 rfl (by decide +kernel) (awp_sound (mu := []) _ _ _ ?_)
  simp only [go_sem, Nat.reduceEqDiff, Nat.reduceAdd, Nat.reduceSub, Nat.reduceLT, Nat.reduceMul, Nat.reduceBEq, Nat.reduceLeDiff, ↓reduceIte, Int.reduceToNat, Nat.reduceGT, Int.reduceLE, Int.reduceLT, Int.reduceGE, Int.reduceGT, Int.reduceEq, Int.reduceNe, reduceCtorEq]
  intro p1 p2 b hb
  refine ⟨rfl, ?_, fun h => ?_⟩
  · intro x hx
    rcases List.mem_cons.1 hx with rfl | hx
    · rfl
    · rcases List.mem_cons.1 hx with rfl | hx
      · rfl
      · cases hx
  · exact ret_le (le_del2 hb.1 _ _ _) ⟨h, rfl, rfl⟩
def uSum (h : Value) (a b : AV) : AV := .agg [.v (.int .i64 2), .v (.int .i64 0), .v (.string (bs [])), .v (.int .i64 0), .lst 6 h [a, b], uv]
def uCall (h : Value) : AV := .agg [.v (.int .i64 9), .v (.int .i64 0), .v (.string (bs [])), .v (.int .i64 0), .lst 6 h [uVar [120]], uv]
def uCs (h13 hs h18 h20 : Value) : List AV := [.v (.string (bs [109, 97, 105, 110])), .lst 2 h13 [.agg [.v (.string (bs [110])), .v (.int .i64 0)]], .v (.int .i64 0), .v (.int .i64 8), .v (.int .i64 0), .v (.string (bs [120])), .v (.int .i64 0), .lst 6 h20 [uSum hs (uVar [110]) (uInt 1), uCall h18], uv]
theorem le_one {n : Nat} {i : Nat} {x : AV} {hp : Hp} {s' : St} (hn : n = s'.n) (hh : hp.le s'.hp) (hl : s'.sl i = some x) : St.le ⟨n, mkSl [(i, x)], hp⟩ s' :=
  le_mkSl hn hh (fun p hp => by
    rw [List.mem_singleton] at hp
    subst hp; exact hl)
def uFunG (h13 : Value) (body : TermG) : FunG := ⟨[109, 97, 105, 110], h13, [⟨[110], 0⟩], 0, body⟩
def vT (s : Bytes) : TermG := .mk 0 0 s 0 nilU [] nilU []
def sumT (h : Value) (a b : TermG) : TermG := .mk 2 0 [] 0 h [a, b] nilU []
def intT1 : TermG := .mk 1 1 [] 0 nilU [] nilU []
def callT (h : Value) : TermG := .mk 9 0 [] 0 h [vT [120]] nilU []
def bodyT (hs h18 h20 : Value) : TermG := .mk 8 0 [120] 0 h20 [sumT hs (vT [110]) intT1, callT h18] nilU []
def gotoT (h hs : Value) : TermG := .mk 12 0 [107] 0 h [sumT hs (vT [98]) (vT [97])] nilU []
def uProgG (b : Nat) (f : FunG) : ProgG := ⟨nilU, [], .slice (some ⟨b, 0, none⟩) 1 1, [f]⟩
def uProgV (b : Nat) : AV := .agg [uv, .v (.slice (some ⟨b, 0, none⟩) 1 1)]
def uCs2 (h13 : Value) : List AV := [.v (.string (bs [109, 97, 105, 110])), .lst 2 h13 [.agg [.v (.string (bs [110])), .v (.int .i64 0)]], .v (.int .i64 0), .v (.int .i64 0), .v (.int .i64 0), .v (.string (bs [121])), .v (.int .i64 0), uv, uv]
theorem vT_ok (s : Bytes) (m : Mem) : (vT s).av.ok m := by
  simp only [vT, TermG.av, TermG.cs_eq]
  exact ⟨trivial, trivial, trivial, trivial, (Cast.nil 6).2 m trivial, (Cast.nil 7).2 m trivial, trivial⟩
theorem intT1_ok (m : Mem) : intT1.av.ok m := by
  simp only [intT1, TermG.av, TermG.cs_eq]
  exact ⟨trivial, trivial, trivial, trivial, (Cast.nil 6).2 m trivial, (Cast.nil 7).2 m trivial, trivial⟩
theorem sumT_ok {h : Value} {a b : TermG} {av bv : AV} {m : Mem} (hh : (AV.lst 6 h [av, bv]).ok m) (ea : a.av.val = av.val) (eb : b.av.val = bv.val) (oa : a.av.ok m) (ob : b.av.ok m) : (sumT h a b).av.ok m := by
  simp only [sumT, TermG.av, TermG.cs_eq]
  refine ⟨trivial, trivial, trivial, trivial, ?_, (Cast.nil 7).2 m trivial, trivial⟩
  refine ⟨?_, oa, ob, trivial⟩
  have h1 := hh.1
  simp only [AV.vals] at h1
  rw [← ea, ← eb] at h1
  exact h1
theorem callT_ok {h : Value} {m : Mem} (hh : (AV.lst 6 h [uVar [120]]).ok m) : (callT h).av.ok m := by
  simp only [callT, TermG.av, TermG.cs_eq]
  refine ⟨trivial, trivial, trivial, trivial, ⟨?_, vT_ok _ m, trivial⟩, (Cast.nil 7).2 m trivial, trivial⟩
  exact hh.1
theorem u_ok1 {h13 hs h18 h20 : Value} {m : Mem} (h : AV.oks m (uCs h13 hs h18 h20)) : (uFunG h13 (bodyT hs h18 h20)).av.ok m := by
  obtain ⟨_, h1, _, _, _, _, _, ⟨k20, ⟨_, _, _, _, k, _, _⟩, ⟨_, _, _, _, k18, _, _⟩, _⟩, _⟩ := h
  simp only [uFunG, FunG.av, FunG.cs, bodyT, TermG.op, TermG.n, TermG.name, TermG.ty, TermG.ha, TermG.hc, TermG.args, TermG.cls, paramsAV]
  refine ⟨trivial, h1, trivial, trivial, trivial, trivial, trivial, ⟨?_, ?_⟩, (Cast.nil 7).2 m trivial, trivial⟩
  · exact k20
  · exact ⟨sumT_ok k rfl rfl (vT_ok _ m) (intT1_ok m), callT_ok k18, trivial⟩
theorem u_ok2 {h13 : Value} {m : Mem} (h : AV.oks m (uCs2 h13)) : (uFunG h13 (vT [121])).av.ok m := by
  obtain ⟨_, h1, _⟩ := h
  simp only [uFunG, FunG.av, FunG.cs, vT, TermG.op, TermG.n, TermG.name, TermG.ty, TermG.ha, TermG.hc, TermG.args, TermG.cls, paramsAV]
  exact ⟨trivial, h1, trivial, trivial, trivial, trivial, trivial, (Cast.nil 6).2 m trivial, (Cast.nil 7).2 m trivial, trivial⟩
theorem u_lendok {base : Nat} {hp : Hp} {m : Mem} {w : World} {b : Nat} {T : TypeId} {cs : List AV} {f : FunG} (hf : ∀ m, AV.oks m cs → f.av.ok m) (h : HpOk base hp m w) (hb : hp.blk b = some (T, cs)) (hc : AV.vals cs = AV.vals f.cs) (hl : f.av.cells.length = 9) : (uProgG b f).av.ok (memOf w) := by
  refine ⟨(Cast.nil 3).2 _ trivial, ?_, trivial⟩
  exact lend_row h hb (xs := [f.av]) (rest := []) (by rw [hc]; simp [FunG.av, AV.cells]) (by
    intro y hy
    rw [List.mem_singleton] at hy
    subst hy; exact hl) rfl (Nat.le_refl _) (by simp [maxLen]) ⟨AV.ok_mono (le_memOf h) _ (hf m (h.blk b T cs hb).2.2.1), trivial⟩
section
variable {hp : Hp} {b : Nat} {T : TypeId} {cs : List AV} {f : FunG}
theorem u_fit (hp1 : f.params.length ≤ 5864062014634) : PFit (uProgG b f) := fun g hg => by
  rw [uProgG, List.mem_singleton] at hg
  subst hg; exact hp1
theorem u_nodes (hg : GOk hp) (hf : ∀ m, AV.oks m cs → f.av.ok m) (hb : hp.blk b = some (T, cs)) (hc : AV.vals cs = AV.vals f.cs) (hl : f.av.cells.length = 9) (hp1 : f.params.length ≤ 5864062014634) :
    ACalls Tryz.prog 24 [uProgV b] hp (fun r hp' => r = .tup [.v (.int .i64 (if progB (uProgG b f) = true then nodesF (uProgG b f).fs else 0)), .v (.int .i64 (if progB (uProgG b f) = true then 0 else 20))] ∧ hp' = hp) :=
  acalls_lend (args' := [(uProgG b f).av]) rfl (fun base m w h ho => ⟨u_lendok hf h hb hc hl, trivial⟩) (R := fun r => r = _) (fun r hr m => by subst hr; exact ⟨trivial, trivial, trivial⟩)
    ((nodesP_calls (uProgG b f) (u_fit hp1) (bareHp hp) hg).mono fun r hp' h => h.1)
theorem u_check (hg : GOk hp) (hf : ∀ m, AV.oks m cs → f.av.ok m) (hb : hp.blk b = some (T, cs)) (hc : AV.vals cs = AV.vals f.cs) (hl : f.av.cells.length = 9) (hp1 : f.params.length ≤ 5864062014634) :
    ACalls Tryz.prog 23 [uProgV b] hp (fun r hp' => r = .v (.int .i64 (if progB (uProgG b f) = true then 0 else 20)) ∧ hp' = hp) :=
  acalls_lend (args' := [(uProgG b f).av]) rfl (fun base m w h ho => ⟨u_lendok hf h hb hc hl, trivial⟩) (R := fun r => r = _) (fun r hr m => by subst hr; trivial)
    ((checkP_calls (uProgG b f) (u_fit hp1) (bareHp hp) hg).mono fun r hp' h => h.1)
theorem u_calls (hg : GOk hp) (hf : ∀ m, AV.oks m cs → f.av.ok m) (hb : hp.blk b = some (T, cs)) (hc : AV.vals cs = AV.vals f.cs) (hl : f.av.cells.length = 9) (hp1 : f.params.length ≤ 5864062014634) :
    ACalls Tryz.prog 25 [uProgV b] hp (fun r hp' => CallsV (uProgG b f) r ∧ hp' = hp) :=
  callsV_lend (p := uProgG b f) (u_fit hp1) hg rfl (fun base m w h ho => ⟨u_lendok hf h hb hc hl, trivial⟩)
end
theorem u_prog1 (b : Nat) (h13 hs h18 h20 : Value) : progB (uProgG b (uFunG h13 (bodyT hs h18 h20))) = true := by kernel_rfl
theorem u_prog2 (b : Nat) (h13 : Value) : progB (uProgG b (uFunG h13 (vT [121]))) = false := by kernel_rfl
theorem u_num (b : Nat) (h13 hs h18 h20 : Value) : nodesF (uProgG b (uFunG h13 (bodyT hs h18 h20))).fs = 6 := by kernel_rfl
theorem u_rows (b : Nat) (h13 hs h18 h20 : Value) : callRows (uProgG b (uFunG h13 (bodyT hs h18 h20))) = [[0]] := by kernel_rfl
theorem u_free (h hs : Value) : freeS (gotoT h hs) = ([[97], [98]], [[107]]) := by
  rw [freeS_eq]; kernel_rfl
end Go.Proofs.YtppoacgeiooppaaGreat
/- The law of the layer 'term': its fixed calls. -/
set_option linter.unusedSimpArgs false
set_option linter.unusedVariables false
set_option maxRecDepth 20000
set_option maxHeartbeats 4000000
namespace Go.Proofs.YtppoacgeiooppaaGreat
open Go.AL

def uBody (h20 hs h18 : Value) : AV := .agg [.v (.int .i64 8), .v (.int .i64 0), .v (.string (bs [120])), .v (.int .i64 0), .lst 6 h20 [uSum hs (uVar [110]) (uInt 1), uCall h18], uv]
def uPar : AV := .agg [.v (.string (bs [110])), .v (.int .i64 0)]
def uU (hp0 : Hp) : Nat → AV → Hp → Prop
  | 0, x, _ => x = uPar
  | 1, x, _ => ∃ h, x = .lst 2 h [uPar]
  | 2, x, _ => x = uVar [110]
  | 3, x, _ => x = uInt 1
  | 4, x, _ => ∃ hs, x = uSum hs (uVar [110]) (uInt 1)
  | 5, x, _ => x = uVar [120]
  | 6, x, _ => ∃ h, x = .lst 6 h [uVar [120]]
  | 7, x, _ => ∃ h, x = uCall h
  | 8, x, _ => ∃ h20 hs h18, x = .lst 6 h20 [uSum hs (uVar [110]) (uInt 1), uCall h18]
  | 9, x, _ => ∃ h20 hs h18, x = uBody h20 hs h18
  | 10, x, _ => ∃ h13 hs h18 h20, x = .agg (uCs h13 hs h18 h20)
  | 11, x, hp => ∃ b h13 hs h18 h20, x = .v (.slice (some ⟨b, 0, none⟩) 1 1) ∧ hp.blk b = some (71, uCs h13 hs h18 h20) ∧ hp0.blk b = none
  | 12, x, hp => ∃ b h13 hs h18 h20, x = .agg [uv, .v (.slice (some ⟨b, 0, none⟩) 1 1)] ∧ hp.blk b = some (71, uCs h13 hs h18 h20) ∧ hp0.blk b = none
  | 13, x, hp => ∃ c, x = .v (.pointer (some ⟨c, 0, none⟩)) ∧ hp.blk c = some (25, [uv, uv]) ∧ hp0.blk c = none
  | _, _, _ => True
theorem uU_mono (hp0 : Hp) : ∀ (j : Nat) (x : AV) (hp hp' : Hp), hp.le hp' → uU hp0 j x hp → uU hp0 j x hp'
  | 0, _, _, _, _, h => h
  | 1, _, _, _, _, h => h
  | 2, _, _, _, _, h => h
  | 3, _, _, _, _, h => h
  | 4, _, _, _, _, h => h
  | 5, _, _, _, _, h => h
  | 6, _, _, _, _, h => h
  | 7, _, _, _, _, h => h
  | 8, _, _, _, _, h => h
  | 9, _, _, _, _, h => h
  | 10, _, _, _, _, h => h
  | 11, _, _, _, hl, ⟨b, a1, a2, a3, a4, e, h1, h2⟩ => ⟨b, a1, a2, a3, a4, e, hl.blk _ _ h1, h2⟩
  | 12, _, _, _, hl, ⟨b, a1, a2, a3, a4, e, h1, h2⟩ => ⟨b, a1, a2, a3, a4, e, hl.blk _ _ h1, h2⟩
  | 13, _, _, _, hl, ⟨c, e, h1, h2⟩ => ⟨c, e, hl.blk _ _ h1, h2⟩
  | _ + 14, _, _, _, _, _ => trivial
structure uB (hp0 : Hp) (v1 : Value) (st : St) : Prop where
  n : st.n = 117
  sl : st.sl 1 = some (.ref v1 [.v (.string (bs [110])), .v (.int .i64 0)])
  hp : hp0.le st.hp
def uI : List (Nat × List Nat) := [(12, []), (13, [0]), (14, []), (15, []), (16, [2, 3]), (17, []), (18, [5]), (19, [6]), (20, [4, 7]), (21, [8]), (22, [1, 9]), (23, [10]), (24, [11]), (2, [])]
theorem uB_keeps {hp0 : Hp} {v1 : Value} (d : Nat) (st st' : St) (hd : d ∈ uI.map (·.1)) (h : uB hp0 v1 st) (k : Keeps d st st') : uB hp0 v1 st' :=
  ⟨k.n.trans h.n, k.sl 1 _ (by rintro rfl; revert hd; decide) h.sl, Hp.le_trans h.hp k.hp⟩
theorem keeps_put {st : St} {d : Nat} {x : AV} : Keeps d st (st.put d x) := ⟨rfl, fun s y hs h => by rw [St.put_sl, if_neg hs]; exact h, Hp.le_refl _⟩
theorem aop_keep {P : Program} {o : Oper} {d : Nat} {st : St} {V : AV → Hp → Prop} (h : ∀ K : St → Prop, (∀ st' x, Keeps d st st' → st'.sl d = some x → V x st'.hp → K st') → AOp P o K st) : AOp P o (fun st' => Keeps d st st' ∧ ∃ x, st'.sl d = some x ∧ V x st'.hp) st :=
  h _ fun st' x k e u => ⟨k, x, e, u⟩
theorem keeps_hp {st : St} {hp : Hp} {d : Nat} {x : AV} (h : st.hp.le hp) : Keeps d st ((st.put d x).setHp hp) := ⟨rfl, fun s y hs e => by rw [St.setHp_sl, St.put_sl, if_neg hs]; exact e, h⟩
theorem put_at2 {st : St} {hp : Hp} {d : Nat} {x : AV} : ((st.put d x).setHp hp).sl d = some x := by rw [St.setHp_sl, St.put_sl, if_pos rfl]
theorem le_none {hp hp' : Hp} {b : Nat} (h : hp.le hp') (hb : hp'.blk b = none) : hp.blk b = none := by
  cases e : hp.blk b with
  | none => rfl
  | some z => have := h.blk _ _ e; rw [hb] at this; cases this
theorem put_at {st : St} {d : Nat} {x : AV} : (st.put d x).sl d = some x := by rw [St.put_sl, if_pos rfl]
theorem u_term {hp : Hp} {b : Nat} {T : TypeId} {cs : List AV} {f : FunG} (hg : GOk hp) (hf : ∀ m, AV.oks m cs → f.av.ok m) (hb : hp.blk b = some (T, cs)) (hc : AV.vals cs = AV.vals f.cs) (hl : f.av.cells.length = 9) (hp1 : f.params.length ≤ 5864062014634) (h1 : Value) (V : List Bytes) (s : Bytes) :
    ACalls Tryz.prog 29 [uProgV b, strsAV h1 V, uv, uVar s] hp (fun r hp' => r = .tup [.v (.bool (progB (uProgG b f) && isB (uProgG b f) (hasB V) (hasB []) (vT s))), .v (.int .i64 (if progB (uProgG b f) = true then 0 else 20))] ∧ hp' = hp) :=
  acalls_lend (args' := [(uProgG b f).av, strsAV h1 V, strsAV nilU [], (vT s).av]) rfl
    (fun base m w h ho => ⟨u_lendok hf h hb hc hl, AV.ok_mono (le_memOf h) _ ho.2.1, (Cast.nil 1).2 _ trivial, vT_ok _ _, trivial⟩)
    (R := fun r => r = _) (fun r hr m => by subst hr; exact ⟨trivial, trivial, trivial⟩)
    ((term_calls (uProgG b f) (u_fit hp1) h1 nilU V [] (vT s) (bareHp hp) hg).mono fun r hp' h => h.1)
theorem u_free_calls (h hs : Value) (hp : Hp) : ACalls Tryz.prog 33 [.agg [.v (.int .i64 12), .v (.int .i64 0), .v (.string (bs [107])), .v (.int .i64 0), .lst 6 h [uSum hs (uVar [98]) (uVar [97])], uv]] hp
    (fun r hp' => ∃ h h', r = .tup [strsAV h [[97], [98]], strsAV h' [[107]]] ∧ hp' = hp.setSp ((9, 1, h') :: (9, 1, h) :: hp.sp)) := by
  refine acalls_cast (args := [(gotoT h hs).av]) rfl (fun m ho => ?_) ((freeT_calls (gotoT h hs) (by simp [gotoT, sumT, vT, nodesT, nodesA, nodesC]) ?_ hp).mono ?_)
  · obtain ⟨⟨_, _, _, _, ⟨k, ⟨_, _, _, _, k2, _⟩, _⟩, _⟩, _⟩ := ho
    refine ⟨?_, trivial⟩
    simp only [gotoT, TermG.av, TermG.cs_eq]
    exact ⟨trivial, trivial, trivial, trivial, ⟨k, sumT_ok k2 rfl rfl (vT_ok _ m) (vT_ok _ m), trivial⟩, (Cast.nil 7).2 m trivial, trivial⟩
  · simp [gotoT, sumT, vT, shT, shA, shC, maxLen]
  · rintro r hp' ⟨h1, h2, rfl, rfl⟩
    rw [u_free]
    exact ⟨h1, h2, rfl, rfl⟩
theorem le_sp (hp : Hp) {b : Nat} {T : TypeId} {cs : List AV} (x : TypeId × Nat × Value) : (hp.setBlk b T cs).le ((hp.setBlk b T cs).setSp (x :: hp.sp)) := ⟨fun _ _ h => h, fun _ _ h => h, List.sublist_cons_self _ _, fun _ h => h⟩
theorem blk_le {hp : Hp} {b : Nat} {T : TypeId} {cs cs' cs0 : List AV} {l : List (TypeId × Nat × Value)} (e : cs = cs') (hs : hp.sp.Sublist l) : (hp.setBlk b T cs').le (((hp.setBlk b T cs0).setSp l).setBlk b T cs) := by
  subst e
  refine ⟨fun i z hz => ?_, fun _ _ h => h, hs, fun _ h => h⟩
  rw [Hp.setBlk_blk] at hz ⊢
  by_cases e : i = b
  · rw [if_pos e] at hz ⊢; exact hz
  · rw [if_neg e] at hz ⊢
    rw [Hp.setSp_blk, Hp.setBlk_blk, if_neg e]; exact hz
theorem awake2_calls (hp : Hp) (hg : GOk hp) : ACalls Tryz.prog 22 [] hp (fun r hp' => r = .v (.bool true) ∧ hp' = hp) := by
  refine acalls_of Tryz.func22 rfl (by decide +kernel) (aw_seq (awp_sound (mu := []) _ _ _ ?_))
  simp only [go_sem, Nat.reduceEqDiff, Nat.reduceAdd, Nat.reduceSub, Nat.reduceLT, Nat.reduceMul, Nat.reduceBEq, Nat.reduceLeDiff, ↓reduceIte, Int.reduceToNat, Nat.reduceGT, Int.reduceLE, Int.reduceLT, Int.reduceGE, Int.reduceGT, Int.reduceEq, Int.reduceNe, reduceCtorEq]
  refine aw_seq (awp_sound (mu := []) _ _ _ ?_)
  simp only [go_sem, Nat.reduceEqDiff, Nat.reduceAdd, Nat.reduceSub, Nat.reduceLT, Nat.reduceMul, Nat.reduceBEq, Nat.reduceLeDiff, ↓reduceIte, Int.reduceToNat, Nat.reduceGT, Int.reduceLE, Int.reduceLT, Int.reduceGE, Int.reduceGT, Int.reduceEq, Int.reduceNe, reduceCtorEq]
  intro b1 hb1
  have hd1 := fun T cs => Hp.del_set _ _ T cs hb1.1
  simp only [hd1]
  refine aw_cut 117 (fun z : Value × Nat × Value × Value × Value × Value => [(2, .ref z.1 [uv, .v (.slice (some ⟨z.2.1, 0, none⟩) 1 1)])])
    (fun z => hp.setBlk z.2.1 71 (uCs z.2.2.1 z.2.2.2.1 z.2.2.2.2.1 z.2.2.2.2.2)) (fun z => hp.blk z.2.1 = none) (awp_sound (mu := [23]) _ _ _ ?_) ?_
  · refine draw_any uI (uU hp) (uB hp (.pointer (some ⟨b1, 0, none⟩))) (by decide +kernel) (by decide +kernel) (by decide +kernel) (uU_mono hp) uB_keeps ⟨rfl, by simp [go_sem], Hp.le_refl _⟩ ?_ ?_
    · simp only [stepsK, uI, depsK, WI, List.getElem?_cons_zero, List.getElem?_cons_succ]
      refine ⟨?_, ?_, ?_, ?_, ?_, ?_, ?_, ?_, ?_, ?_, ?_, ?_, ?_, ?_, trivial⟩
      · rintro st ⟨hn, hs1, hle⟩ -
        refine aop_keep fun K hK => aopK_sound (mu := []) ?_
        simp only [go_sem, Nat.reduceEqDiff, Nat.reduceAdd, Nat.reduceSub, Nat.reduceLT, Nat.reduceMul, Nat.reduceBEq, Nat.reduceLeDiff, ↓reduceIte, Int.reduceToNat, Nat.reduceGT, Int.reduceLE, Int.reduceLT, Int.reduceGE, Int.reduceGT, Int.reduceEq, Int.reduceNe, reduceCtorEq, hs1, hn]
        exact hK _ _ keeps_put put_at rfl
      · rintro st ⟨hn, hs1, hle⟩ ⟨⟨x, e, h⟩, -⟩
        obtain rfl : x = uPar := h
        refine aop_keep fun K hK => aopK_sound (mu := []) ?_
        simp only [go_sem, Nat.reduceEqDiff, Nat.reduceAdd, Nat.reduceSub, Nat.reduceLT, Nat.reduceMul, Nat.reduceBEq, Nat.reduceLeDiff, ↓reduceIte, Int.reduceToNat, Nat.reduceGT, Int.reduceLE, Int.reduceLT, Int.reduceGE, Int.reduceGT, Int.reduceEq, Int.reduceNe, reduceCtorEq, e, hn]
        refine ⟨rfl, fun y hy => ?_, fun h => ?_⟩
        · rw [List.mem_singleton] at hy; subst hy; rfl
        · exact hK _ _ (keeps_hp (Hp.le_addSp _ _)) put_at2 ⟨h, rfl⟩
      · rintro st ⟨hn, hs1, hle⟩ -
        refine aop_keep fun K hK => aopK_sound (mu := []) ?_
        simp only [go_sem, Nat.reduceEqDiff, Nat.reduceAdd, Nat.reduceSub, Nat.reduceLT, Nat.reduceMul, Nat.reduceBEq, Nat.reduceLeDiff, ↓reduceIte, Int.reduceToNat, Nat.reduceGT, Int.reduceLE, Int.reduceLT, Int.reduceGE, Int.reduceGT, Int.reduceEq, Int.reduceNe, reduceCtorEq, hn]
        refine callX_by (variable_calls _ _) ?_
        rintro r hp7 ⟨rfl, rfl⟩
        exact hK _ _ (keeps_hp (Hp.le_refl _)) put_at2 rfl
      · rintro st ⟨hn, hs1, hle⟩ -
        refine aop_keep fun K hK => aopK_sound (mu := []) ?_
        simp only [go_sem, Nat.reduceEqDiff, Nat.reduceAdd, Nat.reduceSub, Nat.reduceLT, Nat.reduceMul, Nat.reduceBEq, Nat.reduceLeDiff, ↓reduceIte, Int.reduceToNat, Nat.reduceGT, Int.reduceLE, Int.reduceLT, Int.reduceGE, Int.reduceGT, Int.reduceEq, Int.reduceNe, reduceCtorEq, hn]
        exact hK _ _ keeps_put put_at rfl
      · rintro st ⟨hn, hs1, hle⟩ ⟨⟨x, e, h⟩, ⟨y, e2, h2⟩, -⟩
        obtain rfl : x = uVar [110] := h
        obtain rfl : y = uInt 1 := h2
        refine aop_keep fun K hK => aopK_sound (mu := []) ?_
        simp only [go_sem, Nat.reduceEqDiff, Nat.reduceAdd, Nat.reduceSub, Nat.reduceLT, Nat.reduceMul, Nat.reduceBEq, Nat.reduceLeDiff, ↓reduceIte, Int.reduceToNat, Nat.reduceGT, Int.reduceLE, Int.reduceLT, Int.reduceGE, Int.reduceGT, Int.reduceEq, Int.reduceNe, reduceCtorEq, e, e2, hn]
        refine callX_by (sumV_calls _ _ _ _ _ _ _ _ _ _ _ _ _) ?_
        rintro r hp7 ⟨h, rfl, rfl⟩
        exact hK _ _ (keeps_hp (Hp.le_refl _)) put_at2 ⟨h, rfl⟩
      · rintro st ⟨hn, hs1, hle⟩ -
        refine aop_keep fun K hK => aopK_sound (mu := []) ?_
        simp only [go_sem, Nat.reduceEqDiff, Nat.reduceAdd, Nat.reduceSub, Nat.reduceLT, Nat.reduceMul, Nat.reduceBEq, Nat.reduceLeDiff, ↓reduceIte, Int.reduceToNat, Nat.reduceGT, Int.reduceLE, Int.reduceLT, Int.reduceGE, Int.reduceGT, Int.reduceEq, Int.reduceNe, reduceCtorEq, hn]
        refine callX_by (variable_calls _ _) ?_
        rintro r hp7 ⟨rfl, rfl⟩
        exact hK _ _ (keeps_hp (Hp.le_refl _)) put_at2 rfl
      · rintro st ⟨hn, hs1, hle⟩ ⟨⟨x, e, h⟩, -⟩
        obtain rfl : x = uVar [120] := h
        refine aop_keep fun K hK => aopK_sound (mu := []) ?_
        simp only [go_sem, Nat.reduceEqDiff, Nat.reduceAdd, Nat.reduceSub, Nat.reduceLT, Nat.reduceMul, Nat.reduceBEq, Nat.reduceLeDiff, ↓reduceIte, Int.reduceToNat, Nat.reduceGT, Int.reduceLE, Int.reduceLT, Int.reduceGE, Int.reduceGT, Int.reduceEq, Int.reduceNe, reduceCtorEq, e, hn]
        refine ⟨rfl, fun y hy => ?_, fun h => ?_⟩
        · rw [List.mem_singleton] at hy; subst hy; rfl
        · exact hK _ _ (keeps_hp (Hp.le_addSp _ _)) put_at2 ⟨h, rfl⟩
      · rintro st ⟨hn, hs1, hle⟩ ⟨⟨x, e, h⟩, -⟩
        obtain ⟨h, rfl⟩ : ∃ h, x = .lst 6 h [uVar [120]] := h
        refine aop_keep fun K hK => aopK_sound (mu := []) ?_
        simp only [go_sem, Nat.reduceEqDiff, Nat.reduceAdd, Nat.reduceSub, Nat.reduceLT, Nat.reduceMul, Nat.reduceBEq, Nat.reduceLeDiff, ↓reduceIte, Int.reduceToNat, Nat.reduceGT, Int.reduceLE, Int.reduceLT, Int.reduceGE, Int.reduceGT, Int.reduceEq, Int.reduceNe, reduceCtorEq, e, hn]
        exact hK _ _ keeps_put put_at ⟨h, rfl⟩
      · rintro st ⟨hn, hs1, hle⟩ ⟨⟨x, e, h⟩, ⟨y, e2, h2⟩, -⟩
        obtain ⟨hs, rfl⟩ : ∃ hs, x = uSum hs (uVar [110]) (uInt 1) := h
        obtain ⟨h18, rfl⟩ : ∃ h, y = uCall h := h2
        refine aop_keep fun K hK => aopK_sound (mu := []) ?_
        simp only [go_sem, Nat.reduceEqDiff, Nat.reduceAdd, Nat.reduceSub, Nat.reduceLT, Nat.reduceMul, Nat.reduceBEq, Nat.reduceLeDiff, ↓reduceIte, Int.reduceToNat, Nat.reduceGT, Int.reduceLE, Int.reduceLT, Int.reduceGE, Int.reduceGT, Int.reduceEq, Int.reduceNe, reduceCtorEq, e, e2, hn]
        refine ⟨rfl, fun y hy => ?_, fun h => ?_⟩
        · rcases List.mem_cons.1 hy with rfl | hy
          · rfl
          · rw [List.mem_singleton] at hy; subst hy; rfl
        · exact hK _ _ (keeps_hp (Hp.le_addSp _ _)) put_at2 ⟨h, hs, h18, rfl⟩
      · rintro st ⟨hn, hs1, hle⟩ ⟨⟨x, e, h⟩, -⟩
        obtain ⟨h20, hs, h18, rfl⟩ : ∃ h20 hs h18, x = .lst 6 h20 [uSum hs (uVar [110]) (uInt 1), uCall h18] := h
        refine aop_keep fun K hK => aopK_sound (mu := []) ?_
        simp only [go_sem, Nat.reduceEqDiff, Nat.reduceAdd, Nat.reduceSub, Nat.reduceLT, Nat.reduceMul, Nat.reduceBEq, Nat.reduceLeDiff, ↓reduceIte, Int.reduceToNat, Nat.reduceGT, Int.reduceLE, Int.reduceLT, Int.reduceGE, Int.reduceGT, Int.reduceEq, Int.reduceNe, reduceCtorEq, e, hn]
        exact hK _ _ keeps_put put_at ⟨h20, hs, h18, rfl⟩
      · rintro st ⟨hn, hs1, hle⟩ ⟨⟨x, e, h⟩, ⟨y, e2, h2⟩, -⟩
        obtain ⟨h13, rfl⟩ : ∃ h, x = .lst 2 h [uPar] := h
        obtain ⟨h20, hs, h18, rfl⟩ : ∃ h20 hs h18, y = uBody h20 hs h18 := h2
        refine aop_keep fun K hK => aopK_sound (mu := []) ?_
        simp only [go_sem, Nat.reduceEqDiff, Nat.reduceAdd, Nat.reduceSub, Nat.reduceLT, Nat.reduceMul, Nat.reduceBEq, Nat.reduceLeDiff, ↓reduceIte, Int.reduceToNat, Nat.reduceGT, Int.reduceLE, Int.reduceLT, Int.reduceGE, Int.reduceGT, Int.reduceEq, Int.reduceNe, reduceCtorEq, e, e2, uBody, hn]
        exact hK _ _ keeps_put put_at ⟨h13, hs, h18, h20, rfl⟩
      · rintro st ⟨hn, hs1, hle⟩ ⟨⟨x, e, h⟩, -⟩
        obtain ⟨h13, hs, h18, h20, rfl⟩ : ∃ h13 hs h18 h20, x = .agg (uCs h13 hs h18 h20) := h
        refine aop_keep fun K hK => aopK_sound (mu := [23]) ?_
        simp only [go_sem, Nat.reduceEqDiff, Nat.reduceAdd, Nat.reduceSub, Nat.reduceLT, Nat.reduceMul, Nat.reduceBEq, Nat.reduceLeDiff, ↓reduceIte, Int.reduceToNat, Nat.reduceGT, Int.reduceLE, Int.reduceLT, Int.reduceGE, Int.reduceGT, Int.reduceEq, Int.reduceNe, reduceCtorEq, e, hn]
        refine ⟨rfl, fun y hy => ?_, fun b hb => ?_⟩
        · rw [List.mem_singleton] at hy; subst hy; rfl
        · exact hK _ _ (keeps_hp (Hp.le_setBlk _ _ _ _ hb.1)) put_at2 ⟨b, h13, hs, h18, h20, rfl, by rw [St.setHp_hp, Hp.setBlk_blk, if_pos rfl]; rfl, le_none hle hb.1⟩
      · rintro st ⟨hn, hs1, hle⟩ ⟨⟨x, e, h⟩, -⟩
        obtain ⟨b, h13, hs, h18, h20, rfl, hb, hb0⟩ : ∃ b h13 hs h18 h20, x = .v (.slice (some ⟨b, 0, none⟩) 1 1) ∧ st.hp.blk b = some (71, uCs h13 hs h18 h20) ∧ hp.blk b = none := h
        refine aop_keep fun K hK => aopK_sound (mu := []) ?_
        simp only [go_sem, Nat.reduceEqDiff, Nat.reduceAdd, Nat.reduceSub, Nat.reduceLT, Nat.reduceMul, Nat.reduceBEq, Nat.reduceLeDiff, ↓reduceIte, Int.reduceToNat, Nat.reduceGT, Int.reduceLE, Int.reduceLT, Int.reduceGE, Int.reduceGT, Int.reduceEq, Int.reduceNe, reduceCtorEq, e, hn]
        exact hK _ _ keeps_put put_at ⟨b, h13, hs, h18, h20, rfl, hb, hb0⟩
      · rintro st ⟨hn, hs1, hle⟩ -
        refine aop_keep fun K hK => aopK_sound (mu := []) ?_
        simp only [go_sem, Nat.reduceEqDiff, Nat.reduceAdd, Nat.reduceSub, Nat.reduceLT, Nat.reduceMul, Nat.reduceBEq, Nat.reduceLeDiff, ↓reduceIte, Int.reduceToNat, Nat.reduceGT, Int.reduceLE, Int.reduceLT, Int.reduceGE, Int.reduceGT, Int.reduceEq, Int.reduceNe, reduceCtorEq, hn]
        intro b hb
        exact hK _ _ (keeps_hp (Hp.le_setBlk _ _ _ _ hb.1)) put_at2 ⟨b, rfl, by rw [St.setHp_hp, Hp.setBlk_blk, if_pos rfl]; rfl, le_none hle hb.1⟩
    · rintro st ⟨hn, hs1, hle⟩ hW
      obtain ⟨x, e, h⟩ := hW 12 (by decide)
      obtain ⟨y, e2, h2⟩ := hW 13 (by decide)
      obtain ⟨b, h13, hs, h18, h20, rfl, hb, hb0⟩ : ∃ b h13 hs h18 h20, x = .agg [uv, .v (.slice (some ⟨b, 0, none⟩) 1 1)] ∧ st.hp.blk b = some (71, uCs h13 hs h18 h20) ∧ hp.blk b = none := h
      obtain ⟨c, rfl, hc, hc0⟩ : ∃ c, y = .v (.pointer (some ⟨c, 0, none⟩)) ∧ st.hp.blk c = some (25, [uv, uv]) ∧ hp.blk c = none := h2
      show AOp _ _ _ _
      refine aopK_sound (mu := []) ?_
      simp only [go_sem, Nat.reduceEqDiff, Nat.reduceAdd, Nat.reduceSub, Nat.reduceLT, Nat.reduceMul, Nat.reduceBEq, Nat.reduceLeDiff, ↓reduceIte, Int.reduceToNat, Nat.reduceGT, Int.reduceLE, Int.reduceLT, Int.reduceGE, Int.reduceGT, Int.reduceEq, Int.reduceNe, reduceCtorEq, e, e2, hn, hc, uv]
      have hbc : b ≠ c := by rintro rfl; rw [hb] at hc; cases hc
      refine ⟨(.pointer (some ⟨c, 0, none⟩), b, h13, hs, h18, h20), hb0, le_one hn.symm ⟨fun i z hz => ?_, hle.mp, hle.sp, hle.gl⟩ put_at2⟩
      rw [Hp.setBlk_blk] at hz
      rw [St.setHp_hp, Hp.delBlk_blk]
      by_cases e : i = b
      · subst e; rw [if_pos rfl] at hz; rw [if_neg hbc, hb]; exact hz
      · rw [if_neg e] at hz
        rw [if_neg (fun e => by rw [e, hc0] at hz; cases hz)]
        exact hle.blk i z hz
  rintro ⟨v, b, h13, hs, h18, h20⟩ hbn
  simp only at hbn
  have cn := fun (hp9 : Hp) (hg : GOk hp9) (hb : hp9.blk b = some (71, uCs h13 hs h18 h20)) => u_nodes (f := uFunG h13 (bodyT hs h18 h20)) hg (fun m => u_ok1) hb rfl rfl (by simp [uFunG])
  have cl := fun (hp9 : Hp) (hg : GOk hp9) (hb : hp9.blk b = some (71, uCs h13 hs h18 h20)) => u_calls (f := uFunG h13 (bodyT hs h18 h20)) hg (fun m => u_ok1) hb rfl rfl (by simp [uFunG])
  have ck := fun (hp9 : Hp) (hg : GOk hp9) (hb : hp9.blk b = some (71, uCs h13 hs h18 h20)) => u_check (f := uFunG h13 (bodyT hs h18 h20)) hg (fun m => u_ok1) hb rfl rfl (by simp [uFunG])
  have ct := fun (hp9 : Hp) (hg : GOk hp9) (hb : hp9.blk b = some (71, uCs h13 hs h18 h20)) => u_term (f := uFunG h13 (bodyT hs h18 h20)) hg (fun m => u_ok1) hb rfl rfl (by simp [uFunG])
  have ck2 := fun (hp9 : Hp) (hg : GOk hp9) (hb : hp9.blk b = some (71, uCs2 h13)) => u_check (f := uFunG h13 (vT [121])) hg (fun m => u_ok2) hb rfl rfl (by simp [uFunG])
  simp only [u_prog1, u_prog2, u_num, if_true, Bool.false_eq_true, if_false, uProgV] at cn ck ct ck2
  simp only [uProgV] at cl
  refine aw_seq (awp_sound (mu := []) _ _ _ ?_)
  simp only [go_sem, Nat.reduceEqDiff, Nat.reduceAdd, Nat.reduceSub, Nat.reduceLT, Nat.reduceMul, Nat.reduceBEq, Nat.reduceLeDiff, ↓reduceIte, Int.reduceToNat, Nat.reduceGT, Int.reduceLE, Int.reduceLT, Int.reduceGE, Int.reduceGT, Int.reduceEq, Int.reduceNe, reduceCtorEq]
  refine callX_by (cn _ hg (by simp [Hp.setBlk])) ?_
  rintro r hp1 ⟨rfl, rfl⟩
  simp only [go_sem, Nat.reduceEqDiff, Nat.reduceAdd, Nat.reduceSub, Nat.reduceLT, Nat.reduceMul, Nat.reduceBEq, Nat.reduceLeDiff, ↓reduceIte, Int.reduceToNat, Nat.reduceGT, Int.reduceLE, Int.reduceLT, Int.reduceGE, Int.reduceGT, Int.reduceEq, Int.reduceNe, reduceCtorEq]
  refine aw_seq (awp_sound (mu := []) _ _ _ ?_)
  simp only [go_sem, Nat.reduceEqDiff, Nat.reduceAdd, Nat.reduceSub, Nat.reduceLT, Nat.reduceMul, Nat.reduceBEq, Nat.reduceLeDiff, ↓reduceIte, Int.reduceToNat, Nat.reduceGT, Int.reduceLE, Int.reduceLT, Int.reduceGE, Int.reduceGT, Int.reduceEq, Int.reduceNe, reduceCtorEq]
  refine callX_by (cl _ hg (by simp [Hp.setBlk])) ?_
  rintro r hp1 ⟨hcv, rfl⟩
  rw [CallsV, if_pos (u_prog1 ..), u_rows] at hcv
  obtain ⟨hl, hls, hlen, rfl⟩ := hcv
  obtain ⟨h9, rfl⟩ : ∃ h, hls = [h] := by
    match hls, hlen with
    | [h], _ => exact ⟨h, rfl⟩
  simp only [go_sem, Nat.reduceEqDiff, Nat.reduceAdd, Nat.reduceSub, Nat.reduceLT, Nat.reduceMul, Nat.reduceBEq, Nat.reduceLeDiff, ↓reduceIte, Int.reduceToNat, Nat.reduceGT, Int.reduceLE, Int.reduceLT, Int.reduceGE, Int.reduceGT, Int.reduceEq, Int.reduceNe, reduceCtorEq, rowsAV, intsAV, iv, List.zip_cons_cons, List.zip_nil_right, List.map_cons, List.map_nil]
  refine aw_seq (awp_sound (mu := []) _ _ _ ?_)
  simp only [go_sem, Nat.reduceEqDiff, Nat.reduceAdd, Nat.reduceSub, Nat.reduceLT, Nat.reduceMul, Nat.reduceBEq, Nat.reduceLeDiff, ↓reduceIte, Int.reduceToNat, Nat.reduceGT, Int.reduceLE, Int.reduceLT, Int.reduceGE, Int.reduceGT, Int.reduceEq, Int.reduceNe, reduceCtorEq]
  refine callX_by (ck _ hg (by simp [Hp.setBlk])) ?_
  rintro r hp1 ⟨rfl, rfl⟩
  simp only [go_sem, Nat.reduceEqDiff, Nat.reduceAdd, Nat.reduceSub, Nat.reduceLT, Nat.reduceMul, Nat.reduceBEq, Nat.reduceLeDiff, ↓reduceIte, Int.reduceToNat, Nat.reduceGT, Int.reduceLE, Int.reduceLT, Int.reduceGE, Int.reduceGT, Int.reduceEq, Int.reduceNe, reduceCtorEq]
  have ty : ∀ h1 : Value, ∀ hp9 : Hp, GOk hp9 → hp9.blk b = some (71, uCs h13 hs h18 h20) → ACalls Tryz.prog 29 [.agg [uv, .v (.slice (some ⟨b, 0, none⟩) 1 1)], .lst 1 h1 [.v (.string (bs [121]))], uv, uVar [121]] hp9 (fun r hp' => r = .tup [.v (.bool true), .v (.int .i64 0)] ∧ hp' = hp9) := fun h1 hp9 hg hb => by
    have h := ct hp9 hg hb h1 [[121]] [121]
    rw [show (true && isB (uProgG b (uFunG h13 (bodyT hs h18 h20))) (hasB [[121]]) (hasB []) (vT [121])) = true by kernel_rfl] at h
    exact h
  have tn : ∀ hp9 : Hp, GOk hp9 → hp9.blk b = some (71, uCs h13 hs h18 h20) → ACalls Tryz.prog 29 [.agg [uv, .v (.slice (some ⟨b, 0, none⟩) 1 1)], uv, uv, uVar [121]] hp9 (fun r hp' => r = .tup [.v (.bool false), .v (.int .i64 0)] ∧ hp' = hp9) := fun hp9 hg hb => by
    have h := ct hp9 hg hb nilU [] [121]
    rw [show (true && isB (uProgG b (uFunG h13 (bodyT hs h18 h20))) (hasB []) (hasB []) (vT [121])) = false by kernel_rfl] at h
    exact acalls_cast (args := [uProgV b, strsAV nilU [], uv, uVar [121]]) rfl (fun m ho => ⟨ho.1, (Cast.nil 1).2 m trivial, ho.2.2⟩) h
  refine aw_cut 117 (fun _ : Unit => [(2, .ref v [uv, .v (.slice (some ⟨b, 0, none⟩) 1 1)]), (4, .v (.int .i64 0)), (7, .v (.bool true))]) (fun _ => hp.setBlk b 71 (uCs h13 hs h18 h20)) (fun _ => True) (awp_sound (mu := []) _ _ _ ?_) ?_
  · simp only [go_sem, Nat.reduceEqDiff, Nat.reduceAdd, Nat.reduceSub, Nat.reduceLT, Nat.reduceMul, Nat.reduceBEq, Nat.reduceLeDiff, ↓reduceIte, Int.reduceToNat, Nat.reduceGT, Int.reduceLE, Int.reduceLT, Int.reduceGE, Int.reduceGT, Int.reduceEq, Int.reduceNe, reduceCtorEq]
    refine draw_by (mu := []) (fun _ => True) (.take 0 (.br 1 (.br 2 (.br 3 (.take 4 (.take 5 (.take 6 (.take 7 (.take 8 (.done)))))) (.stop)) (.stop)) (.br 2 (.br 1 (.br 3 (.take 4 (.take 5 (.take 6 (.take 7 (.take 8 (.done)))))) (.stop)) (.stop)) (.stop)))) (by decide +kernel) trivial (by decide +kernel) (by decide +kernel) ?_
    simp only [go_sem, Nat.reduceEqDiff, Nat.reduceAdd, Nat.reduceSub, Nat.reduceLT, Nat.reduceMul, Nat.reduceBEq, Nat.reduceLeDiff, ↓reduceIte, Int.reduceToNat, Nat.reduceGT, Int.reduceLE, Int.reduceLT, Int.reduceGE, Int.reduceGT, Int.reduceEq, Int.reduceNe, reduceCtorEq]
    repeat' first
      | ((with_reducible show (_ : List Nat) = _); rfl)
      | with_reducible exact trivial
      | (refine callX_by (variable_calls _ _) ?_; rintro r hp7 ⟨e7r, e7⟩; subst e7r; subst e7; try simp only [go_sem, Nat.reduceEqDiff, Nat.reduceAdd, Nat.reduceSub, Nat.reduceLT, Nat.reduceMul, Nat.reduceBEq, Nat.reduceLeDiff, ↓reduceIte, Int.reduceToNat, Nat.reduceGT, Int.reduceLE, Int.reduceLT, Int.reduceGE, Int.reduceGT, Int.reduceEq, Int.reduceNe, reduceCtorEq])
      | (refine callX_by (ty _ _ hg (by simp [Hp.setBlk, Hp.setSp])) ?_; rintro r hp7 ⟨e7r, e7⟩; subst e7r; subst e7; try simp only [go_sem, Nat.reduceEqDiff, Nat.reduceAdd, Nat.reduceSub, Nat.reduceLT, Nat.reduceMul, Nat.reduceBEq, Nat.reduceLeDiff, ↓reduceIte, Int.reduceToNat, Nat.reduceGT, Int.reduceLE, Int.reduceLT, Int.reduceGE, Int.reduceGT, Int.reduceEq, Int.reduceNe, reduceCtorEq])
      | (intro x hx; simp only [List.mem_cons, List.not_mem_nil, or_false] at hx; subst hx; rfl)
      | intro hd
      | (with_reducible refine And.intro ?_ ?_)
    all_goals exact ⟨(), le_mkSl rfl (le_sp _ _) (by simp [go_sem])⟩
  rintro ⟨⟩ -
  refine aw_cut 117 (fun _ : Unit => [(2, .ref v [uv, .v (.slice (some ⟨b, 0, none⟩) 1 1)]), (4, .v (.int .i64 0)), (7, .v (.bool true)), (8, .v (.bool false)), (6, .v (.int .i64 0))]) (fun _ => hp.setBlk b 71 (uCs h13 hs h18 h20)) (fun _ => True) (awp_sound (mu := []) _ _ _ ?_) ?_
  · simp only [go_sem, Nat.reduceEqDiff, Nat.reduceAdd, Nat.reduceSub, Nat.reduceLT, Nat.reduceMul, Nat.reduceBEq, Nat.reduceLeDiff, ↓reduceIte, Int.reduceToNat, Nat.reduceGT, Int.reduceLE, Int.reduceLT, Int.reduceGE, Int.reduceGT, Int.reduceEq, Int.reduceNe, reduceCtorEq]
    refine draw_by (mu := []) (fun _ => True) (.take 0 (.br 1 (.br 2 (.take 3 (.take 4 (.take 5 (.take 6 (.take 7 (.done)))))) (.stop)) (.stop))) (by decide +kernel) trivial (by decide +kernel) (by decide +kernel) ?_
    simp only [go_sem, Nat.reduceEqDiff, Nat.reduceAdd, Nat.reduceSub, Nat.reduceLT, Nat.reduceMul, Nat.reduceBEq, Nat.reduceLeDiff, ↓reduceIte, Int.reduceToNat, Nat.reduceGT, Int.reduceLE, Int.reduceLT, Int.reduceGE, Int.reduceGT, Int.reduceEq, Int.reduceNe, reduceCtorEq]
    repeat' first
      | with_reducible exact trivial
      | (refine callX_by (variable_calls _ _) ?_; rintro r hp7 ⟨e7r, e7⟩; subst e7r; subst e7; try simp only [go_sem, Nat.reduceEqDiff, Nat.reduceAdd, Nat.reduceSub, Nat.reduceLT, Nat.reduceMul, Nat.reduceBEq, Nat.reduceLeDiff, ↓reduceIte, Int.reduceToNat, Nat.reduceGT, Int.reduceLE, Int.reduceLT, Int.reduceGE, Int.reduceGT, Int.reduceEq, Int.reduceNe, reduceCtorEq])
      | (refine callX_by (tn _ hg (by simp [Hp.setBlk, Hp.setSp])) ?_; rintro r hp7 ⟨e7r, e7⟩; subst e7r; subst e7; try simp only [go_sem, Nat.reduceEqDiff, Nat.reduceAdd, Nat.reduceSub, Nat.reduceLT, Nat.reduceMul, Nat.reduceBEq, Nat.reduceLeDiff, ↓reduceIte, Int.reduceToNat, Nat.reduceGT, Int.reduceLE, Int.reduceLT, Int.reduceGE, Int.reduceGT, Int.reduceEq, Int.reduceNe, reduceCtorEq])
      | (with_reducible refine And.intro ?_ ?_)
    all_goals exact ⟨(), le_mkSl rfl (Hp.le_refl _) (by simp [go_sem])⟩
  rintro ⟨⟩ -
  refine aw_seq (awp_sound (mu := []) _ _ _ ?_)
  simp only [go_sem, Nat.reduceEqDiff, Nat.reduceAdd, Nat.reduceSub, Nat.reduceLT, Nat.reduceMul, Nat.reduceBEq, Nat.reduceLeDiff, ↓reduceIte, Int.reduceToNat, Nat.reduceGT, Int.reduceLE, Int.reduceLT, Int.reduceGE, Int.reduceGT, Int.reduceEq, Int.reduceNe, reduceCtorEq]
  refine callX_by (variable_calls _ _) ?_
  rintro r hp7 ⟨rfl, rfl⟩
  simp only [go_sem, Nat.reduceEqDiff, Nat.reduceAdd, Nat.reduceSub, Nat.reduceLT, Nat.reduceMul, Nat.reduceBEq, Nat.reduceLeDiff, ↓reduceIte, Int.reduceToNat, Nat.reduceGT, Int.reduceLE, Int.reduceLT, Int.reduceGE, Int.reduceGT, Int.reduceEq, Int.reduceNe, reduceCtorEq, uVar, uv]
  refine callX_by (variable_calls _ _) ?_
  rintro r hp7 ⟨rfl, rfl⟩
  simp only [go_sem, Nat.reduceEqDiff, Nat.reduceAdd, Nat.reduceSub, Nat.reduceLT, Nat.reduceMul, Nat.reduceBEq, Nat.reduceLeDiff, ↓reduceIte, Int.reduceToNat, Nat.reduceGT, Int.reduceLE, Int.reduceLT, Int.reduceGE, Int.reduceGT, Int.reduceEq, Int.reduceNe, reduceCtorEq, uVar, uv]
  refine callX_by (sumV_calls _ _ _ _ _ _ _ _ _ _ _ _ _) ?_
  rintro r hp7 ⟨hs2, rfl, rfl⟩
  simp only [go_sem, Nat.reduceEqDiff, Nat.reduceAdd, Nat.reduceSub, Nat.reduceLT, Nat.reduceMul, Nat.reduceBEq, Nat.reduceLeDiff, ↓reduceIte, Int.reduceToNat, Nat.reduceGT, Int.reduceLE, Int.reduceLT, Int.reduceGE, Int.reduceGT, Int.reduceEq, Int.reduceNe, reduceCtorEq, uv]
  refine ⟨rfl, by simp, fun h79 => ?_⟩
  refine callX_by (u_free_calls h79 hs2 _) ?_
  rintro r hp7 ⟨f1, f2, rfl, rfl⟩
  simp only [go_sem, Nat.reduceEqDiff, Nat.reduceAdd, Nat.reduceSub, Nat.reduceLT, Nat.reduceMul, Nat.reduceBEq, Nat.reduceLeDiff, ↓reduceIte, Int.reduceToNat, Nat.reduceGT, Int.reduceLE, Int.reduceLT, Int.reduceGE, Int.reduceGT, Int.reduceEq, Int.reduceNe, reduceCtorEq]
  refine aw_cut 117 (fun _ : Unit => [(2, .ref v [uv, .v (.slice (some ⟨b, 0, none⟩) 1 1)]), (4, .v (.int .i64 0)), (7, .v (.bool true)), (8, .v (.bool false)), (6, .v (.int .i64 0)), (9, strsAV f1 [[97], [98]]), (10, strsAV f2 [[107]])]) (fun _ => hp.setBlk b 71 (uCs2 h13)) (fun _ => True) (awp_sound (mu := [87, 88]) _ _ _ ?_) ?_
  · simp only [go_sem, Nat.reduceEqDiff, Nat.reduceAdd, Nat.reduceSub, Nat.reduceLT, Nat.reduceMul, Nat.reduceBEq, Nat.reduceLeDiff, ↓reduceIte, Int.reduceToNat, Nat.reduceGT, Int.reduceLE, Int.reduceLT, Int.reduceGE, Int.reduceGT, Int.reduceEq, Int.reduceNe, reduceCtorEq]
    refine draw_by (mu := [87, 88]) (fun _ => True) (.take 0 (.take 1 (.br 2 (.take 3 (.take 4 (.br 5 (.done) (.stop)))) (.stop)))) (by decide +kernel) trivial (by decide +kernel) (by decide +kernel) ?_
    simp only [go_sem, Nat.reduceEqDiff, Nat.reduceAdd, Nat.reduceSub, Nat.reduceLT, Nat.reduceMul, Nat.reduceBEq, Nat.reduceLeDiff, ↓reduceIte, Int.reduceToNat, Nat.reduceGT, Int.reduceLE, Int.reduceLT, Int.reduceGE, Int.reduceGT, Int.reduceEq, Int.reduceNe, reduceCtorEq, uv]
    refine callX_by (variable_calls _ _) ?_
    rintro r hp7 ⟨rfl, rfl⟩
    simp only [go_sem, Nat.reduceEqDiff, Nat.reduceAdd, Nat.reduceSub, Nat.reduceLT, Nat.reduceMul, Nat.reduceBEq, Nat.reduceLeDiff, ↓reduceIte, Int.reduceToNat, Nat.reduceGT, Int.reduceLE, Int.reduceLT, Int.reduceGE, Int.reduceGT, Int.reduceEq, Int.reduceNe, reduceCtorEq, uVar, uv]
    refine ⟨by simp [uCs], (), le_mkSl rfl ?_ (by simp [go_sem, uv])⟩
    simp only [go_sem, Nat.reduceEqDiff, Nat.reduceAdd, Nat.reduceSub, Nat.reduceLT, Nat.reduceMul, Nat.reduceBEq, Nat.reduceLeDiff, ↓reduceIte, Int.reduceToNat, Nat.reduceGT, Int.reduceLE, Int.reduceLT, Int.reduceGE, Int.reduceGT, Int.reduceEq, Int.reduceNe, reduceCtorEq]
    refine blk_le ?_ ?_
    · exact rfl
    · repeat first | exact List.Sublist.refl _ | apply List.Sublist.cons
  rintro ⟨⟩ -
  refine awp_sound (mu := []) _ _ _ ?_
  simp only [go_sem, Nat.reduceEqDiff, Nat.reduceAdd, Nat.reduceSub, Nat.reduceLT, Nat.reduceMul, Nat.reduceBEq, Nat.reduceLeDiff, ↓reduceIte, Int.reduceToNat, Nat.reduceGT, Int.reduceLE, Int.reduceLT, Int.reduceGE, Int.reduceGT, Int.reduceEq, Int.reduceNe, reduceCtorEq, strsAV, List.map_cons, List.map_nil]
  have sa : ∀ (h : Value) (hp9 : Hp), ACalls Tryz.prog 35 [.lst 1 f1 [.v (.string (bs [97])), .v (.string (bs [98]))], .lst 1 h [.v (.string (bs [97])), .v (.string (bs [98]))]] hp9 (fun r hp' => r = .v (.bool true) ∧ hp' = hp9) := fun h hp9 => by
    have q := sameStrs_calls f1 h [[97], [98]] [[97], [98]] hp9
    simp only [decide_true] at q
    exact q
  have sk : ∀ (h : Value) (hp9 : Hp), ACalls Tryz.prog 35 [.lst 1 f2 [.v (.string (bs [107]))], .lst 1 h [.v (.string (bs [107]))]] hp9 (fun r hp' => r = .v (.bool true) ∧ hp' = hp9) := fun h hp9 => by
    have q := sameStrs_calls f2 h [[107]] [[107]] hp9
    simp only [decide_true] at q
    exact q
  refine ⟨rfl, by simp, fun g1 => ?_⟩
  refine callX_by (sa g1 _) ?_
  rintro r hp7 ⟨rfl, rfl⟩
  simp only [go_sem, Nat.reduceEqDiff, Nat.reduceAdd, Nat.reduceSub, Nat.reduceLT, Nat.reduceMul, Nat.reduceBEq, Nat.reduceLeDiff, ↓reduceIte, Int.reduceToNat, Nat.reduceGT, Int.reduceLE, Int.reduceLT, Int.reduceGE, Int.reduceGT, Int.reduceEq, Int.reduceNe, reduceCtorEq]
  refine ⟨rfl, by simp, fun g2 => ?_⟩
  refine callX_by (sk g2 _) ?_
  rintro r hp7 ⟨rfl, rfl⟩
  simp only [go_sem, Nat.reduceEqDiff, Nat.reduceAdd, Nat.reduceSub, Nat.reduceLT, Nat.reduceMul, Nat.reduceBEq, Nat.reduceLeDiff, ↓reduceIte, Int.reduceToNat, Nat.reduceGT, Int.reduceLE, Int.reduceLT, Int.reduceGE, Int.reduceGT, Int.reduceEq, Int.reduceNe, reduceCtorEq, uv]
  simp only [uv] at ck2
  refine callX_by (ck2 _ hg (by simp [Hp.setBlk, Hp.setSp])) ?_
  rintro r hp7 ⟨rfl, rfl⟩
  simp only [go_sem, Nat.reduceEqDiff, Nat.reduceAdd, Nat.reduceSub, Nat.reduceLT, Nat.reduceMul, Nat.reduceBEq, Nat.reduceLeDiff, ↓reduceIte, Int.reduceToNat, Nat.reduceGT, Int.reduceLE, Int.reduceLT, Int.reduceGE, Int.reduceGT, Int.reduceEq, Int.reduceNe, reduceCtorEq]
  refine ret_le (hp' := hp) ⟨fun i x hi => ?_, fun _ _ h => h, ?_, fun _ h => h⟩ ⟨rfl, rfl⟩
  · have e1 : i ≠ b := by rintro rfl; rw [hbn] at hi; cases hi
    simpa [Hp.setBlk, Hp.setSp, e1] using hi
  · simp only [go_sem, Nat.reduceEqDiff, Nat.reduceAdd, Nat.reduceSub, Nat.reduceLT, Nat.reduceMul, Nat.reduceBEq, Nat.reduceLeDiff, ↓reduceIte, Int.reduceToNat, Nat.reduceGT, Int.reduceLE, Int.reduceLT, Int.reduceGE, Int.reduceGT, Int.reduceEq, Int.reduceNe, reduceCtorEq]
    repeat first | exact List.Sublist.refl _ | apply List.Sublist.cons
end Go.Proofs.YtppoacgeiooppaaGreat

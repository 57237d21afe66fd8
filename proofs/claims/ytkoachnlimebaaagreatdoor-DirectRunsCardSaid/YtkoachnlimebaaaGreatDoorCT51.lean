/- From the row's reading to declarations, terms and programs. -/
import Derived.Test.YtkoachnlimebaaaGreatDoorCT40
import Derived.Test.YtkoachnlimebaaaGreatDoorRows
import Derived.Test.YtkoachnlimebaaaGreatDoorCU9
import Derived.Test.YtkoachnlimebaaaGreatDoorCAL41
import Derived.Test.YtkoachnlimebaaaGreatDoorCAL22
import Derived.Test.YtkoachnlimebaaaGreatDoorCShelfM
import Derived.ProofKit
import Derived.JoinedCond
set_option linter.unusedSimpArgs false
set_option linter.unusedVariables false
set_option maxRecDepth 20000
set_option maxHeartbeats 4000000
namespace Go.Proofs.YtkoachnlimebaaaGreatDoor
open Go.AL
section
variable {H : Type} {enc : TypeId × Value → H} {w : World} {base : Nat} {sp : Nat → Bool} {held : Bool}

theorem reads_int {t : TypeId} {k : IntKind} (ht : Tryz.prog.underlying t = some (.int k)) {fuel : Nat} {cs : List Value} {x : DataW H × List MemPlace} (h : DataW.trod enc Tryz.prog w base sp held fuel t cs = some x) : ∃ n, cs = [.int k n] := by
  cases fuel with
  | zero => simp [DataW.trod] at h
  | succ fuel =>
    unfold DataW.trod at h
    rw [ht] at h
    split at h <;> simp only [reduceCtorEq, Option.some.injEq, TypeDesc.int.injEq] at *
    rename_i k1 k2 n he
    subst he
    split at h
    · rename_i hk; exact ⟨n, by rw [hk.1]⟩
    · cases h
theorem reads_intW {t : TypeId} (ht : Tryz.prog.underlying t = some (.int .i64)) {fuel : Nat} {cs : List Value} {x : DataW H × List MemPlace} (h : DataW.trod enc Tryz.prog w base sp held fuel t cs = some x) : ∃ n, cs = [.int .i64 n] ∧ I64 n := by
  cases fuel with
  | zero => simp [DataW.trod] at h
  | succ fuel =>
    unfold DataW.trod at h
    rw [ht] at h
    split at h <;> simp only [reduceCtorEq, Option.some.injEq, TypeDesc.int.injEq] at *
    rename_i k1 k2 n he
    subst he
    split at h
    · rename_i hk
      have hw := hk.2
      simp only [Lit.wf, Bool.and_eq_true, decide_eq_true_eq] at hw
      exact ⟨n, by rw [hk.1], hw⟩
    · cases h
theorem reads_bool {t : TypeId} (ht : Tryz.prog.underlying t = some .bool) {fuel : Nat} {cs : List Value} {x : DataW H × List MemPlace} (h : DataW.trod enc Tryz.prog w base sp held fuel t cs = some x) : ∃ b, cs = [.bool b] := by
  cases fuel with
  | zero => simp [DataW.trod] at h
  | succ fuel =>
    unfold DataW.trod at h
    rw [ht] at h
    split at h <;> simp only [reduceCtorEq, Option.some.injEq] at *
    exact ⟨_, rfl⟩
theorem reads_string {t : TypeId} (ht : Tryz.prog.underlying t = some .string) {fuel : Nat} {cs : List Value} {x : DataW H × List MemPlace} (h : DataW.trod enc Tryz.prog w base sp held fuel t cs = some x) : ∃ s : List UInt8, cs = [.string (bs s)] ∧ s.length ≤ maxLen := by
  cases fuel with
  | zero => simp [DataW.trod] at h
  | succ fuel =>
    unfold DataW.trod at h
    rw [ht] at h
    split at h <;> simp only [reduceCtorEq, Option.some.injEq] at *
    split at h
    · rename_i s _ hl; exact ⟨s.data.toList, by rw [bs_self], hl⟩
    · cases h
theorem trod_struct {P : Program} {t : TypeId} {fs : Array Field} (ht : P.underlying t = some (.struct fs)) (fuel : Nat) (cs : List Value) :
    DataW.trod enc P w base sp held (fuel + 1) t cs = if cs.length = P.cellsOf t then (fs.toList.mapM fun f => DataW.trod enc P w base sp held fuel f.type ((cs.drop f.offset).take (P.cellsOf f.type))).map fun xs => (.agg (xs.map (·.1)), xs.flatMap (·.2)) else none := by
  conv => lhs; unfold DataW.trod
  rw [ht]
theorem light_struct {P : Program} {t : TypeId} {fs : Array Field} (ht : P.underlying t = some (.struct fs)) {parts : List (DataW H)} (h : Light P t (.agg parts)) : ∀ n ∈ DataW.weightsEach P (fs.toList.map (·.type)) parts, n ≤ reachBytes := by
  intro n hn
  refine h n ?_
  rw [DataW.weights, ht]
  exact hn
theorem bulkAll_sum : ∀ l : List (DataW H), Rows.uptoBulkAll l = (l.map Rows.uptoBulk).sum
  | [] => by rw [Rows.uptoBulkAll]; rfl
  | d :: r => by rw [Rows.uptoBulkAll, bulkAll_sum r]; rfl
theorem bulk_slice (es sp' : List (DataW H)) : (es.map Rows.uptoBulk).sum ≤ Rows.uptoBulk (.slice es sp') := by
  rw [← bulkAll_sum]; simp only [Rows.uptoBulk]; omega
theorem bulk_agg (ps : List (DataW H)) : Rows.uptoBulk (.agg ps) = (ps.map Rows.uptoBulk).sum + 1 := by
  rw [← bulkAll_sum]; simp only [Rows.uptoBulk]
theorem bulk_pos (d : DataW H) : 1 ≤ Rows.uptoBulk d := by
  cases d with
  | lit l => cases l <;> simp [Rows.uptoBulk]
  | _ => simp [Rows.uptoBulk]
theorem ok_agg {m : Mem} {cs : List AV} (h : AV.oks m cs) : (AV.agg cs).ok m := h
theorem sum_ones {α : Type} : ∀ l : List α, (l.map fun _ => 1).sum = l.length
  | [] => rfl
  | a :: r => by rw [List.map_cons, List.sum_cons, sum_ones r, List.length_cons]; omega
theorem reads_str (fuel : Nat) : ReadsAt Tryz.prog enc w base sp held Rows.uptoBulk fuel 9 (fun s : Bytes => [AV.v (.string (bs s))]) (fun _ => True) (fun _ => 1) := by
  intro cs x h
  obtain ⟨s, rfl, _⟩ := reads_string Tryz.underlying9 h
  exact ⟨s, rfl, ⟨trivial, trivial⟩, fun _ => trivial, bulk_pos _⟩
/-- A slice at any depth. -/
theorem reads_sl {t e : Nat} {sz : Nat} {α : Type} {el : α → AV} {μ : α → Nat} (ht : Tryz.prog.underlying t = some (.slice e)) (hsz : Tryz.prog.cellsOf e = sz) (hp0 : 0 < sz)
    {Wt : α → Prop} {fuel : Nat} (he : ∀ m, m < fuel → ReadsAt Tryz.prog enc w base sp held Rows.uptoBulk m e (fun g => (el g).cells) Wt μ) (hval : ∀ g, (el g).ok (memOf w) → (el g).cells.length = sz)
    (hcell : ∀ g, AV.oks (memOf w) (el g).cells → (el g).ok (memOf w)) {cs : List Value} {x : DataW H × List MemPlace} (h : DataW.trod enc Tryz.prog w base sp held fuel t cs = some x) :
    ∃ (hd : Value) (gs : List α), cs = [hd] ∧ (AV.lst sz hd (gs.map el)).ok (memOf w) ∧ (Light Tryz.prog t x.1 → gs.length * Tryz.prog.bytesOf e ≤ reachBytes ∧ ∀ g ∈ gs, Wt g) ∧ (gs.map μ).sum ≤ Rows.uptoBulk x.1 := by
  cases fuel with
  | zero => simp [DataW.trod] at h
  | succ fuel => exact reads_slice_at bulk_slice ht hsz hp0 (he fuel (Nat.lt_succ_self _)) hval hcell cs x h

def XtorG.small (x : XtorG) : Prop := x.args.length * 16 ≤ reachBytes
def DeclG.small (d : DeclG) : Prop := d.xtors.length * 40 ≤ reachBytes ∧ ∀ x ∈ d.xtors, x.small
mutual
def smT : TermG → Prop
  | .mk _ _ name _ _ args _ cls => name.length ≤ maxLen ∧ smA args ∧ smC cls
def smA : List TermG → Prop
  | [] => True
  | a :: r => smT a ∧ smA r
def smC : List ClauseG → Prop
  | [] => True
  | c :: r => smB c ∧ smC r
def smB : ClauseG → Prop
  | .mk _ names b => names.length * 16 ≤ reachBytes ∧ smT b
end
theorem smA_of : ∀ {l : List TermG}, (∀ a ∈ l, smT a) → smA l
  | [], _ => by rw [smA]; trivial
  | a :: r, h => by rw [smA]; exact ⟨h a (by simp), smA_of fun b hb => h b (by simp [hb])⟩
theorem smC_of : ∀ {l : List ClauseG}, (∀ a ∈ l, smB a) → smC l
  | [], _ => by rw [smC]; trivial
  | a :: r, h => by rw [smC]; exact ⟨h a (by simp), smC_of fun b hb => h b (by simp [hb])⟩
theorem rgA_of : ∀ {l : List TermG}, (∀ a ∈ l, rgT a) → rgA l
  | [], _ => by rw [rgA]; trivial
  | a :: r, h => by rw [rgA]; exact ⟨h a (by simp), rgA_of fun b hb => h b (by simp [hb])⟩
theorem rgC_of : ∀ {l : List ClauseG}, (∀ a ∈ l, rgB a) → rgC l
  | [], _ => by rw [rgC]; trivial
  | a :: r, h => by rw [rgC]; exact ⟨h a (by simp), rgC_of fun b hb => h b (by simp [hb])⟩
theorem nmA_sum : ∀ l : List TermG, nmA l + nodesA l = (l.map fun t => nmT t + nodesT t).sum
  | [] => by rw [nmA, nodesA]; rfl
  | a :: r => by rw [nmA, nodesA, List.map_cons, List.sum_cons, ← nmA_sum r]; omega
theorem nmC_sum : ∀ l : List ClauseG, nmC l + nodesC l = (l.map fun c => nmB c + nodesB c).sum
  | [] => by rw [nmC, nodesC]; rfl
  | a :: r => by rw [nmC, nodesC, List.map_cons, List.sum_cons, ← nmC_sum r]; omega
structure FunG.small (f : FunG) : Prop where
  ps : f.params.length * 24 ≤ reachBytes
  body : smT f.body
  rg : rgT f.body
structure ProgG.small (p : ProgG) : Prop where
  dl : p.ds.length * 48 ≤ reachBytes
  ds : ∀ d ∈ p.ds, d.small
  fs : ∀ f ∈ p.fs, f.small
theorem reads_arg (fuel : Nat) : ReadsAt Tryz.prog enc w base sp held Rows.uptoBulk fuel 208 ArgG.cs (fun _ => True) (fun _ => 0) := by
  intro cs x h
  cases fuel with
  | zero => simp [DataW.trod] at h
  | succ fuel =>
    rw [trod_struct Tryz.underlying208] at h
    split at h
    · rename_i hl
      have z0 : Tryz.prog.cellsOf 3 = 1 := by kernel_rfl
      have z1 : Tryz.prog.cellsOf 4 = 1 := by kernel_rfl
      have zz : Tryz.prog.cellsOf 208 = 2 := by kernel_rfl
      rw [zz] at hl
      match cs, hl with
      | [a, b], _ =>
      simp only [List.mapM_cons, List.mapM_nil, z0, z1, List.drop_zero, List.drop_succ_cons, List.take_succ_cons, List.take_zero] at h
      cases e0 : DataW.trod enc Tryz.prog w base sp held fuel 3 [a] with
      | none => rw [e0] at h; simp at h
      | some x0 =>
      cases e1 : DataW.trod enc Tryz.prog w base sp held fuel 4 [b] with
      | none => rw [e0, e1] at h; simp at h
      | some x1 =>
      obtain ⟨n0, hn0⟩ := reads_int Tryz.underlying3 e0
      simp only [List.cons.injEq, and_true] at hn0
      subst hn0
      obtain ⟨n1, hn1⟩ := reads_bool Tryz.underlying4 e1
      simp only [List.cons.injEq, and_true] at hn1
      subst hn1
      rw [e0, e1] at h
      simp at h
      subst h
      exact ⟨⟨n0, n1⟩, rfl, ⟨trivial, trivial, trivial⟩, fun _ => trivial, Nat.zero_le _⟩
    · cases h
theorem reads_xtor (fuel : Nat) : ReadsAt Tryz.prog enc w base sp held Rows.uptoBulk fuel 205 XtorG.cs XtorG.small (fun _ => 0) := by
  intro cs x h
  cases fuel with
  | zero => simp [DataW.trod] at h
  | succ fuel =>
    rw [trod_struct Tryz.underlying205] at h
    split at h
    · rename_i hl
      have z0 : Tryz.prog.cellsOf 9 = 1 := by kernel_rfl
      have z1 : Tryz.prog.cellsOf 203 = 1 := by kernel_rfl
      have zz : Tryz.prog.cellsOf 205 = 2 := by kernel_rfl
      rw [zz] at hl
      match cs, hl with
      | [a, b], _ =>
      simp only [List.mapM_cons, List.mapM_nil, z0, z1, List.drop_zero, List.drop_succ_cons, List.take_succ_cons, List.take_zero] at h
      cases e0 : DataW.trod enc Tryz.prog w base sp held fuel 9 [a] with
      | none => rw [e0] at h; simp at h
      | some x0 =>
      cases e1 : DataW.trod enc Tryz.prog w base sp held fuel 203 [b] with
      | none => rw [e0, e1] at h; simp at h
      | some x1 =>
      obtain ⟨n0, hn0, _⟩ := reads_string Tryz.underlying9 e0
      simp only [List.cons.injEq, and_true] at hn0
      subst hn0
      obtain ⟨hd1, g1, hn1, ok1, W1, b1⟩ := reads_sl (sz := 2) (el := ArgG.av) (μ := fun _ => 0) Tryz.underlying203 (by kernel_rfl) (by decide) (fun m _ => reads_arg m) (fun g _ => rfl) (fun g h => ok_agg h) e1
      simp only [List.cons.injEq, and_true] at hn1
      subst hn1
      rw [e0, e1] at h
      simp at h
      subst h
      have h4 : Tryz.prog.bytesOf 208 = 16 := by kernel_rfl
      refine ⟨⟨n0, b, g1⟩, rfl, ⟨trivial, ok1, trivial⟩, fun hL => ?_, Nat.zero_le _⟩
      have hL2 := light_struct Tryz.underlying205 hL
      have := (W1 fun m hm => hL2 m (by simp [DataW.weightsEach, hm])).1
      rw [h4] at this
      exact this
    · cases h
theorem reads_decl (fuel : Nat) : ReadsAt Tryz.prog enc w base sp held Rows.uptoBulk fuel 202 DeclG.cs DeclG.small (fun _ => 0) := by
  intro cs x h
  cases fuel with
  | zero => simp [DataW.trod] at h
  | succ fuel =>
    rw [trod_struct Tryz.underlying202] at h
    split at h
    · rename_i hl
      have z0 : Tryz.prog.cellsOf 9 = 1 := by kernel_rfl
      have z1 : Tryz.prog.cellsOf 4 = 1 := by kernel_rfl
      have z2 : Tryz.prog.cellsOf 200 = 1 := by kernel_rfl
      have zz : Tryz.prog.cellsOf 202 = 3 := by kernel_rfl
      rw [zz] at hl
      match cs, hl with
      | [a, c, b], _ =>
      simp only [List.mapM_cons, List.mapM_nil, z0, z1, z2, List.drop_zero, List.drop_succ_cons, List.take_succ_cons, List.take_zero] at h
      cases e0 : DataW.trod enc Tryz.prog w base sp held fuel 9 [a] with
      | none => rw [e0] at h; simp at h
      | some x0 =>
      cases e1 : DataW.trod enc Tryz.prog w base sp held fuel 4 [c] with
      | none => rw [e0, e1] at h; simp at h
      | some x1 =>
      cases e2 : DataW.trod enc Tryz.prog w base sp held fuel 200 [b] with
      | none => rw [e0, e1, e2] at h; simp at h
      | some x2 =>
      obtain ⟨n0, hn0, _⟩ := reads_string Tryz.underlying9 e0
      simp only [List.cons.injEq, and_true] at hn0
      subst hn0
      obtain ⟨n1, hn1⟩ := reads_bool Tryz.underlying4 e1
      simp only [List.cons.injEq, and_true] at hn1
      subst hn1
      obtain ⟨hd2, g2, hn2, ok2, W2, b2⟩ := reads_sl (sz := 2) (el := XtorG.av) (μ := fun _ => 0) Tryz.underlying200 (by kernel_rfl) (by decide) (fun m _ => reads_xtor m) (fun g _ => rfl) (fun g h => ok_agg h) e2
      simp only [List.cons.injEq, and_true] at hn2
      subst hn2
      rw [e0, e1, e2] at h
      simp at h
      subst h
      have h4 : Tryz.prog.bytesOf 205 = 40 := by kernel_rfl
      refine ⟨⟨n0, n1, b, g2⟩, rfl, ⟨trivial, trivial, ok2, trivial⟩, fun hL => ?_, Nat.zero_le _⟩
      have hL2 := light_struct Tryz.underlying202 hL
      have := W2 fun m hm => hL2 m (by simp [DataW.weightsEach, hm])
      rw [h4] at this
      exact this
    · cases h
theorem reads_param (fuel : Nat) : ReadsAt Tryz.prog enc w base sp held Rows.uptoBulk fuel 77 ParamG.cs (fun _ => True) (fun _ => 1) := by
  intro cs x h
  cases fuel with
  | zero => simp [DataW.trod] at h
  | succ fuel =>
    rw [trod_struct Tryz.underlying77] at h
    split at h
    · rename_i hl
      have z0 : Tryz.prog.cellsOf 9 = 1 := by kernel_rfl
      have z1 : Tryz.prog.cellsOf 3 = 1 := by kernel_rfl
      have zz : Tryz.prog.cellsOf 77 = 2 := by kernel_rfl
      rw [zz] at hl
      match cs, hl with
      | [a, b], _ =>
      simp only [List.mapM_cons, List.mapM_nil, z0, z1, List.drop_zero, List.drop_succ_cons, List.take_succ_cons, List.take_zero] at h
      cases e0 : DataW.trod enc Tryz.prog w base sp held fuel 9 [a] with
      | none => rw [e0] at h; simp at h
      | some x0 =>
      cases e1 : DataW.trod enc Tryz.prog w base sp held fuel 3 [b] with
      | none => rw [e0, e1] at h; simp at h
      | some x1 =>
      obtain ⟨n0, hn0, _⟩ := reads_string Tryz.underlying9 e0
      simp only [List.cons.injEq, and_true] at hn0
      subst hn0
      obtain ⟨n1, hn1⟩ := reads_int Tryz.underlying3 e1
      simp only [List.cons.injEq, and_true] at hn1
      subst hn1
      rw [e0, e1] at h
      simp at h
      subst h
      exact ⟨⟨n0, n1⟩, rfl, ⟨trivial, trivial, trivial⟩, fun _ => trivial, bulk_pos _⟩
    · cases h
theorem reads_clause (fuel : Nat) (ih : ∀ m, m < fuel → ReadsAt Tryz.prog enc w base sp held Rows.uptoBulk m 64 TermG.cs (fun t => smT t ∧ rgT t) (fun t => nmT t + nodesT t)) : ReadsAt Tryz.prog enc w base sp held Rows.uptoBulk fuel 177 ClauseG.cs (fun c => smB c ∧ rgB c) (fun c => nmB c + nodesB c) := by
  intro cs x h
  cases fuel with
  | zero => simp [DataW.trod] at h
  | succ fuel =>
    rw [trod_struct Tryz.underlying177] at h
    split at h
    · rename_i hl
      have z0 : Tryz.prog.cellsOf 101 = 1 := by kernel_rfl
      have z1 : Tryz.prog.cellsOf 64 = 6 := by kernel_rfl
      have zz : Tryz.prog.cellsOf 177 = 7 := by kernel_rfl
      rw [zz] at hl
      match cs, hl with
      | [a, t0, t1, t2, t3, t4, t5], _ =>
      simp only [List.mapM_cons, List.mapM_nil, z0, z1, List.drop_zero, List.drop_succ_cons, List.take_succ_cons, List.take_zero] at h
      cases e0 : DataW.trod enc Tryz.prog w base sp held fuel 101 [a] with
      | none => rw [e0] at h; simp at h
      | some x0 =>
      cases e1 : DataW.trod enc Tryz.prog w base sp held fuel 64 [t0, t1, t2, t3, t4, t5] with
      | none => rw [e0, e1] at h; simp at h
      | some x1 =>
      obtain ⟨hd0, g0, hn0, ok0, W0, b0⟩ := reads_sl (sz := 1) (el := fun s : Bytes => AV.v (.string (bs s))) (μ := fun _ => 1) Tryz.underlying101 (by kernel_rfl) (by decide) (fun m _ => reads_str m) (fun g _ => rfl) (fun g h => h.1) e0
      simp only [List.cons.injEq, and_true] at hn0
      subst hn0
      obtain ⟨g1, hn1, ok1, W1, b1⟩ := (ih fuel (Nat.lt_succ_self _)) _ _ e1
      rw [e0, e1] at h
      simp at h
      subst h
      have h4 : Tryz.prog.bytesOf 9 = 16 := by kernel_rfl
      refine ⟨.mk a g0 g1, ?_, ⟨ok0, ok1⟩, fun hL => ?_, ?_⟩
      · rw [ClauseG.cs, AV.vals, hn1]; rfl
      · have hL2 := light_struct Tryz.underlying177 hL
        have w0 := (W0 fun m hm => hL2 m (by simp [DataW.weightsEach, hm])).1
        rw [h4] at w0
        show smB _ ∧ rgB _
        rw [smB, rgB]
        have w1 := W1 fun m hm => hL2 m (by simp [DataW.weightsEach, hm])
        exact ⟨⟨w0, w1.1⟩, w1.2⟩
      · have hs : (g0.map fun _ => 1).sum = g0.length := sum_ones g0
        have b1' : nmT g1 + nodesT g1 ≤ Rows.uptoBulk x1.1 := b1
        simp only [bulk_agg, List.map_cons, List.map_nil, List.sum_cons, List.sum_nil]
        rw [nmB, nodesB]
        rw [hs] at b0
        omega
    · cases h
theorem reads_term1 (fuel : Nat) (ih : ∀ m, m < fuel → ReadsAt Tryz.prog enc w base sp held Rows.uptoBulk m 64 TermG.cs (fun t => smT t ∧ rgT t) (fun t => nmT t + nodesT t)) : ReadsAt Tryz.prog enc w base sp held Rows.uptoBulk fuel 64 TermG.cs (fun t => smT t ∧ rgT t) (fun t => nmT t + nodesT t) := by
  intro cs x h
  cases fuel with
  | zero => simp [DataW.trod] at h
  | succ fuel =>
    rw [trod_struct Tryz.underlying64] at h
    split at h
    · rename_i hl
      have z0 : Tryz.prog.cellsOf 3 = 1 := by kernel_rfl
      have z1 : Tryz.prog.cellsOf 9 = 1 := by kernel_rfl
      have z2 : Tryz.prog.cellsOf 61 = 1 := by kernel_rfl
      have z3 : Tryz.prog.cellsOf 62 = 1 := by kernel_rfl
      have zz : Tryz.prog.cellsOf 64 = 6 := by kernel_rfl
      rw [zz] at hl
      match cs, hl with
      | [a, b, c, d, e, f], _ =>
      simp only [List.mapM_cons, List.mapM_nil, z0, z1, z2, z3, List.drop_zero, List.drop_succ_cons, List.take_succ_cons, List.take_zero] at h
      cases e0 : DataW.trod enc Tryz.prog w base sp held fuel 3 [a] with
      | none => rw [e0] at h; simp at h
      | some x0 =>
      cases e1 : DataW.trod enc Tryz.prog w base sp held fuel 3 [b] with
      | none => rw [e0, e1] at h; simp at h
      | some x1 =>
      cases e2 : DataW.trod enc Tryz.prog w base sp held fuel 9 [c] with
      | none => rw [e0, e1, e2] at h; simp at h
      | some x2 =>
      cases e3 : DataW.trod enc Tryz.prog w base sp held fuel 3 [d] with
      | none => rw [e0, e1, e2, e3] at h; simp at h
      | some x3 =>
      cases e4 : DataW.trod enc Tryz.prog w base sp held fuel 61 [e] with
      | none => rw [e0, e1, e2, e3, e4] at h; simp at h
      | some x4 =>
      cases e5 : DataW.trod enc Tryz.prog w base sp held fuel 62 [f] with
      | none => rw [e0, e1, e2, e3, e4, e5] at h; simp at h
      | some x5 =>
      obtain ⟨n0, hn0⟩ := reads_int Tryz.underlying3 e0
      simp only [List.cons.injEq, and_true] at hn0
      subst hn0
      obtain ⟨n1, hn1, hrg⟩ := reads_intW Tryz.underlying3 e1
      simp only [List.cons.injEq, and_true] at hn1
      subst hn1
      obtain ⟨n2, hn2, hlen2⟩ := reads_string Tryz.underlying9 e2
      simp only [List.cons.injEq, and_true] at hn2
      subst hn2
      obtain ⟨n3, hn3⟩ := reads_int Tryz.underlying3 e3
      simp only [List.cons.injEq, and_true] at hn3
      subst hn3
      obtain ⟨hd4, g4, hn4, ok4, W4, b4⟩ := reads_sl (sz := 6) (el := TermG.av) (μ := fun t => nmT t + nodesT t) Tryz.underlying61 (by kernel_rfl) (by decide) (fun m hm => ih m (Nat.lt_succ_of_lt hm)) (fun g _ => by simp [TermG.av, TermG.cs_eq, AV.cells]) (fun g h => ok_agg h) e4
      simp only [List.cons.injEq, and_true] at hn4
      subst hn4
      obtain ⟨hd5, g5, hn5, ok5, W5, b5⟩ := reads_sl (sz := 7) (el := ClauseG.av) (μ := fun c => nmB c + nodesB c) Tryz.underlying62 (by kernel_rfl) (by decide) (fun m hm => reads_clause m (fun k hk => ih k (by omega))) (fun g _ => by simp [ClauseG.av, ClauseG.cs_eq, AV.cells]) (fun g h => ok_agg h) e5
      simp only [List.cons.injEq, and_true] at hn5
      subst hn5
      rw [e0, e1, e2, e3, e4, e5] at h
      simp at h
      subst h
      refine ⟨.mk n0 n1 n2 n3 e g4 f g5, ?_, ?_, fun hL => ?_, ?_⟩
      · rw [TermG.cs]; rfl
      · rw [TermG.cs_eq]; exact ⟨trivial, trivial, trivial, trivial, ok4, ok5, trivial⟩
      · have hL2 := light_struct Tryz.underlying64 hL
        show smT _ ∧ rgT _
        rw [smT, rgT]
        have w4 := (W4 fun m hm => hL2 m (by simp [DataW.weightsEach, hm])).2
        have w5 := (W5 fun m hm => hL2 m (by simp [DataW.weightsEach, hm])).2
        exact ⟨⟨hlen2, smA_of fun a ha => (w4 a ha).1, smC_of fun c hc => (w5 c hc).1⟩, hrg, rgA_of fun a ha => (w4 a ha).2, rgC_of fun c hc => (w5 c hc).2⟩
      · have h1 := nmA_sum g4
        have h2 := nmC_sum g5
        simp only [bulk_agg, List.map_cons, List.map_nil, List.sum_cons, List.sum_nil]
        rw [nmT, nodesT]
        omega
    · cases h
theorem reads_term : ∀ fuel : Nat, ReadsAt Tryz.prog enc w base sp held Rows.uptoBulk fuel 64 TermG.cs (fun t => smT t ∧ rgT t) (fun t => nmT t + nodesT t) := by
  intro fuel
  induction fuel using Nat.strongRecOn with
  | _ fuel ih => exact reads_term1 fuel ih
theorem reads_fun (fuel : Nat) : ReadsAt Tryz.prog enc w base sp held Rows.uptoBulk fuel 66 FunG.cs FunG.small (fun _ => 0) := by
  intro cs x h
  cases fuel with
  | zero => simp [DataW.trod] at h
  | succ fuel =>
    rw [trod_struct Tryz.underlying66] at h
    split at h
    · rename_i hl
      have z0 : Tryz.prog.cellsOf 9 = 1 := by kernel_rfl
      have z1 : Tryz.prog.cellsOf 60 = 1 := by kernel_rfl
      have z2 : Tryz.prog.cellsOf 3 = 1 := by kernel_rfl
      have z3 : Tryz.prog.cellsOf 64 = 6 := by kernel_rfl
      have zz : Tryz.prog.cellsOf 66 = 9 := by kernel_rfl
      rw [zz] at hl
      match cs, hl with
      | [a, b, c, t0, t1, t2, t3, t4, t5], _ =>
      simp only [List.mapM_cons, List.mapM_nil, z0, z1, z2, z3, List.drop_zero, List.drop_succ_cons, List.take_succ_cons, List.take_zero] at h
      cases e0 : DataW.trod enc Tryz.prog w base sp held fuel 9 [a] with
      | none => rw [e0] at h; simp at h
      | some x0 =>
      cases e1 : DataW.trod enc Tryz.prog w base sp held fuel 60 [b] with
      | none => rw [e0, e1] at h; simp at h
      | some x1 =>
      cases e2 : DataW.trod enc Tryz.prog w base sp held fuel 3 [c] with
      | none => rw [e0, e1, e2] at h; simp at h
      | some x2 =>
      cases e3 : DataW.trod enc Tryz.prog w base sp held fuel 64 [t0, t1, t2, t3, t4, t5] with
      | none => rw [e0, e1, e2, e3] at h; simp at h
      | some x3 =>
      obtain ⟨n0, hn0, _⟩ := reads_string Tryz.underlying9 e0
      simp only [List.cons.injEq, and_true] at hn0
      subst hn0
      obtain ⟨hd1, g1, hn1, ok1, W1, b1⟩ := reads_sl (sz := 2) (el := ParamG.av) (μ := fun _ => 1) Tryz.underlying60 (by kernel_rfl) (by decide) (fun m _ => reads_param m) (fun g _ => rfl) (fun g h => ok_agg h) e1
      simp only [List.cons.injEq, and_true] at hn1
      subst hn1
      obtain ⟨n2, hn2⟩ := reads_int Tryz.underlying3 e2
      simp only [List.cons.injEq, and_true] at hn2
      subst hn2
      obtain ⟨g3, hn3, ok3, W3, b3⟩ := reads_term fuel _ _ e3
      rw [e0, e1, e2, e3] at h
      simp at h
      subst h
      have h4 : Tryz.prog.bytesOf 77 = 24 := by kernel_rfl
      have hok : AV.oks (memOf w) g3.cs := ok3
      rw [TermG.cs_eq] at hn3 hok
      refine ⟨⟨n0, b, g1, n2, g3⟩, ?_, ?_, fun hL => ?_, Nat.zero_le _⟩
      · simp only [FunG.cs, AV.vals, AV.val, paramsAV] at hn3 ⊢
        rw [hn3]
      · exact ⟨trivial, ok1, trivial, hok⟩
      · have hL2 := light_struct Tryz.underlying66 hL
        have w1 := (W1 fun m hm => hL2 m (by simp [DataW.weightsEach, hm])).1
        rw [h4] at w1
        have w3 := W3 fun m hm => hL2 m (by simp [DataW.weightsEach, hm])
        exact ⟨w1, w3.1, w3.2⟩
    · cases h
theorem reads_prog (fuel : Nat) : ReadsAt Tryz.prog enc w base sp held Rows.uptoBulk fuel 25 ProgG.cs ProgG.small (fun _ => 0) := by
  intro cs x h
  cases fuel with
  | zero => simp [DataW.trod] at h
  | succ fuel =>
    rw [trod_struct Tryz.underlying25] at h
    split at h
    · rename_i hl
      have z0 : Tryz.prog.cellsOf 22 = 1 := by kernel_rfl
      have z1 : Tryz.prog.cellsOf 23 = 1 := by kernel_rfl
      have zz : Tryz.prog.cellsOf 25 = 2 := by kernel_rfl
      rw [zz] at hl
      match cs, hl with
      | [a, b], _ =>
      simp only [List.mapM_cons, List.mapM_nil, z0, z1, List.drop_zero, List.drop_succ_cons, List.take_succ_cons, List.take_zero] at h
      cases e0 : DataW.trod enc Tryz.prog w base sp held fuel 22 [a] with
      | none => rw [e0] at h; simp at h
      | some x0 =>
      cases e1 : DataW.trod enc Tryz.prog w base sp held fuel 23 [b] with
      | none => rw [e0, e1] at h; simp at h
      | some x1 =>
      obtain ⟨hd0, g0, hn0, ok0, W0, b0⟩ := reads_sl (sz := 3) (el := DeclG.av) (μ := fun _ => 0) Tryz.underlying22 (by kernel_rfl) (by decide) (fun m _ => reads_decl m) (fun g _ => rfl) (fun g h => ok_agg h) e0
      simp only [List.cons.injEq, and_true] at hn0
      subst hn0
      obtain ⟨hd1, g1, hn1, ok1, W1, b1⟩ := reads_sl (sz := 9) (el := FunG.av) (μ := fun _ => 0) Tryz.underlying23 (by kernel_rfl) (by decide) (fun m _ => reads_fun m) (fun g _ => rfl) (fun g h => ok_agg h) e1
      simp only [List.cons.injEq, and_true] at hn1
      subst hn1
      rw [e0, e1] at h
      simp at h
      subst h
      have h4 : Tryz.prog.bytesOf 202 = 48 := by kernel_rfl
      refine ⟨⟨a, g0, b, g1⟩, rfl, ⟨ok0, ok1, trivial⟩, fun hL => ?_, Nat.zero_le _⟩
      have hL2 := light_struct Tryz.underlying25 hL
      have w0 := W0 fun m hm => hL2 m (by simp [DataW.weightsEach, hm])
      have w1 := (W1 fun m hm => hL2 m (by simp [DataW.weightsEach, hm])).2
      rw [h4] at w0
      exact ⟨w0.1, w0.2, w1⟩
    · cases h
end
end Go.Proofs.YtkoachnlimebaaaGreatDoor
/- Helpers for the rows over programs and terms. -/
set_option linter.unusedSimpArgs false
set_option linter.unusedVariables false
namespace Go.Proofs.YtkoachnlimebaaaGreatDoor
open Go.AL Go.ChangeShapes Go.WideShapes Go.ChangeAt Go.RowKit

def hp0 (m : Int) : Hp := ⟨fun _ => none, fun _ => none, [], [(1, [.v (.int .i64 m)])]⟩
theorem own : ownKnob Tryz.prog.godebug = none := by kernel_rfl
theorem laidOut : laidOutB Tryz.prog = true := by kernel_rfl
section
variable {H : Type} {enc : TypeId × Value → H} {P : Program} {w : World} {base : Nat} {spare : Nat → Bool} {held : Bool}
theorem trod_slice {r : Reach} {b0 : Nat} {t e : TypeId} {v : Value} {d : DataW H} {ps : List MemPlace} (ht : P.underlying t = some (.slice e))
    (hval : Value.okWide P w r b0 t v) (hd : DataW.Trod enc P w base spare held t v d ps) : ∃ fuel, DataW.trod enc P w base spare held fuel t [v] = some (d, ps) := by
  obtain ⟨a0, n, c, rfl⟩ := okWide_slice ht hval
  exact hd
theorem trod_aggr {r : Reach} {b0 : Nat} {t : TypeId} {fs : Array Field} {v : Value} {d : DataW H} {ps : List MemPlace} (ht : P.underlying t = some (.struct fs))
    (hval : Value.okWide P w r b0 t v) (hd : DataW.Trod enc P w base spare held t v d ps) : ∃ cs fuel, v = .agg cs ∧ DataW.trod enc P w base spare held fuel t cs.toList = some (d, ps) := by
  unfold Value.okWide at hval
  rw [ht] at hval
  obtain ⟨cs, rfl, _⟩ := hval
  obtain ⟨fuel, h⟩ := hd
  exact ⟨cs, fuel, rfl, h⟩
/-- An argument takes no more than a process has. -/
theorem light_at {ts : List TypeId} {ds : List (DataW H)} (h : (DataW.weightsEach P ts ds).all (· ≤ reachBytes) = true) {j : Nat} {t : TypeId} {d : DataW H} (ht : ts[j]? = some t) (hd : ds[j]? = some d) : Light P t d := by
  intro n hn
  have := List.all_eq_true.1 h n (DataW.weights_mem_each ht hd n hn)
  simpa using this
end
section
variable {H : Type} {enc : TypeId × Value → H} {w : World} {base : Nat} {sp : Nat → Bool} {held : Bool}
theorem pfit_of {p : ProgG} (h : p.small) : PFit p := fun f hf => by
  have := (h.fs f hf).ps
  have hR : reachBytes = 140737488351232 := rfl
  omega
end
end Go.Proofs.YtkoachnlimebaaaGreatDoor

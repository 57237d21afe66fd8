/- From the row's reading to declarations. -/
import Derived.Test.YtfdlfcafcjhpmaaCD14
import Derived.Test.YtfdlfcafcjhpmaaCAL21
set_option linter.unusedSimpArgs false
set_option linter.unusedVariables false
set_option maxRecDepth 20000
namespace Go.Proofs.Ytfdlfcafcjhpmaa
open Go.AL
section
variable {H : Type} {enc : TypeId × Value → H} {w : World} {base : Nat} {sp : Nat → Bool} {held : Bool}

theorem reads_int {t : TypeId} {k : IntKind} (ht : Try.prog.underlying t = some (.int k)) {fuel : Nat} {cs : List Value} {x : DataW H × List MemPlace} (h : DataW.trod enc Try.prog w base sp held fuel t cs = some x) : ∃ n, cs = [.int k n] := by
  cases fuel with
  | zero => simp [DataW.trod] at h
  | succ fuel =>
    unfold DataW.trod at h
    rw [ht] at h
    split at h <;> simp only [reduceCtorEq, Option.some.injEq, TypeDesc.int.injEq] at *
    rename_i k1 k2 n he
    subst he
    split at h
    · rename_i hk; exact ⟨n, by rw [hk.1]⟩
    · cases h
theorem reads_bool {t : TypeId} (ht : Try.prog.underlying t = some .bool) {fuel : Nat} {cs : List Value} {x : DataW H × List MemPlace} (h : DataW.trod enc Try.prog w base sp held fuel t cs = some x) : ∃ b, cs = [.bool b] := by
  cases fuel with
  | zero => simp [DataW.trod] at h
  | succ fuel =>
    unfold DataW.trod at h
    rw [ht] at h
    split at h <;> simp only [reduceCtorEq, Option.some.injEq] at *
    exact ⟨_, rfl⟩
theorem reads_string {t : TypeId} (ht : Try.prog.underlying t = some .string) {fuel : Nat} {cs : List Value} {x : DataW H × List MemPlace} (h : DataW.trod enc Try.prog w base sp held fuel t cs = some x) : ∃ s : List UInt8, cs = [.string (bs s)] ∧ s.length ≤ maxLen := by
  cases fuel with
  | zero => simp [DataW.trod] at h
  | succ fuel =>
    unfold DataW.trod at h
    rw [ht] at h
    split at h <;> simp only [reduceCtorEq, Option.some.injEq] at *
    split at h
    · rename_i s _ hl; exact ⟨s.data.toList, by rw [bs_self], hl⟩
    · cases h

theorem trod_struct {P : Program} {t : TypeId} {fs : Array Field} (ht : P.underlying t = some (.struct fs)) (fuel : Nat) (cs : List Value) :
    DataW.trod enc P w base sp held (fuel + 1) t cs = if cs.length = P.cellsOf t then (fs.toList.mapM fun f => DataW.trod enc P w base sp held fuel f.type ((cs.drop f.offset).take (P.cellsOf f.type))).map fun xs => (.agg (xs.map (·.1)), xs.flatMap (·.2)) else none := by
  conv => lhs; unfold DataW.trod
  rw [ht]

theorem light_struct {P : Program} {t : TypeId} {fs : Array Field} (ht : P.underlying t = some (.struct fs)) {parts : List (DataW H)} (h : Light P t (.agg parts)) : ∀ n ∈ DataW.weightsEach P (fs.toList.map (·.type)) parts, n ≤ reachBytes := by
  intro n hn
  refine h n ?_
  rw [DataW.weights, ht]
  exact hn

theorem reads_arg : Reads Try.prog enc w base sp held 93 ArgG.cs (fun _ => True) := by
  intro fuel cs x h
  cases fuel with
  | zero => simp [DataW.trod] at h
  | succ fuel =>
    rw [trod_struct Try.underlying93] at h
    split at h
    · rename_i hl
      have h1 : Try.prog.cellsOf 3 = 1 := by kernel_rfl
      have h2 : Try.prog.cellsOf 4 = 1 := by kernel_rfl
      have h3 : Try.prog.cellsOf 93 = 2 := by kernel_rfl
      rw [h3] at hl
      match cs, hl with
      | [a, b], _ =>
      simp only [List.mapM_cons, List.mapM_nil, h1, h2, List.drop_zero, List.drop_succ_cons, List.take_succ_cons, List.take_zero] at h
      cases e1 : DataW.trod enc Try.prog w base sp held fuel 3 [a] with
      | none => rw [e1] at h; simp at h
      | some x1 =>
      cases e2 : DataW.trod enc Try.prog w base sp held fuel 4 [b] with
      | none => rw [e1, e2] at h; simp at h
      | some x2 =>
      obtain ⟨n, hn⟩ := reads_int Try.underlying3 e1
      obtain ⟨c, hc⟩ := reads_bool Try.underlying4 e2
      simp only [List.cons.injEq, and_true] at hn hc
      subst hn; subst hc
      exact ⟨⟨n, c⟩, rfl, ⟨trivial, trivial, trivial⟩, fun _ => trivial⟩
    · cases h

theorem ok_agg {m : Mem} {cs : List AV} (h : AV.oks m cs) : (AV.agg cs).ok m := h

def XtorG.small (x : XtorG) : Prop := x.args.length * 16 ≤ reachBytes
def DeclG.small (d : DeclG) : Prop := d.xtors.length * 40 ≤ reachBytes ∧ ∀ x ∈ d.xtors, x.small

theorem reads_xtor : Reads Try.prog enc w base sp held 88 XtorG.cs XtorG.small := by
  intro fuel cs x h
  cases fuel with
  | zero => simp [DataW.trod] at h
  | succ fuel =>
    rw [trod_struct Try.underlying88] at h
    split at h
    · rename_i hl
      have h1 : Try.prog.cellsOf 9 = 1 := by kernel_rfl
      have h2 : Try.prog.cellsOf 86 = 1 := by kernel_rfl
      have h3 : Try.prog.cellsOf 88 = 2 := by kernel_rfl
      have h4 : Try.prog.bytesOf 93 = 16 := by kernel_rfl
      rw [h3] at hl
      match cs, hl with
      | [a, b], _ =>
      simp only [List.mapM_cons, List.mapM_nil, h1, h2, List.drop_zero, List.drop_succ_cons, List.take_succ_cons, List.take_zero] at h
      cases e1 : DataW.trod enc Try.prog w base sp held fuel 9 [a] with
      | none => rw [e1] at h; simp at h
      | some x1 =>
      cases e2 : DataW.trod enc Try.prog w base sp held fuel 86 [b] with
      | none => rw [e1, e2] at h; simp at h
      | some x2 =>
      obtain ⟨n, hn, _⟩ := reads_string Try.underlying9 e1
      obtain ⟨hd, gs, hc, hok, hW⟩ := reads_slice (sz := 2) (el := ArgG.av) Try.underlying86 (by kernel_rfl) (by decide) reads_arg (fun g _ => rfl) (fun g h => ok_agg h) _ _ _ e2
      simp only [List.cons.injEq, and_true] at hn hc
      subst hn; subst hc
      refine ⟨⟨n, b, gs⟩, rfl, ⟨trivial, hok, trivial⟩, fun hL => ?_⟩
      rw [e1, e2] at h
      simp at h
      subst h
      have hL2 := light_struct Try.underlying88 hL
      have := (hW fun m hm => hL2 m (by simp [DataW.weightsEach, hm])).1
      rw [h4] at this
      exact this
    · cases h

theorem reads_decl : Reads Try.prog enc w base sp held 91 DeclG.cs DeclG.small := by
  intro fuel cs x h
  cases fuel with
  | zero => simp [DataW.trod] at h
  | succ fuel =>
    rw [trod_struct Try.underlying91] at h
    split at h
    · rename_i hl
      have h1 : Try.prog.cellsOf 9 = 1 := by kernel_rfl
      have h0 : Try.prog.cellsOf 4 = 1 := by kernel_rfl
      have h2 : Try.prog.cellsOf 89 = 1 := by kernel_rfl
      have h3 : Try.prog.cellsOf 91 = 3 := by kernel_rfl
      have h4 : Try.prog.bytesOf 88 = 40 := by kernel_rfl
      rw [h3] at hl
      match cs, hl with
      | [a, c, b], _ =>
      simp only [List.mapM_cons, List.mapM_nil, h0, h1, h2, List.drop_zero, List.drop_succ_cons, List.take_succ_cons, List.take_zero] at h
      cases e1 : DataW.trod enc Try.prog w base sp held fuel 9 [a] with
      | none => rw [e1] at h; simp at h
      | some x1 =>
      cases e0 : DataW.trod enc Try.prog w base sp held fuel 4 [c] with
      | none => rw [e1, e0] at h; simp at h
      | some x0 =>
      cases e2 : DataW.trod enc Try.prog w base sp held fuel 89 [b] with
      | none => rw [e1, e0, e2] at h; simp at h
      | some x2 =>
      obtain ⟨n, hn, _⟩ := reads_string Try.underlying9 e1
      obtain ⟨co, hco⟩ := reads_bool Try.underlying4 e0
      obtain ⟨hd, gs, hc, hok, hW⟩ := reads_slice (sz := 2) (el := XtorG.av) Try.underlying89 (by kernel_rfl) (by decide) reads_xtor (fun g _ => rfl) (fun g h => ok_agg h) _ _ _ e2
      simp only [List.cons.injEq, and_true] at hn hc hco
      subst hn; subst hc; subst hco
      refine ⟨⟨n, co, b, gs⟩, rfl, ⟨trivial, trivial, hok, trivial⟩, fun hL => ?_⟩
      rw [e1, e0, e2] at h
      simp at h
      subst h
      have hL2 := light_struct Try.underlying91 hL
      have := hW fun m hm => hL2 m (by simp [DataW.weightsEach, hm])
      rw [h4] at this
      exact this
    · cases h

theorem reads_decls {fuel : Nat} {cs : List Value} {x : DataW H × List MemPlace} (h : DataW.trod enc Try.prog w base sp held fuel 69 cs = some x) :
    ∃ hd l, cs = [hd] ∧ (declsAV hd l).ok (memOf w) ∧ (Light Try.prog 69 x.1 → l.length * 48 ≤ reachBytes ∧ ∀ d ∈ l, d.small) := by
  have h4 : Try.prog.bytesOf 91 = 48 := by kernel_rfl
  have := reads_slice (sz := 3) (el := DeclG.av) Try.underlying69 (by kernel_rfl) (by decide) reads_decl (fun g _ => rfl) (fun g h => ok_agg h) _ _ _ h
  rw [h4] at this
  exact this
end
end Go.Proofs.Ytfdlfcafcjhpmaa

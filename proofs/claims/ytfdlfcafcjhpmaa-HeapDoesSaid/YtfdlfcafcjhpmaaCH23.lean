/- From a row's reading to calls on a heap. -/
import Derived.Test.YtfdlfcafcjhpmaaCH18
import Derived.Test.YtfdlfcafcjhpmaaCAL21
set_option linter.unusedSimpArgs false
set_option linter.unusedVariables false
set_option maxRecDepth 20000
namespace Go.Proofs.Ytfdlfcafcjhpmaa
open Go.AL
section
variable {H : Type} {enc : TypeId × Value → H} {w : World} {base : Nat} {sp : Nat → Bool} {held : Bool}

theorem reads_int {t : TypeId} {k : IntKind} (ht : Try.prog.underlying t = some (.int k)) {fuel : Nat} {cs : List Value} {x : DataW H × List MemPlace} (h : DataW.trod enc Try.prog w base sp held fuel t cs = some x) : ∃ n, cs = [.int k n] := by
  cases fuel with
  | zero => simp [DataW.trod] at h
  | succ fuel =>
    unfold DataW.trod at h
    rw [ht] at h
    split at h <;> simp only [reduceCtorEq, Option.some.injEq, TypeDesc.int.injEq] at *
    rename_i k1 k2 n he
    subst he
    split at h
    · rename_i hk; exact ⟨n, by rw [hk.1]⟩
    · cases h
theorem reads_bool {t : TypeId} (ht : Try.prog.underlying t = some .bool) {fuel : Nat} {cs : List Value} {x : DataW H × List MemPlace} (h : DataW.trod enc Try.prog w base sp held fuel t cs = some x) : ∃ b, cs = [.bool b] := by
  cases fuel with
  | zero => simp [DataW.trod] at h
  | succ fuel =>
    unfold DataW.trod at h
    rw [ht] at h
    split at h <;> simp only [reduceCtorEq, Option.some.injEq] at *
    exact ⟨_, rfl⟩

theorem trod_struct {P : Program} {t : TypeId} {fs : Array Field} (ht : P.underlying t = some (.struct fs)) (fuel : Nat) (cs : List Value) :
    DataW.trod enc P w base sp held (fuel + 1) t cs = if cs.length = P.cellsOf t then (fs.toList.mapM fun f => DataW.trod enc P w base sp held fuel f.type ((cs.drop f.offset).take (P.cellsOf f.type))).map fun xs => (.agg (xs.map (·.1)), xs.flatMap (·.2)) else none := by
  conv => lhs; unfold DataW.trod
  rw [ht]
theorem light_struct {P : Program} {t : TypeId} {fs : Array Field} (ht : P.underlying t = some (.struct fs)) {parts : List (DataW H)} (h : Light P t (.agg parts)) : ∀ n ∈ DataW.weightsEach P (fs.toList.map (·.type)) parts, n ≤ reachBytes := by
  intro n hn
  refine h n ?_
  rw [DataW.weights, ht]
  exact hn

theorem reads_word : Reads Try.prog enc w base sp held 65 WordG.cs (fun _ => True) := by
  intro fuel cs x h
  cases fuel with
  | zero => simp [DataW.trod] at h
  | succ fuel =>
    rw [trod_struct Try.underlying65] at h
    split at h
    · rename_i hl
      have h1 : Try.prog.cellsOf 3 = 1 := by kernel_rfl
      have h2 : Try.prog.cellsOf 4 = 1 := by kernel_rfl
      have h3 : Try.prog.cellsOf 65 = 2 := by kernel_rfl
      rw [h3] at hl
      match cs, hl with
      | [a, b], _ =>
      simp only [List.mapM_cons, List.mapM_nil, h1, h2, List.drop_zero, List.drop_succ_cons, List.take_succ_cons, List.take_zero] at h
      cases e1 : DataW.trod enc Try.prog w base sp held fuel 4 [a] with
      | none => rw [e1] at h; simp at h
      | some x1 =>
      cases e2 : DataW.trod enc Try.prog w base sp held fuel 3 [b] with
      | none => rw [e1, e2] at h; simp at h
      | some x2 =>
      obtain ⟨n, hn⟩ := reads_bool Try.underlying4 e1
      obtain ⟨c, hc⟩ := reads_int Try.underlying3 e2
      simp only [List.cons.injEq, and_true] at hn hc
      subst hn; subst hc
      exact ⟨⟨n, c⟩, rfl, ⟨trivial, trivial, trivial⟩, fun _ => trivial⟩
    · cases h

theorem ok_agg {m : Mem} {cs : List AV} (h : AV.oks m cs) : (AV.agg cs).ok m := h

theorem reads_words {fuel : Nat} {cs : List Value} {x : DataW H × List MemPlace} (h : DataW.trod enc Try.prog w base sp held fuel 32 cs = some x) :
    ∃ hd l, cs = [hd] ∧ (wordsAV hd l).ok (memOf w) ∧ (Light Try.prog 32 x.1 → l.length * 16 ≤ reachBytes) := by
  have h4 : Try.prog.bytesOf 65 = 16 := by kernel_rfl
  obtain ⟨hd, l, h1, h2, h3⟩ := reads_slice (sz := 2) (el := WordG.av) Try.underlying32 (by kernel_rfl) (by decide) reads_word (fun g _ => rfl) (fun g h => ok_agg h) _ _ _ h
  rw [h4] at h3
  exact ⟨hd, l, h1, h2, fun hL => (h3 hL).1⟩

def OpG.small (o : OpG) : Prop := o.ws.length * 16 ≤ reachBytes
theorem reads_op : Reads Try.prog enc w base sp held 34 OpG.cs OpG.small := by
  intro fuel cs x h
  cases fuel with
  | zero => simp [DataW.trod] at h
  | succ fuel =>
    rw [trod_struct Try.underlying34] at h
    split at h
    · rename_i hl
      have h1 : Try.prog.cellsOf 3 = 1 := by kernel_rfl
      have h2 : Try.prog.cellsOf 32 = 1 := by kernel_rfl
      have h3 : Try.prog.cellsOf 34 = 4 := by kernel_rfl
      rw [h3] at hl
      match cs, hl with
      | [a, b, c, d], _ =>
      simp only [List.mapM_cons, List.mapM_nil, h1, h2, List.drop_zero, List.drop_succ_cons, List.take_succ_cons, List.take_zero] at h
      cases e1 : DataW.trod enc Try.prog w base sp held fuel 3 [a] with
      | none => rw [e1] at h; simp at h
      | some x1 =>
      cases e2 : DataW.trod enc Try.prog w base sp held fuel 3 [b] with
      | none => rw [e1, e2] at h; simp at h
      | some x2 =>
      cases e3 : DataW.trod enc Try.prog w base sp held fuel 3 [c] with
      | none => rw [e1, e2, e3] at h; simp at h
      | some x3 =>
      cases e4 : DataW.trod enc Try.prog w base sp held fuel 32 [d] with
      | none => rw [e1, e2, e3, e4] at h; simp at h
      | some x4 =>
      obtain ⟨n1, hn1⟩ := reads_int Try.underlying3 e1
      obtain ⟨n2, hn2⟩ := reads_int Try.underlying3 e2
      obtain ⟨n3, hn3⟩ := reads_int Try.underlying3 e3
      obtain ⟨hd, gs, hc, hok, hW⟩ := reads_words e4
      simp only [List.cons.injEq, and_true] at hn1 hn2 hn3 hc
      subst hn1; subst hn2; subst hn3; subst hc
      refine ⟨⟨n1, n2, n3, d, gs⟩, rfl, ⟨trivial, trivial, trivial, hok, trivial⟩, fun hL => ?_⟩
      rw [e1, e2, e3, e4] at h
      simp at h
      subst h
      have hL2 := light_struct Try.underlying34 hL
      exact hW fun m hm => hL2 m (by simp [DataW.weightsEach, hm])
    · cases h

theorem reads_ops {fuel : Nat} {cs : List Value} {x : DataW H × List MemPlace} (h : DataW.trod enc Try.prog w base sp held fuel 22 cs = some x) :
    ∃ hd l, cs = [hd] ∧ (opsAV hd l).ok (memOf w) ∧ (Light Try.prog 22 x.1 → ∀ o ∈ l, o.small) := by
  obtain ⟨hd, l, h1, h2, h3⟩ := reads_slice (sz := 4) (el := OpG.av) Try.underlying22 (by kernel_rfl) (by decide) reads_op (fun g _ => rfl) (fun g h => ok_agg h) _ _ _ h
  exact ⟨hd, l, h1, h2, fun hL => (h3 hL).2⟩
end

def hpE : Hp := ⟨fun _ => none, fun _ => none, [], []⟩
/-- A contract at a row's start: nothing is the call's own, all cells are as they stand. -/
theorem calls_of_row {f : FuncId} {args : List AV} {r : AV} (W : World) (hok : AV.oks (memOf W) args) (h : ACalls Try.prog f args hpE (fun r' hp' => r' = r ∧ hp' = hpE)) :
    Calls Try.prog f (AV.vals args).toArray W fun e W' => e = .returned r.val ∧ Go.RowKit.Below W.heap.size W W' := by
  refine (h.2 ⟨memOf W, W, W.heap.size⟩ W ⟨Lo.self _ _ _ (Nat.le_refl _), memOf W, Mem.le_refl _, ⟨fun b o x hx => hx, fun b T cs hb => by simp [hpE] at hb, fun b es hb => by simp [hpE] at hb, fun e sz hd hi => by simp [hpE] at hi, by simp [hpE], fun g cs hg => by simp [hpE] at hg⟩, hok⟩).mono ?_
  rintro e W' ⟨r', hp', ⟨rfl, _⟩, rfl, hlo, _⟩
  exact ⟨rfl, ⟨hlo.os, hlo.tape, hlo.output, hlo.size, hlo.low⟩⟩
end Go.Proofs.Ytfdlfcafcjhpmaa

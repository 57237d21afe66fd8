/- strconv.Itoa of any int: the table lies in memory. -/
import Derived.Test.YtkoachnlimebaaaGreatDoorCY2
import Derived.Test.YtkoachnlimebaaaGreatDoorCShelfJ
import Derived.Test.YtkoachnlimebaaaGreatDoorCU9
import Derived.Lib.ItoaLen
import Derived.Test.YtkoachnlimebaaaGreatDoorCT51
import Derived.Lib.LaidTab
import Derived.Stop.LaidErr
import Derived.LaidMore
import Derived.Lay
set_option linter.unusedSimpArgs false
set_option linter.unusedVariables false
set_option maxRecDepth 20000
set_option maxHeartbeats 4000000
namespace Go.Proofs.YtkoachnlimebaaaGreatDoor
open Go.AL

def tabE : Nat × List AV := (0, [.tup (Lib.pow10Tab.map fun z => .v (.int .u64 z))])
theorem tab_vals (l : List Int) : AV.vals (l.map fun z => AV.v (.int .u64 z)) = l.map fun z => Value.int .u64 z := by rw [AV.vals_eq, List.map_map]; rfl
theorem tab_is {base : Nat} {hp : Hp} {m : Mem} {w : World} (h : HpOk base hp m w) (ht : tabE ∈ hp.gl) : Lib.TabIs Tryz.prog w "internal/strconv.uint64pow10" .u64 Lib.pow10Tab := by
  obtain ⟨_, T, fz, h2⟩ := h.gl _ _ ht
  unfold Lib.TabIs World.var?
  rw [show Tryz.prog.globalNamed "internal/strconv.uint64pow10" = some 0 by kernel_rfl]
  simp only [Option.bind_some, h2, tab_vals]
theorem itoa_calls (n : Int) (hn : I64 n) (hp : Hp) (ht : tabE ∈ hp.gl) : ACalls Tryz.prog 39 [.v (.int .i64 n)] hp (fun r hp' => r = .v (.string (bs (Lib.itoa n))) ∧ hp' = hp) := by
  refine acalls_below (callable_of Tryz.func39 (by decide +kernel)) (fun m _ => trivial) fun base m w hh hok => ?_
  refine (Tryz.strconv_Itoa n hn.1 hn.2 w (tab_is hh ht)).mono ?_
  rintro e w' ⟨rfl, k, os, rfl⟩
  refine ⟨rfl, ⟨rfl, rfl, rfl, by simp [Go.Sort.grow], fun i hi => ?_⟩⟩
  show ((w.drewN k).heap ++ os)[i]? = _
  rw [Array.getElem?_append_left (by show i < w.heap.size; omega)]
  rfl
theorem itoaT (gl : List (Nat × List AV)) (ht : tabE ∈ gl) : ItoaC gl I64 := by
  intro n hn
  refine ⟨Nat.le_trans (Lib.itoa_length_le n hn.1 hn.2) (by omega), fun hp' hg => itoa_calls n hn hp' (by rw [hg]; exact ht)⟩
end Go.Proofs.YtkoachnlimebaaaGreatDoor
/- Row helpers where the table of the powers of ten is known. -/
set_option linter.unusedSimpArgs false
set_option linter.unusedVariables false
namespace Go.Proofs.YtkoachnlimebaaaGreatDoor
open Go.AL Go.ChangeShapes Go.WideShapes Go.ChangeAt Go.RowKit

def hpT (m : Int) : Hp := ⟨fun _ => none, fun _ => none, [], [(1, [.v (.int .i64 m)]), tabE]⟩
theorem gok_hpT (m : Int) : GOk (hpT m) := ⟨m, by simp [hpT]⟩
theorem tab_hpT (m : Int) : tabE ∈ (hpT m).gl := by simp [hpT]
theorem calls_of_rowT {f : FuncId} {args : List AV} {m : Int} {r : AV} (W : World) (hm : W.cell? ⟨1, 0, none⟩ = some (.int .i64 m)) (ht : Lib.TabIs Tryz.prog W "internal/strconv.uint64pow10" .u64 Lib.pow10Tab) (hok : AV.oks (memOf W) args) (h : ACalls Tryz.prog f args (hpT m) (fun r' hp' => r' = r ∧ hp' = hpT m)) :
    Calls Tryz.prog f (AV.vals args).toArray W fun e W' => e = .returned r.val ∧ Go.RowKit.Below W.heap.size W W' := by
  have hblk : ∃ T fz, W.heap[0]? = some (.cells (Lib.pow10Tab.map fun z => Value.int .u64 z).toArray T fz) := by
    unfold Lib.TabIs World.var? at ht
    rw [show Tryz.prog.globalNamed "internal/strconv.uint64pow10" = some 0 by kernel_rfl] at ht
    simp only [Option.bind_some] at ht
    split at ht
    · rename_i cs T fz e
      exact ⟨T, fz, by rw [e, Option.some.inj ht]⟩
    · cases ht
  obtain ⟨T, fz, hT⟩ := hblk
  refine (h.2 ⟨memOf W, W, W.heap.size⟩ W ⟨Lo.self _ _ _ (Nat.le_refl _), memOf W, Mem.le_refl _, ⟨fun b o x hx => hx, fun b T cs hb => by simp [hpT] at hb, fun b es hb => by simp [hpT] at hb, fun e sz hd hi => by simp [hpT] at hi, by simp [hpT], fun g cs hg => ?_⟩, hok⟩).mono ?_
  · simp only [hpT, List.mem_cons, List.not_mem_nil, or_false] at hg
    rcases hg with hg | hg
    · simp only [Prod.mk.injEq] at hg
      obtain ⟨rfl, rfl⟩ := hg
      refine ⟨⟨1, 0, rfl, fun j x hx => ?_⟩, trivial, trivial⟩
      match j with
      | 0 => simp [AV.vals, AV.val] at hx; subst hx; exact hm
      | j + 1 => simp [AV.vals] at hx
    · simp only [tabE, Prod.mk.injEq] at hg
      obtain ⟨rfl, rfl⟩ := hg
      exact ⟨(Array.getElem?_eq_some_iff.1 hT).1, T, fz, by rw [tab_vals]; exact hT⟩
  · rintro e W' ⟨r', hp', ⟨rfl, _⟩, rfl, hlo, _⟩
    exact ⟨rfl, ⟨hlo.os, hlo.tape, hlo.output, hlo.size, hlo.low⟩⟩
theorem tab_of_laid {W : World} (h : laidMetH Tryz.prog [("math/bits.deBruijn32tab", Rows.laid_math_bits_deBruijn32tab), ("math/bits.deBruijn64tab", Rows.laid_math_bits_deBruijn64tab), ("internal/strconv.uint64pow10", Rows.laid_internal_strconv_uint64pow10)] W) : Lib.TabIs Tryz.prog W "internal/strconv.uint64pow10" .u64 Lib.pow10Tab := by
  rw [MakeChecks.laidMetH_plain _ _ _ (by kernel_rfl)] at h
  have h2 := (laidMet.tail (laidMet.tail h))
  rw [show (Rows.laid_internal_strconv_uint64pow10 : DataW Unit) = Lib.tabData .u64 Lib.pow10Tab by kernel_rfl] at h2
  exact Lib.tabIs_of_head (g := 0) (by kernel_rfl) (by kernel_rfl) (Tryz.underlying286) (Tryz.underlying248) (by kernel_rfl) (by kernel_rfl) h2
end Go.Proofs.YtkoachnlimebaaaGreatDoor

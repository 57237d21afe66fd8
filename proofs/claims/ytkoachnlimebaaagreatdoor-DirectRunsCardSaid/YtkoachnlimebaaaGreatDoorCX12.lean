/- The reference of direct evaluation: decimal numerals, the string of a run. -/
import Derived.Test.YtkoachnlimebaaaGreatDoorCX10
import Derived.Test.YtkoachnlimebaaaGreatDoorCX5
import Derived.Test.YtkoachnlimebaaaGreatDoorCY2
import Derived.Test.YtkoachnlimebaaaGreatDoorCY10
import Derived.Test.YtkoachnlimebaaaGreatDoorCT30
import Derived.Test.YtkoachnlimebaaaGreatDoorCY5
import Derived.Test.YtkoachnlimebaaaGreatDoorCT51
set_option linter.unusedSimpArgs false
set_option linter.unusedVariables false
set_option maxRecDepth 20000
set_option maxHeartbeats 4000000
namespace Go.Proofs.YtkoachnlimebaaaGreatDoor
open Go.AL

theorem enc_dig : ∀ {d : Nat}, d < 10 → Utf8.encode ((48 + d : Nat) : Int) = bs [UInt8.ofNat (48 + d)]
  | 0, _ => rfl | 1, _ => rfl | 2, _ => rfl | 3, _ => rfl | 4, _ => rfl | 5, _ => rfl | 6, _ => rfl | 7, _ => rfl | 8, _ => rfl | 9, _ => rfl
  | d + 10, h => by omega
theorem bs_app (a b : Bytes) : bs a ++ bs b = bs (a ++ b) := by
  simp only [bs]
  apply ByteArray.ext
  simp
theorem rdigits_calls : ∀ (N : Nat) (n : Int), n.natAbs ≤ N → I64 n → ∀ (hp : Hp), ACalls Tryz.prog 48 [.v (.int .i64 n)] hp (fun r hp' => r = .v (.string (bs (Lib.itoa n))) ∧ hp' = hp)
  | N, n, hN, h64, hp => by
    obtain ⟨h1, h2⟩ := h64
    refine acalls_of Tryz.func48 rfl (by decide +kernel) (awp_sound (mu := []) _ _ _ ?_)
    simp only [go_sem, Nat.reduceEqDiff, Nat.reduceAdd, Nat.reduceSub, Nat.reduceLT, Nat.reduceBEq, Nat.reduceLeDiff, ↓reduceIte, Int.reduceToNat, Int.reduceLE, Int.reduceLT, Int.reduceEq, reduceCtorEq]
    refine brK_mk (fun g0 => ?_) (fun g0 => ?_) <;> simp only [go_sem, Nat.reduceEqDiff, Nat.reduceAdd, Nat.reduceSub, Nat.reduceLT, Nat.reduceBEq, Nat.reduceLeDiff, ↓reduceIte, Int.reduceToNat, Int.reduceLE, Int.reduceLT, Int.reduceEq, reduceCtorEq, g0]
    · have hneg : n < 0 := of_decide_eq_true g0
      obtain ⟨u, rfl⟩ : ∃ u : Nat, n = -(u : Int) := ⟨n.natAbs, by omega⟩
      have hu : 0 < u := by omega
      have hd : u % 10 < 10 := Nat.mod_lt _ (by omega)
      have e1 : IntKind.i64.wrap ((-(u : Int)).tdiv 10) = -((u / 10 : Nat) : Int) := by rw [neg_div]; exact IntWalk.i64_in _ (by omega)
      have e2 : IntKind.i64.wrap (0 - (-(u : Int)).tmod 10) = ((u % 10 : Nat) : Int) := by rw [neg_mod, IntWalk.i64_in _ (by omega)]; omega
      have e3 : IntKind.i64.wrap (48 + ((u % 10 : Nat) : Int)) = ((48 + u % 10 : Nat) : Int) := by rw [IntWalk.i64_in _ (by omega)]; omega
      have e4 : IntKind.u8.wrap ((48 + u % 10 : Nat) : Int) = ((48 + u % 10 : Nat) : Int) := IntWalk.u8_in _ (by omega)
      have E : Utf8.encode (IntKind.u8.wrap (IntKind.i64.wrap (48 + IntKind.i64.wrap (0 - (-(u : Int)).tmod 10)))) = bs [UInt8.ofNat (48 + u % 10)] := by rw [e2, e3, e4, enc_dig hd]
      refine brK_mk (fun g1 => ?_) (fun g1 => ?_) <;> simp only [go_sem, Nat.reduceEqDiff, Nat.reduceAdd, Nat.reduceSub, Nat.reduceLT, Nat.reduceBEq, Nat.reduceLeDiff, ↓reduceIte, Int.reduceToNat, Int.reduceLE, Int.reduceLT, Int.reduceEq, reduceCtorEq, g1]
      · have hu0 : u < 10 := by rw [e1] at g1; have := of_decide_eq_true g1; omega
        rw [E]
        refine ⟨by show (1 + 1 : Nat) ≤ _; omega, ?_⟩
        refine ret_same ⟨?_, rfl⟩
        rw [bs_app, itoa_nsmall hu hu0, Nat.mod_eq_of_lt hu0]
        rfl
      · have hu0 : ¬ u < 10 := by rw [e1] at g1; have := of_decide_eq_false g1; omega
        rw [e1]
        have hr := rdigits_calls (u / 10) (-((u / 10 : Nat) : Int)) (by omega) ⟨by omega, by omega⟩ hp
        refine callX_by hr ?_
        rintro r hp1 ⟨rfl, rfl⟩
        simp only [go_sem, Nat.reduceEqDiff, Nat.reduceAdd, Nat.reduceSub, Nat.reduceLT, Nat.reduceBEq, Nat.reduceLeDiff, ↓reduceIte, Int.reduceToNat, Int.reduceLE, Int.reduceLT, Int.reduceEq, reduceCtorEq, E]
        have hle := Lib.itoa_length_le (-((u / 10 : Nat) : Int)) (by omega) (by omega)
        refine ⟨by omega, ?_⟩
        exact ret_same ⟨by rw [itoa_nbig hu0], rfl⟩
    · have hpos : ¬ n < 0 := of_decide_eq_false g0
      obtain ⟨u, rfl⟩ : ∃ u : Nat, n = (u : Int) := ⟨n.natAbs, by omega⟩
      refine brK_mk (fun g1 => ?_) (fun g1 => ?_) <;> simp only [go_sem, Nat.reduceEqDiff, Nat.reduceAdd, Nat.reduceSub, Nat.reduceLT, Nat.reduceBEq, Nat.reduceLeDiff, ↓reduceIte, Int.reduceToNat, Int.reduceLE, Int.reduceLT, Int.reduceEq, reduceCtorEq, g1]
      · have hu0 : u < 10 := by have := of_decide_eq_true g1; omega
        have e3 : IntKind.i64.wrap (48 + (u : Int)) = ((48 + u : Nat) : Int) := by rw [IntWalk.i64_in _ (by omega)]; omega
        have e4 : IntKind.u8.wrap ((48 + u : Nat) : Int) = ((48 + u : Nat) : Int) := IntWalk.u8_in _ (by omega)
        rw [e3, e4, enc_dig hu0]
        exact ret_same ⟨by rw [itoa_small hu0], rfl⟩
      · have hu0 : ¬ u < 10 := by have := of_decide_eq_false g1; omega
        have hd : u % 10 < 10 := Nat.mod_lt _ (by omega)
        have e1 : IntKind.i64.wrap ((u : Int).tdiv 10) = ((u / 10 : Nat) : Int) := by rw [pos_div]; exact IntWalk.i64_in _ (by omega)
        have e2 : IntKind.i64.wrap ((u : Int).tmod 10) = ((u % 10 : Nat) : Int) := by rw [pos_mod]; exact IntWalk.i64_in _ (by omega)
        have e3 : IntKind.i64.wrap (48 + ((u % 10 : Nat) : Int)) = ((48 + u % 10 : Nat) : Int) := by rw [IntWalk.i64_in _ (by omega)]; omega
        have e4 : IntKind.u8.wrap ((48 + u % 10 : Nat) : Int) = ((48 + u % 10 : Nat) : Int) := IntWalk.u8_in _ (by omega)
        rw [e1]
        have hr := rdigits_calls (u / 10) ((u / 10 : Nat) : Int) (by omega) ⟨by omega, by omega⟩ hp
        refine callX_by hr ?_
        rintro r hp1 ⟨rfl, rfl⟩
        simp only [go_sem, Nat.reduceEqDiff, Nat.reduceAdd, Nat.reduceSub, Nat.reduceLT, Nat.reduceBEq, Nat.reduceLeDiff, ↓reduceIte, Int.reduceToNat, Int.reduceLE, Int.reduceLT, Int.reduceEq, reduceCtorEq]
        have E : Utf8.encode (IntKind.u8.wrap (IntKind.i64.wrap (48 + (u : Int).tmod 10))) = bs [UInt8.ofNat (48 + u % 10)] := by rw [pos_mod, e3, e4, enc_dig hd]
        have hle := Lib.itoa_length_le ((u / 10 : Nat) : Int) (by omega) (by omega)
        rw [E, bs_app]
        refine ⟨by show _ + (1 : Nat) ≤ _; omega, ?_⟩
        exact ret_same ⟨by rw [itoa_big hu0], rfl⟩
 termination_by N => N
 decreasing_by all_goals omega
theorem rstring_calls (how val : Int) (h : Value) (outs : List Int) (steps : Int) (hv : how = 0 → I64 val) (ho : ∀ n ∈ outs, I64 n) (hlen : outs.length ≤ 30000) (hp : Hp) :
    ACalls Tryz.prog 17 [.agg [.v (.int .i64 how), .v (.int .i64 val), .lst 1 h (outs.map iv), .v (.int .i64 steps)]] hp (fun r hp' => r = .v (.string (bs (emitT outs ++ endT how val))) ∧ hp' = hp) := by
  have dig := fun (n : Int) (hn : I64 n) hp => rdigits_calls n.natAbs n (Nat.le_refl _) hn hp
  have hlen' : ∀ k, (emitT (outs.take k)).length ≤ 107 * 30000 := fun k => by
    have := emitT_len (l := outs.take k) (fun n hn => by have hh := ho n (List.mem_of_mem_take hn); exact Nat.le_trans (Lib.itoa_length_le n hh.1 hh.2) (by omega))
    have h2 : (outs.take k).length ≤ 30000 := by simp; omega
    omega
  refine acalls_of Tryz.func17 rfl (by decide +kernel) (awp_sound (mu := []) _ _ _ ?_)
  simp only [go_sem, Nat.reduceEqDiff, Nat.reduceAdd, Nat.reduceSub, Nat.reduceLT, Nat.reduceBEq, Nat.reduceLeDiff, ↓reduceIte, Int.reduceToNat, Int.reduceLE, Int.reduceLT, Int.reduceEq, reduceCtorEq]
  intro q
  refine aw_loopX 36 (fun k : Nat => [(1, .ref q [.v (.int .i64 how), .v (.int .i64 val), .lst 1 h (outs.map iv), .v (.int .i64 steps)]), (3, .v (.string (bs (emitT (outs.take k))))), (7, .lst 1 h (outs.map iv)), (8, .v (.int .i64 outs.length)), (9, .v (.int .i64 k))])
    (fun _ => hp) (fun k => k ≤ outs.length) (fun k => outs.length - k) 0 (Nat.zero_le _) (le_mkSl rfl (Hp.le_refl _) (by simp [go_sem, emitT])) ?_
  intro k hk
  refine awp_sound (mu := []) _ _ _ ?_
  simp only [go_sem, Nat.reduceEqDiff, Nat.reduceAdd, Nat.reduceSub, Nat.reduceLT, Nat.reduceBEq, Nat.reduceLeDiff, ↓reduceIte, Int.reduceToNat, Int.reduceLE, Int.reduceLT, Int.reduceEq, reduceCtorEq]
  refine brK_mk (fun b1 => ?_) (fun b1 => ?_) <;> simp only [go_sem, Nat.reduceEqDiff, Nat.reduceAdd, Nat.reduceSub, Nat.reduceLT, Nat.reduceBEq, Nat.reduceLeDiff, ↓reduceIte, Int.reduceToNat, Int.reduceLE, Int.reduceLT, Int.reduceEq, reduceCtorEq, b1]
  · have hk' : k < outs.length := by simpa using b1
    obtain ⟨n, hn⟩ := someAt outs k hk'
    have hn64 := ho n (List.mem_of_getElem? hn)
    have hl := Lib.itoa_length_le n hn64.1 hn64.2
    have hwk : IntKind.i64.wrap ((k : Int) + 1) = ((k + 1 : Nat) : Int) := IntWalk.i64_in _ (by omega)
    have hlk := hlen' k
    simp only [go_sem, Nat.reduceEqDiff, Nat.reduceAdd, Nat.reduceSub, Nat.reduceLT, Nat.reduceBEq, Nat.reduceLeDiff, ↓reduceIte, Int.reduceToNat, Int.reduceLE, Int.reduceLT, Int.reduceEq, reduceCtorEq, mapAt iv _ _ _ hn, iv]
    refine callX_by (dig n hn64 _) ?_
    rintro r hp1 ⟨rfl, rfl⟩
    simp only [go_sem, Nat.reduceEqDiff, Nat.reduceAdd, Nat.reduceSub, Nat.reduceLT, Nat.reduceBEq, Nat.reduceLeDiff, ↓reduceIte, Int.reduceToNat, Int.reduceLE, Int.reduceLT, Int.reduceEq, reduceCtorEq, hwk]
    refine ⟨by omega, by omega, by simp only [List.length_append, List.length_cons, List.length_nil]; omega, k + 1, by omega, by omega, le_mkSl rfl (Hp.le_refl _) (by rw [emitT_take hn]; simp [go_sem, hwk])⟩
  · have e0 : k = outs.length := by simp at b1; omega
    subst e0
    have hl0 := hlen' outs.length
    rw [List.take_length] at hl0 ⊢
    refine brK_mk (fun g0 => ?_) (fun g0 => ?_) <;> simp only [go_sem, Nat.reduceEqDiff, Nat.reduceAdd, Nat.reduceSub, Nat.reduceLT, Nat.reduceBEq, Nat.reduceLeDiff, ↓reduceIte, Int.reduceToNat, Int.reduceLE, Int.reduceLT, Int.reduceEq, reduceCtorEq, g0]
    · have h0 := of_decide_eq_true g0
      have hv64 := hv h0
      have hl := Lib.itoa_length_le val hv64.1 hv64.2
      refine ⟨by omega, ?_⟩
      refine callX_by (dig val hv64 _) ?_
      rintro r hp1 ⟨rfl, rfl⟩
      simp only [go_sem, Nat.reduceEqDiff, Nat.reduceAdd, Nat.reduceSub, Nat.reduceLT, Nat.reduceBEq, Nat.reduceLeDiff, ↓reduceIte, Int.reduceToNat, Int.reduceLE, Int.reduceLT, Int.reduceEq, reduceCtorEq]
      refine ⟨by simp only [List.length_append, List.length_cons, List.length_nil]; omega, ?_⟩
      exact ret_same ⟨by rw [endT, if_pos h0]; simp, rfl⟩
    · have h0 := of_decide_eq_false g0
      refine brK_mk (fun g1 => ?_) (fun g1 => ?_) <;> simp only [go_sem, Nat.reduceEqDiff, Nat.reduceAdd, Nat.reduceSub, Nat.reduceLT, Nat.reduceBEq, Nat.reduceLeDiff, ↓reduceIte, Int.reduceToNat, Int.reduceLE, Int.reduceLT, Int.reduceEq, reduceCtorEq, g1]
      · have h1 := of_decide_eq_true g1
        refine ⟨by omega, ?_⟩
        exact ret_same ⟨by rw [endT, if_neg h0, if_pos h1], rfl⟩
      · have h1 := of_decide_eq_false g1
        refine ⟨by omega, ?_⟩
        exact ret_same ⟨by rw [endT, if_neg h0, if_neg h1], rfl⟩
end Go.Proofs.YtkoachnlimebaaaGreatDoor
/- The law DirectRuns walked. -/
set_option linter.unusedSimpArgs false
set_option linter.unusedVariables false
set_option maxRecDepth 20000
set_option maxHeartbeats 4000000
namespace Go.Proofs.YtkoachnlimebaaaGreatDoor
open Go.AL

theorem runE_ok {p : ProgG} {f : Int} {l : List Int} (h : runE p f l = 0) : progB p = true ∧ 0 ≤ f ∧ f ≤ 20000 ∧ ∀ g, p.fs.head? = some g → l.length = g.params.length := by
  unfold runE at h
  split at h
  · cases h
  · rename_i hp
    split at h
    · cases h
    · rename_i hn
      refine ⟨by simpa using hp, by omega, by omega, fun g hg => ?_⟩
      rw [hg] at hn
      simp only [Option.map_some, Option.getD_some] at hn
      omega
theorem lvalid_calls (p : ProgG) (hpf : PFit p) (fuel : Int) (hi : Value) (inputs : List Int) (hp : Hp) : ACalls Tryz.prog 14 [p.av, .v (.int .i64 fuel), intsAV hi inputs] hp (fun r hp' => r = .v (.int .i64 (runE p fuel inputs)) ∧ hp' = hp) := by
  refine acalls_of Tryz.func14 rfl (by decide +kernel) (awp_sound (mu := []) _ _ _ ?_)
  have c := fun hp => ris2_calls p hpf hp
  simp only [ProgG.av, ProgG.cs, declsAV, funsAV] at c
  simp only [go_sem, Nat.reduceEqDiff, Nat.reduceAdd, Nat.reduceSub, Nat.reduceLT, Nat.reduceBEq, Nat.reduceLeDiff, ↓reduceIte, Int.reduceToNat, Int.reduceLE, Int.reduceLT, Int.reduceEq, reduceCtorEq, ProgG.av, ProgG.cs, declsAV, funsAV, intsAV]
  intro q
  refine callX_by (c _) ?_
  rintro r hp1 ⟨rfl, rfl⟩
  cases hpr : progB p with
  | false =>
    simp only [go_sem, Nat.reduceEqDiff, Nat.reduceAdd, Nat.reduceSub, Nat.reduceLT, Nat.reduceBEq, Nat.reduceLeDiff, ↓reduceIte, Int.reduceToNat, Int.reduceLE, Int.reduceLT, Int.reduceEq, reduceCtorEq, hpr]
    exact ret_same ⟨by simp [runE, hpr], rfl⟩
  | true =>
    have hne : 0 < p.fs.length := by
      have h := hpr
      simp only [progB, Bool.and_eq_true, Bool.not_eq_true', decide_eq_false_iff_not] at h
      omega
    obtain ⟨f, hf⟩ := someAt p.fs 0 hne
    have hhd : p.fs.head? = some f := by rw [List.head?_eq_getElem?]; exact hf
    simp only [go_sem, Nat.reduceEqDiff, Nat.reduceAdd, Nat.reduceSub, Nat.reduceLT, Nat.reduceBEq, Nat.reduceLeDiff, ↓reduceIte, Int.reduceToNat, Int.reduceLE, Int.reduceLT, Int.reduceEq, reduceCtorEq, hpr]
    refine brK_mk (fun g0 => ?_) (fun g0 => ?_) <;> simp only [go_sem, Nat.reduceEqDiff, Nat.reduceAdd, Nat.reduceSub, Nat.reduceLT, Nat.reduceBEq, Nat.reduceLeDiff, ↓reduceIte, Int.reduceToNat, Int.reduceLE, Int.reduceLT, Int.reduceEq, reduceCtorEq, g0]
    · exact ret_same ⟨by have := of_decide_eq_true g0; simp [runE, hpr, this], rfl⟩
    refine brK_mk (fun g1 => ?_) (fun g1 => ?_) <;> simp only [go_sem, Nat.reduceEqDiff, Nat.reduceAdd, Nat.reduceSub, Nat.reduceLT, Nat.reduceBEq, Nat.reduceLeDiff, ↓reduceIte, Int.reduceToNat, Int.reduceLE, Int.reduceLT, Int.reduceEq, reduceCtorEq, g1, mapAt FunG.av _ _ _ hf, FunG.av, FunG.cs, paramsAV, List.length_map]
    · exact ret_same ⟨by have := of_decide_eq_true g1; simp [runE, hpr]; omega, rfl⟩
    refine brK_mk (fun g2 => ?_) (fun g2 => ?_) <;> simp only [go_sem, Nat.reduceEqDiff, Nat.reduceAdd, Nat.reduceSub, Nat.reduceLT, Nat.reduceBEq, Nat.reduceLeDiff, ↓reduceIte, Int.reduceToNat, Int.reduceLE, Int.reduceLT, Int.reduceEq, reduceCtorEq, g2]
    · exact ret_same ⟨by have := of_decide_eq_false g0; have := of_decide_eq_false g1; have := of_decide_eq_true g2; simp [runE, hpr, hhd]; omega, rfl⟩
    · exact ret_same ⟨by have := of_decide_eq_false g2; simp [runE, hpr, hhd]; omega, rfl⟩
theorem directRuns_calls (p : ProgG) (hsm : p.small) (hpf : PFit p) (fuel : Int) (hi : Value) (inputs : List Int) (hin : ∀ n ∈ inputs, I64 n) (hp : Hp) (hg : GOk hp) (ht : tabE ∈ hp.gl) : ACalls Tryz.prog 3 [p.av, .v (.int .i64 fuel), intsAV hi inputs] hp (fun r hp' => r = .v (.bool true) ∧ hp' = hp) := by
  have hrg : ∀ f ∈ p.fs, rgT f.body := fun f hf => (hsm.fs f hf).rg
  refine acalls_of Tryz.func3 rfl (by decide +kernel) (awp_sound (mu := []) _ _ _ ?_)
  have cf := few_calls p 700 (by omega)
  have cr := fun hp hg => run_calls p hpf fuel hi inputs hp hg
  have nums : NumsOf I64 p fuel inputs := by
    intro f m how val hf he hm
    obtain ⟨_, n, rfl⟩ := he
    have h1 := riter (ds := p.ds) hrg fuel.toNat n (rm_start hrg (List.mem_of_head? hf) hin)
    exact ⟨h1.2.1, fun h => h1.2.2 how val hm h⟩
  have cv := fun hp hg ht => value_calls p hpf fuel hi inputs hp hg (itoaT _ ht) (fun _ => nums)
  have cw := fun hp => lvalid_calls p hpf fuel hi inputs hp
  simp only [ProgG.av, ProgG.cs, declsAV, funsAV, intsAV] at cf cr cv cw
  simp only [go_sem, Nat.reduceEqDiff, Nat.reduceAdd, Nat.reduceSub, Nat.reduceLT, Nat.reduceBEq, Nat.reduceLeDiff, ↓reduceIte, Int.reduceToNat, Int.reduceLE, Int.reduceLT, Int.reduceEq, reduceCtorEq, ProgG.av, ProgG.cs, declsAV, funsAV, intsAV]
  intro q3
  refine callX_by (cf _) ?_
  rintro r hp1 ⟨rfl, hq1⟩
  rw [hq1]; clear hq1
  simp only [go_sem, Nat.reduceEqDiff, Nat.reduceAdd, Nat.reduceSub, Nat.reduceLT, Nat.reduceBEq, Nat.reduceLeDiff, ↓reduceIte, Int.reduceToNat, Int.reduceLE, Int.reduceLT, Int.reduceEq, reduceCtorEq]
  refine brK_mk (fun h1 => ?_) (fun h1 => ?_) <;> simp only [go_sem, Nat.reduceEqDiff, Nat.reduceAdd, Nat.reduceSub, Nat.reduceLT, Nat.reduceBEq, Nat.reduceLeDiff, ↓reduceIte, Int.reduceToNat, Int.reduceLE, Int.reduceLT, Int.reduceEq, reduceCtorEq, h1]
  rotate_left
  · refine callX_by (awake_calls hp hg) ?_
    rintro r hp1 ⟨rfl, hq1⟩
    rw [hq1]; clear hq1
    simp only [go_sem, Nat.reduceEqDiff, Nat.reduceAdd, Nat.reduceSub, Nat.reduceLT, Nat.reduceBEq, Nat.reduceLeDiff, ↓reduceIte, Int.reduceToNat, Int.reduceLE, Int.reduceLT, Int.reduceEq, reduceCtorEq]
    exact ret_same ⟨rfl, rfl⟩
  refine callX_by (cr _ hg) ?_
  rintro r hp1 ⟨h, how, val, outs, steps, rfl, hq1, hz, hnz⟩
  rw [hq1]; clear hq1
  simp only [go_sem, Nat.reduceEqDiff, Nat.reduceAdd, Nat.reduceSub, Nat.reduceLT, Nat.reduceBEq, Nat.reduceLeDiff, ↓reduceIte, Int.reduceToNat, Int.reduceLE, Int.reduceLT, Int.reduceEq, reduceCtorEq]
  intro b7 hb7
  have hd7 := fun T cs => Hp.del_set _ _ T cs hb7.1
  simp only [hd7]
  clear hd7 hb7
  have hle0 : hp.le (hp.setSp ((3, 1, h) :: hp.sp)) := ⟨fun _ _ h => h, fun _ _ h => h, List.sublist_cons_self _ _, fun _ h => h⟩
  have hg0 : GOk (hp.setSp ((3, 1, h) :: hp.sp)) := hg
  have ht0 : tabE ∈ (hp.setSp ((3, 1, h) :: hp.sp)).gl := ht
  generalize hp.setSp ((3, 1, h) :: hp.sp) = H at hle0 hg0 ht0 ⊢
  refine callX_by (cv _ hg0 ht0) ?_
  rintro r hp2 ⟨rfl, sv, rfl, hsnz, hsz⟩
  simp only [go_sem, Nat.reduceEqDiff, Nat.reduceAdd, Nat.reduceSub, Nat.reduceLT, Nat.reduceBEq, Nat.reduceLeDiff, ↓reduceIte, Int.reduceToNat, Int.reduceLE, Int.reduceLT, Int.reduceEq, reduceCtorEq]
  refine callX_by (cw _) ?_
  rintro r hp3 ⟨rfl, rfl⟩
  simp only [go_sem, Nat.reduceEqDiff, Nat.reduceAdd, Nat.reduceSub, Nat.reduceLT, Nat.reduceBEq, Nat.reduceLeDiff, ↓reduceIte, Int.reduceToNat, Int.reduceLE, Int.reduceLT, Int.reduceEq, reduceCtorEq]
  refine brK_mk (fun h2 => ?_) (fun h2 => ?_) <;> simp only [go_sem, Nat.reduceEqDiff, Nat.reduceAdd, Nat.reduceSub, Nat.reduceLT, Nat.reduceBEq, Nat.reduceLeDiff, ↓reduceIte, Int.reduceToNat, Int.reduceLE, Int.reduceLT, Int.reduceEq, reduceCtorEq, h2]
  · have hE : runE p fuel inputs = 0 := of_decide_eq_true h2
    obtain ⟨hpr, hf0, hf1, hfl⟩ := runE_ok hE
    obtain ⟨f, m, a1, a2, a3, a4, rfl, rfl⟩ := hz hE
    obtain ⟨f', m', how', val', b1, b2, b3, b4, rfl⟩ := hsz hE
    obtain rfl : f = f' := by rw [a1] at b1; exact Option.some.inj b1
    obtain rfl := a2.unique b2
    obtain ⟨rfl, rfl⟩ : how = how' ∧ val = val' := by rw [a4] at b4; simpa using b4
    obtain ⟨n1, n2⟩ := nums f m how val a1 a2 a4
    have hlo : m.outs.length ≤ 30000 := by have := a3.len; have := a3.le; omega
    have crr := rrun_calls p hpr hrg fuel hf0 hf1 hi inputs hin f a1 (hfl f a1) hp3
    simp only [ProgG.av, ProgG.cs, declsAV, funsAV, intsAV] at crr
    refine callX_by crr ?_
    rintro r hp4 ⟨h', how2, val2, outs2, steps2, m2, rfl, rfl, c1, c2, rfl, rfl⟩
    obtain rfl := a2.unique c1
    obtain ⟨rfl, rfl⟩ : how = how2 ∧ val = val2 := by rw [a4] at c2; simpa using c2
    simp only [go_sem, Nat.reduceEqDiff, Nat.reduceAdd, Nat.reduceSub, Nat.reduceLT, Nat.reduceBEq, Nat.reduceLeDiff, ↓reduceIte, Int.reduceToNat, Int.reduceLE, Int.reduceLT, Int.reduceEq, reduceCtorEq]
    intro b12 hb12
    have hd12 := fun T cs => Hp.del_set _ _ T cs hb12.1
    simp only [hd12, hE, go_sem, Nat.reduceEqDiff, Nat.reduceAdd, Nat.reduceSub, Nat.reduceLT, Nat.reduceBEq, Nat.reduceLeDiff, ↓reduceIte, Int.reduceToNat, Int.reduceLE, Int.reduceLT, Int.reduceEq, reduceCtorEq]
    have c3 := fun hp => rsame_calls how val h m.outs m.steps how val h' m.outs m.steps hp
    simp only [runAV] at c3
    refine callX_by (c3 _) ?_
    rintro r hp5 ⟨rfl, e5⟩
    subst e5
    simp only [go_sem, Nat.reduceEqDiff, Nat.reduceAdd, Nat.reduceSub, Nat.reduceLT, Nat.reduceBEq, Nat.reduceLeDiff, ↓reduceIte, Int.reduceToNat, Int.reduceLE, Int.reduceLT, Int.reduceEq, reduceCtorEq, decide_true, Bool.and_self]
    refine callX_by (rstring_calls how val h' m.outs m.steps n2 n1 hlo _) ?_
    rintro r hp5 ⟨rfl, e5⟩
    subst e5
    simp only [go_sem, Nat.reduceEqDiff, Nat.reduceAdd, Nat.reduceSub, Nat.reduceLT, Nat.reduceBEq, Nat.reduceLeDiff, ↓reduceIte, Int.reduceToNat, Int.reduceLE, Int.reduceLT, Int.reduceEq, reduceCtorEq, decide_true]
    refine callX_by (awake_calls _ hg0) ?_
    rintro r hp5 ⟨rfl, e5⟩
    subst e5
    simp only [go_sem, Nat.reduceEqDiff, Nat.reduceAdd, Nat.reduceSub, Nat.reduceLT, Nat.reduceBEq, Nat.reduceLeDiff, ↓reduceIte, Int.reduceToNat, Int.reduceLE, Int.reduceLT, Int.reduceEq, reduceCtorEq]
    exact ret_le (hp' := hp) hle0 ⟨rfl, rfl⟩
  · have hE : runE p fuel inputs ≠ 0 := of_decide_eq_false h2
    obtain ⟨rfl, rfl, rfl, rfl⟩ := hnz hE
    obtain rfl := hsnz hE
    have c3 := fun hp => acalls_cast (args := [runAV 0 0 h [] 0, runAV 0 0 (.slice none 0 0) [] 0]) (args' := [runAV 0 0 h [] 0, .agg [.v (.int .i64 0), .v (.int .i64 0), .v (.slice none 0 0), .v (.int .i64 0)]]) rfl (fun m hh => ⟨hh.1, ⟨trivial, trivial, (Cast.nil 1).2 m trivial, trivial, trivial⟩, trivial⟩) (rsame_calls 0 0 h [] 0 0 0 (.slice none 0 0) [] 0 hp)
    simp only [runAV] at c3
    refine callX_by (c3 _) ?_
    rintro r hp5 ⟨rfl, e5⟩
    subst e5
    simp only [go_sem, Nat.reduceEqDiff, Nat.reduceAdd, Nat.reduceSub, Nat.reduceLT, Nat.reduceBEq, Nat.reduceLeDiff, ↓reduceIte, Int.reduceToNat, Int.reduceLE, Int.reduceLT, Int.reduceEq, reduceCtorEq, decide_true, Bool.and_self]
    refine callX_by (awake_calls _ hg0) ?_
    rintro r hp5 ⟨rfl, e5⟩
    subst e5
    simp only [go_sem, Nat.reduceEqDiff, Nat.reduceAdd, Nat.reduceSub, Nat.reduceLT, Nat.reduceBEq, Nat.reduceLeDiff, ↓reduceIte, Int.reduceToNat, Int.reduceLE, Int.reduceLT, Int.reduceEq, reduceCtorEq]
    exact ret_le (hp' := hp) hle0 ⟨rfl, rfl⟩
end Go.Proofs.YtkoachnlimebaaaGreatDoor

/- strings.Builder, as contracts of AL. -/
import Derived.Test.YtkoachnlimebaaaGreatDoorCD2
import Derived.Test.YtkoachnlimebaaaGreatDoorCAL19
import Derived.Shelf.Strings.OnBuilder
import Derived.KernelRfl
import Derived.Test.YtkoachnlimebaaaGreatDoorCW11
import Derived.Lib.ItoaMem
set_option linter.unusedSimpArgs false
set_option linter.unusedVariables false
set_option maxRecDepth 20000
namespace Go.Proofs.YtkoachnlimebaaaGreatDoor
open Go.AL

def bptr (b : Nat) : AV := .v (.pointer (some ⟨b, 0, none⟩))
def bself (b : Nat) : AV := .v (.pointer (some ⟨b, 0, none⟩))
def L240r : Go.Shelf.Ren := ⟨fun | 240 => 83 | 276 => 136 | n => n, fun | 0 => 0 | 4 => 4 | 9 => 9 | 20 => 20 | 70 => 83 | 72 => 86 | 37 => 84 | 164 => 218 | n => n, fun | n => n⟩
theorem L240 : Lays.n240 Tryz.prog L240r := {
  mixed := by kernel_rfl
  f240 := Tryz.func83.trans (congrArg some (by kernel_rfl))
  f276 := Tryz.func136.trans (congrArg some (by kernel_rfl))
  t0 := Tryz.underlying0
  a0 := Tryz.isAgg0
  z0 := Tryz.sizeOf0
  v0 := Tryz.zeroValue0
  t4 := Tryz.underlying4
  a4 := Tryz.isAgg4
  z4 := Tryz.sizeOf4
  v4 := Tryz.zeroValue4
  t9 := Tryz.underlying9
  a9 := Tryz.isAgg9
  z9 := Tryz.sizeOf9
  v9 := Tryz.zeroValue9
  t20 := Tryz.underlying20
  a20 := Tryz.isAgg20
  z20 := Tryz.sizeOf20
  v20 := Tryz.zeroValue20
  t70 := Tryz.underlying83
  a70 := Tryz.isAgg83
  z70 := Tryz.sizeOf83
  v70 := Tryz.zeroValue83
  t72 := Tryz.underlying86
  a72 := Tryz.isAgg86
  z72 := Tryz.sizeOf86
  v72 := Tryz.zeroValue86
  t164 := Tryz.underlying218
  a164 := Tryz.isAgg218
  z164 := Tryz.sizeOf218
  v164 := Tryz.zeroValue218 }
theorem X72r : Builder.X72 Tryz.prog L240r := {
  sizeBuilder := by kernel_rfl
  liesBuilder := by kernel_rfl }


theorem copyCheck_calls (b : Nat) (q : Option Addr) (buf : AV) (hp : Hp) (hb : hp.blk b = some (86, [.v (.pointer q), buf])) (hq : q = none ∨ q = some ⟨b, 0, none⟩) :
    ACalls Tryz.prog 83 [bptr b] hp (fun r hp' => r = .tup [] ∧ hp' = hp.setBlk b 86 [bself b, buf]) := by
  refine acalls_turn (cs := [.v (.pointer q), buf]) (callable_of Tryz.func83 (by decide +kernel)) (fun m _ => trivial) hb (fun m h => ⟨trivial, h.2⟩) fun base m w hh _ => ?_
  obtain ⟨h1, h2, h3, h4⟩ := hh.blk b _ _ hb
  have hcell : w.cell? ⟨b, 0, none⟩ = some (.pointer q) := by rw [cell_of_row w b 0 _ _ _ h2]; rfl
  rcases hq with rfl | rfl
  · have hsh : w.shape? b = some (86, 2) := by simp [World.shape?, h2, AV.vals]
    have hfz : w.frozen? ⟨b, 0, none⟩ = false := by simp [World.frozen?, h2]
    refine (Any.Builder_copyCheck_fresh L240 X72r b w hcell hsh hfz).mono ?_
    rintro e w' ⟨rfl, rfl⟩
    refine ⟨rfl, ?_⟩
    rw [setCell_eq_setRow w b 0 _ _ _ _ h2]
    simp [AV.vals, AV.val, bself]
  · refine (Any.Builder_copyCheck_used L240 X72r b w hcell).mono ?_
    rintro e w' ⟨rfl, hw⟩
    exact ⟨rfl, by rw [hw]; exact (setRow_self w b _ _ _ h2).symm⟩

def BuilderOk (b : Nat) (h : Value) (l : List UInt8) (l1 l2 : List (TypeId × Nat × Value)) (hp : Hp) : Prop :=
  (∃ q, (q = none ∨ q = some ⟨b, 0, none⟩) ∧ hp.blk b = some (86, [.v (.pointer q), .lst 1 h (byAV l)])) ∧ hp.sp = l1 ++ (5, 1, h) :: l2 ∧ (l = [] → h = .slice none 0 0)
def wrote (b : Nat) (h : Value) (l : List UInt8) (l1 l2 : List (TypeId × Nat × Value)) (hp : Hp) : Hp := (hp.setBlk b 86 [bself b, .lst 1 h (byAV l)]).setSp (l1 ++ (5, 1, h) :: l2)

theorem writeString_calls (b : Nat) (h : Value) (l s : List UInt8) (l1 l2 : List (TypeId × Nat × Value)) (hp : Hp) (hb : BuilderOk b h l l1 l2 hp) (hlen : l.length + s.length ≤ 140737488355328) :
    ACalls Tryz.prog 38 [bptr b, .v (.string (bs s))] hp
      (fun r hp' => ∃ h', r = .tup [.v (.int .i64 s.length), .v .nilIface] ∧ hp' = wrote b h' (l ++ s) l1 l2 hp ∧ BuilderOk b h' (l ++ s) l1 l2 hp') := by
  obtain ⟨⟨q, hq, hblk⟩, hsp, h0⟩ := hb
  refine acalls_of Tryz.func38 rfl (by decide +kernel) (awp_sound (mu := [16]) _ _ _ ?_)
  simp only [go_sem, Nat.reduceEqDiff, Nat.reduceAdd, Nat.reduceSub, Nat.reduceLT, Nat.reduceBEq, Nat.reduceLeDiff, ↓reduceIte, Int.reduceToNat, Int.reduceLE, Int.reduceLT, Int.reduceEq, reduceCtorEq, bptr]
  refine callX_by (copyCheck_calls b q _ hp hblk hq) ?_
  rintro r hp' ⟨rfl, rfl⟩
  simp only [go_sem, Nat.reduceEqDiff, Nat.reduceAdd, Nat.reduceSub, Nat.reduceLT, Nat.reduceBEq, Nat.reduceLeDiff, ↓reduceIte, Int.reduceToNat, Int.reduceLE, Int.reduceLT, Int.reduceEq, reduceCtorEq, bptr, bself]
  refine appendS_by (a := .lst 1 h (byAV l)) (h := h) (xs := byAV l) (b := s) (l1 := l1) (l2 := l2) Tryz.k84 Tryz.k9 Tryz.s5 Tryz.y5 Tryz.z5 rfl
    (by simp [go_sem]) (Cast.refl _) (by simp [go_sem]) (by simp [go_sem, hsp]) (by rw [byAV_length]; simp only [maxLen]; omega) (by rw [byAV_length]; omega) (by simp [go_sem]) (fun h' hh => ?_)
  simp only [go_sem, Nat.reduceEqDiff, Nat.reduceAdd, Nat.reduceSub, Nat.reduceLT, Nat.reduceBEq, Nat.reduceLeDiff, ↓reduceIte, Int.reduceToNat, Int.reduceLE, Int.reduceLT, Int.reduceEq, reduceCtorEq]
  have e : byAV l ++ byAV s = byAV (l ++ s) := (byAV_append l s).symm
  refine ret_le (hp' := wrote b h' (l ++ s) l1 l2 hp) ?_ ⟨h', rfl, rfl, ⟨some ⟨b, 0, none⟩, .inr rfl, ?_⟩, rfl, ?_⟩
  · rw [e]
    have : ((hp.setBlk b 86 [AV.v (.pointer (some ⟨b, 0, none⟩)), .lst 1 h (byAV l)]).setSp (l1 ++ (5, 1, h') :: l2)).setBlk b 86 [AV.v (.pointer (some ⟨b, 0, none⟩)), .lst 1 h' (byAV (l ++ s))] = wrote b h' (l ++ s) l1 l2 hp := by
      rw [show ((hp.setBlk b 86 [AV.v (.pointer (some ⟨b, 0, none⟩)), .lst 1 h (byAV l)]).setSp (l1 ++ (5, 1, h') :: l2)).setBlk b 86 [AV.v (.pointer (some ⟨b, 0, none⟩)), .lst 1 h' (byAV (l ++ s))] = ((hp.setBlk b 86 [AV.v (.pointer (some ⟨b, 0, none⟩)), .lst 1 h (byAV l)]).setBlk b 86 [AV.v (.pointer (some ⟨b, 0, none⟩)), .lst 1 h' (byAV (l ++ s))]).setSp (l1 ++ (5, 1, h') :: l2) from rfl, Hp.set_set]
      rfl
    rw [this]
    exact Hp.le_refl _
  · simp [wrote, Hp.setBlk, Hp.setSp, bself]
  · intro hl
    rcases hh with hh | hh
    · rw [e, hl] at hh; exact absurd rfl hh
    · rw [hh]; exact h0 (by simp at hl; exact hl.1)

theorem string_calls (b : Nat) (h : Value) (l : List UInt8) (l1 l2 : List (TypeId × Nat × Value)) (hp : Hp) (hb : BuilderOk b h l l1 l2 hp) (hlen : l.length ≤ maxLen) :
    ACalls Tryz.prog 40 [bptr b] hp (fun r hp' => r = .v (.string (bs l)) ∧ hp' = hp.setSp (l1 ++ l2)) := by
  obtain ⟨⟨q, hq, hblk⟩, hsp, h0⟩ := hb
  refine acalls_of Tryz.func40 rfl (by decide +kernel) (awp_sound (mu := []) _ _ _ ?_)
  simp only [go_sem, Nat.reduceEqDiff, Nat.reduceAdd, Nat.reduceSub, Nat.reduceLT, Nat.reduceBEq, Nat.reduceLeDiff, ↓reduceIte, Int.reduceToNat, Int.reduceLE, Int.reduceLT, Int.reduceEq, reduceCtorEq, bptr]
  refine draw_by (mu := []) (fun hp' => hp'.blk b = some (86, [.v (.pointer q), .lst 1 h (byAV l)])) (.take 0 (.take 1 (.take 2 (.take 3 (.take 5 (.take 6 (.take 7 (.take 8 (.take 9 (.br 4 (.br 10 (.take 11 (.done)) (.stop)) (.stop))))))))))) (by decide +kernel) hblk (by decide +kernel) (by decide +kernel) ?_
  simp only [go_sem, Nat.reduceEqDiff, Nat.reduceAdd, Nat.reduceSub, Nat.reduceLT, Nat.reduceBEq, Nat.reduceLeDiff, ↓reduceIte, Int.reduceToNat, Int.reduceLE, Int.reduceLT, Int.reduceEq, reduceCtorEq, hblk]
  refine ⟨fun hp' hh => by rw [hh]; simp only [go_sem, Nat.reduceEqDiff, Nat.reduceAdd, Nat.reduceSub, Nat.reduceLT, Nat.reduceBEq, Nat.reduceLeDiff, ↓reduceIte, Int.reduceToNat, Int.reduceLE, Int.reduceLT, Int.reduceEq, reduceCtorEq], fun hp' hh => by rw [hh]; simp only [go_sem, Nat.reduceEqDiff, Nat.reduceAdd, Nat.reduceSub, Nat.reduceLT, Nat.reduceBEq, Nat.reduceLeDiff, ↓reduceIte, Int.reduceToNat, Int.reduceLE, Int.reduceLT, Int.reduceEq, reduceCtorEq], ?_⟩
  refine usd_by (h := h) (l := l) (by simp [go_sem]) h0 (by simp [go_sem]) ?_
  refine ⟨by simp [go_sem, hblk], ?_⟩
  refine ust_by (e := 5) (h := h) (l := l) (i := 6) (l1 := l1) (l2 := l2) Tryz.underlying167 (by kernel_rfl) (by simp [go_sem]) (by simp [go_sem, byAV_length]) (by simp [go_sem]) (by simp [go_sem, hsp]) (by simp [go_sem]) ?_
  simp only [go_sem, Nat.reduceEqDiff, Nat.reduceAdd, Nat.reduceSub, Nat.reduceLT, Nat.reduceBEq, Nat.reduceLeDiff, ↓reduceIte, Int.reduceToNat, Int.reduceLE, Int.reduceLT, Int.reduceEq, reduceCtorEq, hblk]
  exact ret_same ⟨rfl, rfl⟩

end Go.Proofs.YtkoachnlimebaaaGreatDoor
/- Direct evaluation: the string of a run. -/
set_option linter.unusedSimpArgs false
set_option linter.unusedVariables false
set_option maxRecDepth 20000
set_option maxHeartbeats 4000000
namespace Go.Proofs.YtkoachnlimebaaaGreatDoor
open Go.AL

def emitT (l : List Int) : Bytes := l.flatMap fun n => [101, 109, 105, 116, 32] ++ (Lib.itoa n ++ [44, 32])
def endT (how val : Int) : Bytes := if how = 0 then [100, 111, 110, 101, 32] ++ Lib.itoa val else if how = 1 then [115, 112, 101, 110, 116] else [115, 116, 117, 99, 107]
theorem emitT_take {l : List Int} {k : Nat} {n : Int} (h : l[k]? = some n) : emitT (l.take (k + 1)) = emitT (l.take k) ++ ([101, 109, 105, 116, 32] ++ (Lib.itoa n ++ [44, 32])) := by
  rw [List.take_add_one, h, emitT, emitT, List.flatMap_append]; simp
theorem emitT_len {l : List Int} (h : ∀ n ∈ l, (Lib.itoa n).length ≤ 100) : (emitT l).length ≤ 107 * l.length := by
  induction l with
  | nil => simp [emitT]
  | cons n l ih =>
    have h1 := ih (fun m hm => h m (by simp [hm]))
    have h2 := h n (by simp)
    rw [emitT] at h1 ⊢
    rw [List.flatMap_cons]
    simp only [List.length_append, List.length_cons, List.length_nil] at h1 ⊢
    omega
def ItoaC (gl : List (Nat × List AV)) (N : Int → Prop) : Prop := ∀ n, N n → (Lib.itoa n).length ≤ 100 ∧ ∀ hp' : Hp, hp'.gl = gl → ACalls Tryz.prog 39 [.v (.int .i64 n)] hp' (fun r h => r = .v (.string (bs (Lib.itoa n))) ∧ h = hp')
/-- What a run emits, and its result. -/
def NumsOf (N : Int → Prop) (p : ProgG) (fuel : Int) (inputs : List Int) : Prop :=
  ∀ f m how val, p.fs.head? = some f → EndsG p.ds p.fs fuel.toNat (startG f inputs) m → m.fin = some (how, val) → (∀ n ∈ m.outs, N n) ∧ (how = 0 → N val)
def ValueR (p : ProgG) (fuel : Int) (inputs : List Int) (hp : Hp) (r : AV) (hp' : Hp) : Prop :=
  hp' = hp ∧ ∃ s, r = .tup [.v (.string (bs s)), .v (.int .i64 (runE p fuel inputs))] ∧ (runE p fuel inputs ≠ 0 → s = []) ∧
    (runE p fuel inputs = 0 → ∃ f m how val, p.fs.head? = some f ∧ EndsG p.ds p.fs fuel.toNat (startG f inputs) m ∧ Goes p fuel.toNat m ∧ m.fin = some (how, val) ∧ s = emitT m.outs ++ endT how val)
/-- A builder among the own rows. -/
def bHp (H : Hp) (b : Nat) (q : Option Addr) (h h' : Value) (l : Bytes) (l2 : List (TypeId × Nat × Value)) : Hp := (H.setBlk b 86 [.v (.pointer q), .lst 1 h' (byAV l)]).setSp ((3, 1, h) :: (5, 1, h') :: l2)
theorem bHp_ok {H : Hp} {b : Nat} {q : Option Addr} {h h' : Value} {l : Bytes} {l2 : List (TypeId × Nat × Value)} (hq : q = none ∨ q = some ⟨b, 0, none⟩) (hl : l = [] → h' = .slice none 0 0) : BuilderOk b h' l [(3, 1, h)] l2 (bHp H b q h h' l l2) :=
  ⟨⟨q, hq, by simp [bHp, Hp.setBlk, Hp.setSp]⟩, rfl, hl⟩
theorem bHp_wrote {H : Hp} {b : Nat} {q : Option Addr} {h h' h2 : Value} {l s : Bytes} {l2 : List (TypeId × Nat × Value)} : wrote b h2 s [(3, 1, h)] l2 (bHp H b q h h' l l2) = bHp H b (some ⟨b, 0, none⟩) h h2 s l2 := by
  unfold wrote bHp
  rw [set_sp_set]; rfl
theorem bwrite_calls (H : Hp) (b : Nat) (q : Option Addr) (h h' : Value) (l s : Bytes) (l2 : List (TypeId × Nat × Value)) (hq : q = none ∨ q = some ⟨b, 0, none⟩) (hl : l = [] → h' = .slice none 0 0) (hlen : l.length + s.length ≤ 140737488355328) :
    ACalls Tryz.prog 38 [ptr0 b, .v (.string (bs s))] (bHp H b q h h' l l2) (fun r hp' => ∃ h2, (l ++ s = [] → h2 = .slice none 0 0) ∧ hp' = bHp H b (some ⟨b, 0, none⟩) h h2 (l ++ s) l2) := by
  refine (writeString_calls b h' l s [(3, 1, h)] l2 _ (bHp_ok hq hl) hlen).mono ?_
  rintro r hp' ⟨h2, rfl, rfl, hb⟩
  exact ⟨h2, hb.2.2, bHp_wrote⟩
theorem bHp_le {hp H : Hp} {b : Nat} {q : Option Addr} {h h' : Value} {l : Bytes} {x : TypeId × Nat × Value} (hH : H = hp.setSp ((3, 1, h) :: x :: hp.sp)) (hb : H.blk b = none) : hp.le ((bHp H b q h h' l hp.sp).setSp ([(3, 1, h)] ++ hp.sp)) := by
  refine ⟨fun j y hj => ?_, fun _ _ hj => by rw [hH]; exact hj, List.sublist_cons_self _ _, fun _ hx => by rw [hH]; exact hx⟩
  have hne : j ≠ b := by rintro rfl; rw [hH] at hb; rw [Hp.setSp_blk] at hb; rw [hb] at hj; cases hj
  simp only [bHp, Hp.setSp_blk, Hp.setBlk_blk, if_neg hne]
  rw [hH]; exact hj
theorem value_calls (p : ProgG) (hpf : PFit p) (fuel : Int) (hi : Value) (inputs : List Int) (hp : Hp) (hg : GOk hp) {N : Int → Prop} (hI : ItoaC hp.gl N) (hN : runE p fuel inputs = 0 → NumsOf N p fuel inputs) :
    ACalls Tryz.prog 13 [p.av, .v (.int .i64 fuel), intsAV hi inputs] hp (ValueR p fuel inputs hp) := by
  refine acalls_addNil 5 1 ?_
  refine acalls_of Tryz.func13 rfl (by decide +kernel) (awp_sound (mu := []) _ _ _ ?_)
  simp only [go_sem, Nat.reduceEqDiff, Nat.reduceAdd, Nat.reduceSub, Nat.reduceLT, Nat.reduceBEq, Nat.reduceLeDiff, ↓reduceIte, Int.reduceToNat, Int.reduceLE, Int.reduceLT, Int.reduceEq, reduceCtorEq, ProgG.av, ProgG.cs, declsAV, funsAV, intsAV]
  intro q
  have cr := fun hp hg => run_calls p hpf fuel hi inputs hp hg
  simp only [ProgG.av, ProgG.cs, declsAV, funsAV, intsAV] at cr
  refine callX_by (cr _ hg) ?_
  clear cr
  rintro r hp1 ⟨h, how, val, outs, steps, rfl, rfl, hz, hnz⟩
  simp only [go_sem, Nat.reduceEqDiff, Nat.reduceAdd, Nat.reduceSub, Nat.reduceLT, Nat.reduceBEq, Nat.reduceLeDiff, ↓reduceIte, Int.reduceToNat, Int.reduceLE, Int.reduceLT, Int.reduceEq, reduceCtorEq]
  intro v8 hv8
  have hds := fun T cs => Hp.del_set _ _ T cs hv8.1
  have hdd := hds 30 [.v (.int .i64 0), .v (.int .i64 0), .v (.slice none 0 0), .v (.int .i64 0)]
  obtain ⟨H, hH⟩ : ∃ H, H = hp.setSp ((3, 1, h) :: (5, 1, .slice none 0 0) :: hp.sp) := ⟨_, rfl⟩
  rw [← hH] at hdd
  have hgl : H.gl = hp.gl := by rw [hH]; rfl
  have hsub : hp.le H := by rw [hH]; exact ⟨fun _ _ h => h, fun _ _ h => h, (List.sublist_cons_self _ _).trans (List.sublist_cons_self _ _), fun _ h => h⟩
  refine brK_mk (fun g => ?_) (fun g => ?_) <;> simp only [go_sem, Nat.reduceEqDiff, Nat.reduceAdd, Nat.reduceSub, Nat.reduceLT, Nat.reduceBEq, Nat.reduceLeDiff, ↓reduceIte, Int.reduceToNat, Int.reduceLE, Int.reduceLT, Int.reduceEq, reduceCtorEq, g] <;> rw [← hH, hdd]
  · have he : runE p fuel inputs = 0 := of_decide_eq_true g
    obtain ⟨f, m, hf, hends, hgo, hfin, rfl, rfl⟩ := hz he
    obtain ⟨hno, hnv⟩ := hN he f m how val hf hends hfin
    have hfu : fuel.toNat ≤ 20000 := by
      unfold runE at he
      split at he
      · omega
      · split at he
        · omega
        · omega
    have hol : m.outs.length ≤ 20000 := by have := hgo.len; have := hgo.le; omega
    intro b hb
    refine castBlk_by b 86 [.v (.pointer none), .v (.slice none 0 0)] [.v (.pointer none), .lst 1 (.slice none 0 0) (byAV [])] (by simp [go_sem, Hp.setBlk]) rfl (fun m h => ⟨trivial, (Cast.nil 1).2 m trivial, trivial⟩) ?_
    refine aw_loopX 50 (fun y : Nat × Value × Option Addr => [(8, .ref (.pointer (some ⟨v8, 0, none⟩)) [.v (.int .i64 how), .v (.int .i64 val), .lst 1 h (m.outs.map iv), .v (.int .i64 m.steps)]), (10, ptr0 b), (24, .lst 1 h (m.outs.map iv)), (25, .v (.int .i64 m.outs.length)), (26, .v (.int .i64 y.1))])
      (fun y => bHp H b y.2.2 h y.2.1 (emitT (m.outs.take y.1)) hp.sp) (fun y => y.1 ≤ m.outs.length ∧ (y.2.2 = none ∨ y.2.2 = some ⟨b, 0, none⟩) ∧ (emitT (m.outs.take y.1) = [] → y.2.1 = .slice none 0 0)) (fun y => m.outs.length - y.1) (0, .slice none 0 0, none) ⟨Nat.zero_le _, .inl rfl, fun _ => rfl⟩
      (le_mkSl rfl (by simp only [go_sem, Nat.reduceEqDiff, Nat.reduceAdd, Nat.reduceSub, Nat.reduceLT, Nat.reduceBEq, Nat.reduceLeDiff, ↓reduceIte, Int.reduceToNat, Int.reduceLE, Int.reduceLT, Int.reduceEq, reduceCtorEq, Hp.set_set, bHp, emitT, List.take_zero, List.flatMap_nil]; rw [hH]; exact Hp.le_refl _) (by simp [go_sem, ptr0])) ?_
    rintro ⟨k, h', q'⟩ ⟨hk, hq, hh'⟩
    simp only at hk hq hh'
    have hel : (emitT (m.outs.take k)).length ≤ 107 * k := by
      have := emitT_len (l := m.outs.take k) (fun n hn => (hI n (hno n (List.mem_of_mem_take hn))).1)
      rw [List.length_take] at this; omega
    refine awp_sound (mu := []) _ _ _ ?_
    simp only [go_sem, Nat.reduceEqDiff, Nat.reduceAdd, Nat.reduceSub, Nat.reduceLT, Nat.reduceBEq, Nat.reduceLeDiff, ↓reduceIte, Int.reduceToNat, Int.reduceLE, Int.reduceLT, Int.reduceEq, reduceCtorEq, ptr0]
    refine brK_mk (fun h1 => ?_) (fun h1 => ?_) <;> simp only [go_sem, Nat.reduceEqDiff, Nat.reduceAdd, Nat.reduceSub, Nat.reduceLT, Nat.reduceBEq, Nat.reduceLeDiff, ↓reduceIte, Int.reduceToNat, Int.reduceLE, Int.reduceLT, Int.reduceEq, reduceCtorEq, h1]
    · have hk' : k < m.outs.length := by simpa using h1
      obtain ⟨n, hn⟩ := someAt m.outs k hk'
      have hwu : IntKind.i64.wrap ((k : Int) + 1) = ((k + 1 : Nat) : Int) := IntWalk.i64_in _ (by omega)
      obtain ⟨hi1, hi2⟩ := hI n (hno n (List.mem_of_getElem? hn))
      simp only [go_sem, Nat.reduceEqDiff, Nat.reduceAdd, Nat.reduceSub, Nat.reduceLT, Nat.reduceBEq, Nat.reduceLeDiff, ↓reduceIte, Int.reduceToNat, Int.reduceLE, Int.reduceLT, Int.reduceEq, reduceCtorEq, mapAt iv _ _ _ hn, iv]
      refine callX_by (hi2 _ (by simp only [bHp]; exact hgl)) ?_
      rintro r hp1 ⟨rfl, rfl⟩
      simp only [go_sem, Nat.reduceEqDiff, Nat.reduceAdd, Nat.reduceSub, Nat.reduceLT, Nat.reduceBEq, Nat.reduceLeDiff, ↓reduceIte, Int.reduceToNat, Int.reduceLE, Int.reduceLT, Int.reduceEq, reduceCtorEq]
      refine ⟨by omega, by omega, ?_⟩
      have c := bwrite_calls H b q' h h' (emitT (m.outs.take k)) ([101, 109, 105, 116, 32] ++ (Lib.itoa n ++ [44, 32])) hp.sp hq hh' (by simp only [List.length_append, List.length_cons, List.length_nil]; omega)
      simp only [ptr0] at c
      refine callX_by c ?_
      clear c
      rintro r hp2 ⟨h2, hh2, rfl⟩
      simp only [go_sem, Nat.reduceEqDiff, Nat.reduceAdd, Nat.reduceSub, Nat.reduceLT, Nat.reduceBEq, Nat.reduceLeDiff, ↓reduceIte, Int.reduceToNat, Int.reduceLE, Int.reduceLT, Int.reduceEq, reduceCtorEq, hwu]
      have et : emitT (m.outs.take k) ++ ([101, 109, 105, 116, 32] ++ (Lib.itoa n ++ [44, 32])) = emitT (m.outs.take (k + 1)) := (emitT_take hn).symm
      rw [et] at hh2
      refine ⟨(k + 1, h2, some ⟨b, 0, none⟩), by simp only; omega, ⟨by simp only; omega, .inr rfl, hh2⟩, le_mkSl rfl ?_ (by simp [go_sem, ptr0, hwu])⟩
      simp only [← et]
      exact Hp.le_refl _
    · have hge : k = m.outs.length := by simp at h1; omega
      subst hge
      rw [List.take_length] at hel hh' ⊢
      refine brK_mk (fun h2 => ?_) (fun h2 => ?_) <;> simp only [go_sem, Nat.reduceEqDiff, Nat.reduceAdd, Nat.reduceSub, Nat.reduceLT, Nat.reduceBEq, Nat.reduceLeDiff, ↓reduceIte, Int.reduceToNat, Int.reduceLE, Int.reduceLT, Int.reduceEq, reduceCtorEq, h2]
      · have hw : how = 0 := of_decide_eq_true h2
        obtain ⟨hi1, hi2⟩ := hI val (hnv hw)
        refine callX_by (hi2 _ (by simp only [bHp]; exact hgl)) ?_
        rintro r hp1 ⟨rfl, rfl⟩
        simp only [go_sem, Nat.reduceEqDiff, Nat.reduceAdd, Nat.reduceSub, Nat.reduceLT, Nat.reduceBEq, Nat.reduceLeDiff, ↓reduceIte, Int.reduceToNat, Int.reduceLE, Int.reduceLT, Int.reduceEq, reduceCtorEq]
        refine ⟨by omega, ?_⟩
        have c := bwrite_calls H b q' h h' (emitT m.outs) ([100, 111, 110, 101, 32] ++ Lib.itoa val) hp.sp hq hh' (by simp only [List.length_append, List.length_cons, List.length_nil]; omega)
        simp only [ptr0] at c
        refine callX_by c ?_
        clear c
        rintro r hp2 ⟨h2, hh2, rfl⟩
        simp only [go_sem, Nat.reduceEqDiff, Nat.reduceAdd, Nat.reduceSub, Nat.reduceLT, Nat.reduceBEq, Nat.reduceLeDiff, ↓reduceIte, Int.reduceToNat, Int.reduceLE, Int.reduceLT, Int.reduceEq, reduceCtorEq]
        have c := string_calls b h2 (emitT m.outs ++ ([100, 111, 110, 101, 32] ++ Lib.itoa val)) [(3, 1, h)] hp.sp _ (bHp_ok (H := H) (.inr rfl) hh2) (by simp only [maxLen, List.length_append, List.length_cons, List.length_nil]; omega)
        simp only [bptr] at c
        refine callX_by c ?_
        clear c
        rintro r hp3 ⟨rfl, rfl⟩
        simp only [go_sem, Nat.reduceEqDiff, Nat.reduceAdd, Nat.reduceSub, Nat.reduceLT, Nat.reduceBEq, Nat.reduceLeDiff, ↓reduceIte, Int.reduceToNat, Int.reduceLE, Int.reduceLT, Int.reduceEq, reduceCtorEq]
        refine ret_le (hp' := hp) (bHp_le hH hb.1) ⟨rfl, _, by rw [he], fun h => absurd he h, fun _ => ⟨f, m, how, val, hf, hends, hgo, hfin, ?_⟩⟩
        rw [endT, if_pos hw]; rfl
      · have hw : ¬ how = 0 := of_decide_eq_false h2
        refine brK_mk (fun h3 => ?_) (fun h3 => ?_) <;> simp only [go_sem, Nat.reduceEqDiff, Nat.reduceAdd, Nat.reduceSub, Nat.reduceLT, Nat.reduceBEq, Nat.reduceLeDiff, ↓reduceIte, Int.reduceToNat, Int.reduceLE, Int.reduceLT, Int.reduceEq, reduceCtorEq, h3]
        · have hw1 : how = 1 := of_decide_eq_true h3
          have c := bwrite_calls H b q' h h' (emitT m.outs) ([115, 112, 101, 110, 116]) hp.sp hq hh' (by simp only [List.length_append, List.length_cons, List.length_nil]; omega)
          simp only [ptr0] at c
          refine callX_by c ?_
          clear c
          rintro r hp2 ⟨h2, hh2, rfl⟩
          simp only [go_sem, Nat.reduceEqDiff, Nat.reduceAdd, Nat.reduceSub, Nat.reduceLT, Nat.reduceBEq, Nat.reduceLeDiff, ↓reduceIte, Int.reduceToNat, Int.reduceLE, Int.reduceLT, Int.reduceEq, reduceCtorEq]
          have c := string_calls b h2 (emitT m.outs ++ ([115, 112, 101, 110, 116])) [(3, 1, h)] hp.sp _ (bHp_ok (H := H) (.inr rfl) hh2) (by simp only [maxLen, List.length_append, List.length_cons, List.length_nil]; omega)
          simp only [bptr] at c
          refine callX_by c ?_
          clear c
          rintro r hp3 ⟨rfl, rfl⟩
          simp only [go_sem, Nat.reduceEqDiff, Nat.reduceAdd, Nat.reduceSub, Nat.reduceLT, Nat.reduceBEq, Nat.reduceLeDiff, ↓reduceIte, Int.reduceToNat, Int.reduceLE, Int.reduceLT, Int.reduceEq, reduceCtorEq]
          refine ret_le (hp' := hp) (bHp_le hH hb.1) ⟨rfl, _, by rw [he], fun h => absurd he h, fun _ => ⟨f, m, how, val, hf, hends, hgo, hfin, ?_⟩⟩
          rw [endT, if_neg hw, if_pos hw1]
        · have hw1 : ¬ how = 1 := of_decide_eq_false h3
          have c := bwrite_calls H b q' h h' (emitT m.outs) ([115, 116, 117, 99, 107]) hp.sp hq hh' (by simp only [List.length_append, List.length_cons, List.length_nil]; omega)
          simp only [ptr0] at c
          refine callX_by c ?_
          clear c
          rintro r hp2 ⟨h2, hh2, rfl⟩
          simp only [go_sem, Nat.reduceEqDiff, Nat.reduceAdd, Nat.reduceSub, Nat.reduceLT, Nat.reduceBEq, Nat.reduceLeDiff, ↓reduceIte, Int.reduceToNat, Int.reduceLE, Int.reduceLT, Int.reduceEq, reduceCtorEq]
          have c := string_calls b h2 (emitT m.outs ++ ([115, 116, 117, 99, 107])) [(3, 1, h)] hp.sp _ (bHp_ok (H := H) (.inr rfl) hh2) (by simp only [maxLen, List.length_append, List.length_cons, List.length_nil]; omega)
          simp only [bptr] at c
          refine callX_by c ?_
          clear c
          rintro r hp3 ⟨rfl, rfl⟩
          simp only [go_sem, Nat.reduceEqDiff, Nat.reduceAdd, Nat.reduceSub, Nat.reduceLT, Nat.reduceBEq, Nat.reduceLeDiff, ↓reduceIte, Int.reduceToNat, Int.reduceLE, Int.reduceLT, Int.reduceEq, reduceCtorEq]
          refine ret_le (hp' := hp) (bHp_le hH hb.1) ⟨rfl, _, by rw [he], fun h => absurd he h, fun _ => ⟨f, m, how, val, hf, hends, hgo, hfin, ?_⟩⟩
          rw [endT, if_neg hw, if_neg hw1]
  · have he : ¬ runE p fuel inputs = 0 := of_decide_eq_false g
    exact ret_le hsub ⟨rfl, [], rfl, fun _ => rfl, fun h => absurd h he⟩
end Go.Proofs.YtkoachnlimebaaaGreatDoor

/- The iterator over the subterms of a term. -/
import Derived.RangeFuncNested
import Derived.RangeFuncBound
import Derived.RangeFuncCalls
import Derived.RangeFuncLeaves
import Derived.Shelf.Abstract
import Derived.Shelf.RegionOpen
import Derived.WalkKit
import Derived.OwnWalkIn
import Derived.TacticsInMore
import Derived.LoopNIn
import Derived.LoopIn
import Derived.Test.YtppoacgeiooppaaGreatCT2
import Derived.Test.YtppoacgeiooppaaGreatCT12
import Derived.Test.YtppoacgeiooppaaGreatCT51
namespace Go.Proofs.YtppoacgeiooppaaGreat
open Go.AL Go.RowKit Go.Shelf
attribute [local go_sem] Oper.semAt_some

mutual
def preT : TermG → List TermG
  | .mk op n name ty ha args hc cls => .mk op n name ty ha args hc cls :: (preA args ++ preC cls)
def preA : List TermG → List TermG
  | [] => []
  | a :: r => preT a ++ preA r
def preC : List ClauseG → List TermG
  | [] => []
  | .mk _ _ b :: r => preT b ++ preC r
end
/-- What a round keeps: every block of cells but one. -/
def KpN (nb : Nat) (A B : World) : Prop := A.heap.size ≤ B.heap.size ∧ ∀ (k : Nat) (o : Obj), k ≠ nb → A.heap[k]? = some o → o.isCells = true → B.heap[k]? = some o
def YieldY (l nb N : Nat) (L : List TermG) (J Jx : List TermG → World → Prop) : Prop :=
  ∀ m pre x W, x ∈ L → J pre W → pre.length < N → YieldAt Fence.wide m Tryz.prog l #[x.av.val] W fun e W' =>
    (e = .returned (.bool true) ∧ J (pre ++ [x]) W' ∧ KpN nb W W') ∨ (e = .returned (.bool false) ∧ Jx (pre ++ [x]) W')
def HoldsM (m : Mem) (W : World) : Prop := ∀ b o x, m b o = some x → W.cell? ⟨b, o, none⟩ = some x
theorem KpN.refl (nb : Nat) (A : World) : KpN nb A A := ⟨Nat.le_refl _, fun _ _ _ h _ => h⟩
theorem KpN.trans {nb : Nat} {A B C : World} (h : KpN nb A B) (k : KpN nb B C) : KpN nb A C := ⟨Nat.le_trans h.1 k.1, fun i o hi ho hc => k.2 i o hi (h.2 i o hi ho hc) hc⟩
theorem KpN.alloc (nb : Nat) (W : World) (o : Obj) : KpN nb W (W.alloc o) := ⟨by simp, fun k o' _ hk _ => (Below.heap_alloc W o k (Array.getElem?_eq_some_iff.1 hk).1).trans hk⟩
theorem KpN.cell {nb : Nat} {A B : World} (h : KpN nb A B) {b o : Nat} {x : Value} (hb : b ≠ nb) (hx : A.cell? ⟨b, o, none⟩ = some x) : B.cell? ⟨b, o, none⟩ = some x := by
  unfold World.cell? at hx ⊢
  simp only at hx ⊢
  cases ho : A.heap[b]? with
  | none => rw [ho] at hx; cases hx
  | some ob =>
    have hc : ob.isCells = true := by rw [ho] at hx; cases ob <;> simp_all [Obj.isCells]
    rw [h.2 b ob hb ho hc, ← ho]; exact hx
theorem HoldsM.kp {m : Mem} {nb : Nat} (hm : ∀ b o x, m b o = some x → b ≠ nb) {A B : World} (h : KpN nb A B) (hM : HoldsM m A) : HoldsM m B := fun b o x hx => h.cell (hm b o x hx) (hM b o x hx)
theorem cell_box {W : World} {vs : Array Value} {T : TypeId} {j : Nat} {x : Value} (hx : vs[j]? = some x) : (W.alloc (.cells vs T)).cell? ⟨W.heap.size, j, none⟩ = some x := by
  unfold World.cell?
  simp only
  rw [World.alloc_heap_new]
  simpa using hx
theorem preA_app : ∀ (l r : List TermG), preA (l ++ r) = preA l ++ preA r
  | [], r => rfl
  | a :: l, r => by rw [List.cons_append, preA, preA, preA_app l r, List.append_assoc]
theorem preC_app : ∀ (l r : List ClauseG), preC (l ++ r) = preC l ++ preC r
  | [], r => rfl
  | .mk _ _ b :: l, r => by rw [List.cons_append, preC, preC, preC_app l r, List.append_assoc]
theorem preA_take {l : List TermG} {k : Nat} {a : TermG} (h : l[k]? = some a) : preA (l.take (k + 1)) = preA (l.take k) ++ preT a := by
  rw [List.take_add_one, h, preA_app]; simp [preA]
theorem preC_take {l : List ClauseG} {k : Nat} {c : ClauseG} (h : l[k]? = some c) : preC (l.take (k + 1)) = preC (l.take k) ++ preT c.body := by
  rw [List.take_add_one, h, preC_app]; cases c; simp [preC, ClauseG.body]
theorem preA_mem {l : List TermG} {k : Nat} {a : TermG} (h : l[k]? = some a) {x : TermG} (hx : x ∈ preT a) : x ∈ preA l := by
  have e := List.take_append_drop (k + 1) l
  rw [← e, preA_app, preA_take h]
  simp [hx]
theorem preC_mem {l : List ClauseG} {k : Nat} {c : ClauseG} (h : l[k]? = some c) {x : TermG} (hx : x ∈ preT c.body) : x ∈ preC l := by
  have e := List.take_append_drop (k + 1) l
  rw [← e, preC_app, preC_take h]
  simp [hx]
theorem preA_len {l : List TermG} {k : Nat} {a : TermG} (h : l[k]? = some a) : (preA (l.take k)).length + (preT a).length ≤ (preA l).length := by
  have e := List.take_append_drop (k + 1) l
  have := congrArg (fun l => (preA l).length) e
  simp only [preA_app, List.length_append, preA_take h] at this
  omega
theorem preC_len {l : List ClauseG} {k : Nat} {c : ClauseG} (h : l[k]? = some c) : (preC (l.take k)).length + (preT c.body).length ≤ (preC l).length := by
  have e := List.take_append_drop (k + 1) l
  have := congrArg (fun l => (preC l).length) e
  simp only [preC_app, List.length_append, preC_take h] at this
  omega
theorem meas_up {n k : Nat} (hlt : k < n) (hwk : wrap64 ((k : Int) + 1) = (k : Int) + 1) : n - (Go.RowKit.intOf (.int .i64 (wrap64 ((k : Int) + 1)))).toNat < n - (Go.RowKit.intOf (.int .i64 (k : Int))).toNat := by
  rw [hwk]; simp only [Go.RowKit.intOf]; omega
/-- What lies at an element of a slice. -/
theorem elem_cells {m : Mem} {sz : Nat} {α : Type} {f : α → AV} {a : Option Addr} {n cap : Nat} {l : List α} (h : Hdr m sz (.slice a n cap) (AV.vals (l.map f))) {k : Nat} {x : α} (hx : l[k]? = some x) :
    ∃ b off, a = some ⟨b, off, none⟩ ∧ ∀ (j : Nat) (y : Value), (f x).val.cells[j]? = some y → m b (off + k * sz + j) = some y := by
  obtain ⟨a', cap', e, _, _, _, h5⟩ := h
  cases e
  have hk : (AV.vals (l.map f))[k]? = some (f x).val := by rw [AV.vals_getElem?, List.getElem?_map, hx]; rfl
  obtain ⟨b, off, ea, hr⟩ := h5 (by rintro e; rw [e] at hk; cases hk)
  exact ⟨b, off, ea, fun j y hy => hr k _ hk j y hy⟩
def WalkAt (l nb N : Nat) (L : List TermG) (J Jx : List TermG → World → Prop) (m : Mem) (d : Nat) : Prop :=
  ∀ (t : TermG), nodesT t ≤ d → AV.oks m t.cs → (∀ x ∈ preT t, x ∈ L) → ∀ (n : Nat) (pre : List TermG) (W : World), HoldsM m W → nb < W.heap.size → J pre W → pre.length + (preT t).length ≤ N →
      CallsIn Fence.wide n Tryz.prog 98 #[t.av.val, .func (.yield l) #[] #[]] W fun e W' =>
        (e = .returned (.bool true) ∧ J (pre ++ preT t) W' ∧ KpN nb W W') ∨ (e = .returned (.bool false) ∧ ∃ q, q <+: preT t ∧ Jx (pre ++ q) W')
set_option maxRecDepth 100000 in
set_option maxHeartbeats 2000000 in
theorem walk_step (l nb N B0 : Nat) (L : List TermG) (J Jx : List TermG → World → Prop) (hJ : AbidesFrom B0 J) (hY : YieldY l nb N L J Jx) (m : Mem) (hm : ∀ b o x, m b o = some x → b ≠ nb) (d : Nat) (hrec : WalkAt l nb N L J Jx m d) : WalkAt l nb N L J Jx m (d + 1) := by
  intro t hd hok hL n pre W hM hnb hJ0 hN
  cases t with
  | mk op tn name ty ha args hc cls =>
    have hne : W.heap.size ≠ nb := by omega
    have hdd : ∀ k : Nat, (Fence.wide.depth.isSome = true → 1 ≤ k) := fun k h => by cases h
    rw [preT] at hL hN ⊢
    have hnt := nodesT_eq (.mk op tn name ty ha args hc cls)
    simp only [TermG.args, TermG.cls] at hnt
    rw [TermG.cs_eq] at hok
    obtain ⟨_, _, _, _, ⟨hdA, okA⟩, ⟨hdC, okC⟩, _⟩ := hok
    simp only [TermG.ha, TermG.hc, TermG.args, TermG.cls] at hdA okA hdC okC
    have hval : (TermG.mk op tn name ty ha args hc cls).av.val = .agg #[.int .i64 op, .int .i64 tn, .string (bs name), .int .i64 ty, ha, hc] := by
      simp only [TermG.av, AV.val, TermG.cs_eq, AV.vals, TermG.op, TermG.n, TermG.name, TermG.ty, TermG.ha, TermG.hc]
    have hdA' := hdA
    have hdC' := hdC
    obtain ⟨aA, capA, eA, hcA, hxA, _, _⟩ := hdA
    obtain ⟨aC, capC, eC, hcC, hxC, _, _⟩ := hdC
    rw [AV.vals_length, List.length_map] at eA hcA eC hcC
    subst eA eC
    obtain ⟨W1, hW1⟩ : ∃ W1, W.alloc (.cells #[.int .i64 op, .int .i64 tn, .string (bs name), .int .i64 ty, .slice aA args.length capA, .slice aC cls.length capC] 41) = W1 := ⟨_, rfl⟩
    have hJ1 : J pre W1 := hW1 ▸ hJ _ _ _ none hJ0 (World.grownBy_alloc W _ none) (fun r e => by cases e)
    obtain ⟨fn, tmps, assign, body, hy, hR⟩ := hY (n - 1) pre (.mk op tn name ty _ args _ cls) _ (hL _ (List.mem_cons_self ..)) hJ1 (by simp at hN; omega)
    rw [hval] at hy
    rw [hval]
    have hk0 : KpN nb W W1 := hW1 ▸ KpN.alloc ..
    have hb0 : W1.cell? ⟨W.heap.size, 0, none⟩ = some (.int .i64 op) := hW1 ▸ cell_box rfl
    have hb1 : W1.cell? ⟨W.heap.size, 1, none⟩ = some (.int .i64 tn) := hW1 ▸ cell_box rfl
    have hb2 : W1.cell? ⟨W.heap.size, 2, none⟩ = some (.string (bs name)) := hW1 ▸ cell_box rfl
    have hb3 : W1.cell? ⟨W.heap.size, 3, none⟩ = some (.int .i64 ty) := hW1 ▸ cell_box rfl
    have hb4 : W1.cell? ⟨W.heap.size, 4, none⟩ = some (.slice aA args.length capA) := hW1 ▸ cell_box rfl
    have hb5 : W1.cell? ⟨W.heap.size, 5, none⟩ = some (.slice aC cls.length capC) := hW1 ▸ cell_box rfl
    refine callsIn_of_wp Tryz.func98 rfl trivial ?_ rfl
    simp only [Tryz.ntmps98, List.size_toArray, List.length_cons, List.length_nil, Nat.reduceAdd, Nat.reduceSub, Array.replicate_succ, Array.replicate_zero, List.push_toArray, List.append_toArray, List.nil_append, List.cons_append]
    gi_wp2
    refine ⟨hdd _, ?_⟩
    refine hR.mono ?_
    clear hR
    rintro e W2 (⟨rfl, hJ2, hk2⟩ | ⟨rfl, hx2⟩)
    · have hb4' := hk2.cell hne hb4
      have hb5' := hk2.cell hne hb5
      gi_wp2
      gi_loopw [16] (fun i wr => ∃ k : Nat, k ≤ args.length ∧ i = .int .i64 k ∧ J (pre ++ (.mk op tn name ty (.slice aA args.length capA) args (.slice aC cls.length capC) cls :: preA (args.take k))) wr ∧ KpN nb W1 wr)
        (fun i _ => args.length - (Go.RowKit.intOf i).toNat)
      case atStart => exact ⟨0, Nat.zero_le _, rfl, by simpa [preA] using hJ2, hk2⟩
      case round =>
        obtain ⟨k, hk, rfl, hJs, hkr⟩ := hrel
        have hb5r := hkr.cell hne hb5
        by_cases hlt : k < args.length
        · have hwk : wrap64 ((k : Int) + 1) = (k : Int) + 1 := IntWalk.wrap64_in _ (by simp only [maxLen] at hxA; omega)
          obtain ⟨a, hak⟩ : ∃ a, args[k]? = some a := ⟨_, List.getElem?_eq_getElem hlt⟩
          obtain ⟨b, off, rfl, hcell⟩ := elem_cells hdA' hak
          have hMr := (hM.kp hm hk0).kp hm hkr
          obtain ⟨aop, an, aname, aty, aha, aargs, ahc, acls⟩ := a
          have hlt2 := nodesA_mem (List.mem_of_getElem? hak)
          have okA1 := (AV.oks_iff m _).1 okA _ (List.mem_map_of_mem (List.mem_of_getElem? hak))
          have avl : (TermG.mk aop an aname aty aha aargs ahc acls).av.val = .agg #[.int .i64 aop, .int .i64 an, .string (bs aname), .int .i64 aty, aha, ahc] := by
            simp only [TermG.av, AV.val, TermG.cs_eq, AV.vals, TermG.op, TermG.n, TermG.name, TermG.ty, TermG.ha, TermG.hc]
          have okA2 : AV.oks m (TermG.mk aop an aname aty aha aargs ahc acls).cs := okA1
          have okA3 := okA2
          rw [TermG.cs_eq] at okA3
          obtain ⟨_, _, _, _, ⟨⟨p4, c4, q4, _, _, _, _⟩, _⟩, ⟨⟨p5, c5, q5, _, _, _, _⟩, _⟩, _⟩ := okA3
          simp only [TermG.ha, TermG.hc, TermG.args, TermG.cls, AV.vals_length, List.length_map] at q4 q5
          subst q4 q5
          rw [avl] at hcell
          have e0 : wr.cell? ⟨b, off + k * 6, none⟩ = some (.int .i64 aop) := hMr _ _ _ (hcell 0 _ rfl)
          have e1 : wr.cell? ⟨b, off + k * 6 + 1, none⟩ = some (.int .i64 an) := hMr _ _ _ (hcell 1 _ rfl)
          have e2 : wr.cell? ⟨b, off + k * 6 + 2, none⟩ = some (.string (bs aname)) := hMr _ _ _ (hcell 2 _ rfl)
          have e3 : wr.cell? ⟨b, off + k * 6 + 3, none⟩ = some (.int .i64 aty) := hMr _ _ _ (hcell 3 _ rfl)
          have e4 : wr.cell? ⟨b, off + k * 6 + 4, none⟩ = some (.slice p4 aargs.length c4) := hMr _ _ _ (hcell 4 _ rfl)
          have e5 : wr.cell? ⟨b, off + k * 6 + 5, none⟩ = some (.slice p5 acls.length c5) := hMr _ _ _ (hcell 5 _ rfl)
          have hlen2 := preA_len hak
          have hJr := hJ _ _ (wr.alloc (.cells #[.int .i64 aop, .int .i64 an, .string (bs aname), .int .i64 aty, .slice p4 aargs.length c4, .slice p5 acls.length c5] 41)) none hJs (World.grownBy_alloc wr _ none) (fun r e => by cases e)
          have hkr2 := hkr.trans (KpN.alloc nb wr (.cells #[.int .i64 aop, .int .i64 an, .string (bs aname), .int .i64 aty, .slice p4 aargs.length c4, .slice p5 acls.length c5] 41))
          have hc := hrec _ (by omega) okA2 (fun x hx => hL x (List.mem_cons_of_mem _ (List.mem_append_left _ (preA_mem hak hx)))) (n - 1) _ _ ((hM.kp hm hk0).kp hm hkr2) (by have := hkr2.1; have := hk0.1; omega) hJr (by simp only [List.length_append, List.length_cons] at hN ⊢; omega)
          rw [avl] at hc
          gi_wp2
          refine ⟨trivial, hdd _, hc.mono ?_⟩
          clear hc
          rintro e W3 (⟨rfl, hJ3, hk3⟩ | ⟨rfl, q, ⟨q2, hq⟩, hx3⟩)
          · gi_wp2
            go_roundw
            case rel => exact ⟨k + 1, by omega, by simp [hwk], by rw [preA_take hak]; simpa using hJ3, hkr2.trans hk3⟩
            case measure => exact meas_up hlt hwk
          · gi_wp2
            refine bodyPost_ret (results_tmp rfl _ _ _) rfl ?_
            refine .inr ⟨rfl, _ :: (preA (args.take k) ++ q), ?_, by simpa using hx3⟩
            have e := List.take_append_drop (k + 1) args
            refine ⟨q2 ++ preA (args.drop (k + 1)) ++ preC cls, ?_⟩
            conv => rhs; rw [← e, preA_app, preA_take hak, ← hq]
            simp
        · obtain rfl : k = args.length := by omega
          rw [List.take_length] at hJs
          gi_wp2
          gi_loopw [28] (fun i wr => ∃ k : Nat, k ≤ cls.length ∧ i = .int .i64 k ∧ J (pre ++ (.mk op tn name ty (.slice aA args.length capA) args (.slice aC cls.length capC) cls :: (preA args ++ preC (cls.take k)))) wr ∧ KpN nb W1 wr)
            (fun i _ => cls.length - (Go.RowKit.intOf i).toNat)
          case atStart => exact ⟨0, Nat.zero_le _, rfl, by simpa [preC] using hJs, hkr⟩
          case round =>
            clear hkr hJs hb5r
            obtain ⟨k, hk, rfl, hJs, hkr⟩ := hrel
            by_cases hlt : k < cls.length
            · have hwk : wrap64 ((k : Int) + 1) = (k : Int) + 1 := IntWalk.wrap64_in _ (by simp only [maxLen] at hxC; omega)
              obtain ⟨c, hck⟩ : ∃ c, cls[k]? = some c := ⟨_, List.getElem?_eq_getElem hlt⟩
              obtain ⟨b, off, rfl, hcell⟩ := elem_cells hdC' hck
              have hMr := (hM.kp hm hk0).kp hm hkr
              obtain ⟨chn, cns, bop, bn, bname, bty, bha, bargs, bhc, bcls⟩ := c
              have hlt2 := nodesC_mem (List.mem_of_getElem? hck)
              simp only [ClauseG.body] at hlt2
              have okC1 : AV.oks m (ClauseG.mk chn cns (.mk bop bn bname bty bha bargs bhc bcls)).cs := (AV.oks_iff m _).1 okC _ (List.mem_map_of_mem (List.mem_of_getElem? hck))
              rw [ClauseG.cs_eq] at okC1
              simp only [ClauseG.hn, ClauseG.names, ClauseG.body, TermG.op, TermG.n, TermG.name, TermG.ty, TermG.ha, TermG.hc, TermG.args, TermG.cls] at okC1
              have okB : AV.oks m (TermG.mk bop bn bname bty bha bargs bhc bcls).cs := by rw [TermG.cs_eq]; exact okC1.2
              obtain ⟨⟨⟨p0, c0, q0, _, _, _, _⟩, _⟩, _, _, _, _, ⟨⟨p4, c4, q4, _, _, _, _⟩, _⟩, ⟨⟨p5, c5, q5, _, _, _, _⟩, _⟩, _⟩ := okC1
              simp only [AV.vals_length, List.length_map] at q0 q4 q5
              subst q0 q4 q5
              have avl : (ClauseG.mk (.slice p0 cns.length c0) cns (.mk bop bn bname bty (.slice p4 bargs.length c4) bargs (.slice p5 bcls.length c5) bcls)).av.val = .agg #[.slice p0 cns.length c0, .int .i64 bop, .int .i64 bn, .string (bs bname), .int .i64 bty, .slice p4 bargs.length c4, .slice p5 bcls.length c5] := by
                simp only [ClauseG.av, AV.val, ClauseG.cs_eq, AV.vals, ClauseG.hn, ClauseG.names, ClauseG.body, TermG.op, TermG.n, TermG.name, TermG.ty, TermG.ha, TermG.hc]
              have avb : (TermG.mk bop bn bname bty (.slice p4 bargs.length c4) bargs (.slice p5 bcls.length c5) bcls).av.val = .agg #[.int .i64 bop, .int .i64 bn, .string (bs bname), .int .i64 bty, .slice p4 bargs.length c4, .slice p5 bcls.length c5] := by
                simp only [TermG.av, AV.val, TermG.cs_eq, AV.vals, TermG.op, TermG.n, TermG.name, TermG.ty, TermG.ha, TermG.hc]
              rw [avl] at hcell
              have e0 : wr.cell? ⟨b, off + k * 7, none⟩ = some (.slice p0 cns.length c0) := hMr _ _ _ (hcell 0 _ rfl)
              have e1 : wr.cell? ⟨b, off + k * 7 + 1, none⟩ = some (.int .i64 bop) := hMr _ _ _ (hcell 1 _ rfl)
              have e2 : wr.cell? ⟨b, off + k * 7 + 2, none⟩ = some (.int .i64 bn) := hMr _ _ _ (hcell 2 _ rfl)
              have e3 : wr.cell? ⟨b, off + k * 7 + 3, none⟩ = some (.string (bs bname)) := hMr _ _ _ (hcell 3 _ rfl)
              have e4 : wr.cell? ⟨b, off + k * 7 + 4, none⟩ = some (.int .i64 bty) := hMr _ _ _ (hcell 4 _ rfl)
              have e5 : wr.cell? ⟨b, off + k * 7 + 5, none⟩ = some (.slice p4 bargs.length c4) := hMr _ _ _ (hcell 5 _ rfl)
              have e6 : wr.cell? ⟨b, off + k * 7 + 6, none⟩ = some (.slice p5 bcls.length c5) := hMr _ _ _ (hcell 6 _ rfl)
              have hlen2 := preC_len hck
              simp only [ClauseG.body] at hlen2
              have hJr := hJ _ _ (wr.alloc (.cells #[.slice p0 cns.length c0, .int .i64 bop, .int .i64 bn, .string (bs bname), .int .i64 bty, .slice p4 bargs.length c4, .slice p5 bcls.length c5] 96)) none hJs (World.grownBy_alloc wr _ none) (fun r e => by cases e)
              have hkr2 := hkr.trans (KpN.alloc nb wr (.cells #[.slice p0 cns.length c0, .int .i64 bop, .int .i64 bn, .string (bs bname), .int .i64 bty, .slice p4 bargs.length c4, .slice p5 bcls.length c5] 96))
              have hc := hrec _ (by omega) okB (fun x hx => hL x (List.mem_cons_of_mem _ (List.mem_append_right _ (preC_mem hck hx)))) (n - 1) _ _ ((hM.kp hm hk0).kp hm hkr2) (by have := hkr2.1; have := hk0.1; omega) hJr (by simp only [List.length_append, List.length_cons] at hN ⊢; omega)
              rw [avb] at hc
              gi_wp2
              refine ⟨trivial, hdd _, hc.mono ?_⟩
              clear hc
              rintro e W3 (⟨rfl, hJ3, hk3⟩ | ⟨rfl, q, ⟨q2, hq⟩, hx3⟩)
              · gi_wp2
                go_roundw
                case rel => exact ⟨k + 1, by omega, by simp [hwk], by rw [preC_take hck]; simpa [ClauseG.body] using hJ3, hkr2.trans hk3⟩
                case measure => exact meas_up hlt hwk
              · gi_wp2
                refine bodyPost_ret (results_tmp rfl _ _ _) rfl ?_
                refine .inr ⟨rfl, _ :: (preA args ++ (preC (cls.take k) ++ q)), ?_, by simpa using hx3⟩
                have e := List.take_append_drop (k + 1) cls
                refine ⟨q2 ++ preC (cls.drop (k + 1)), ?_⟩
                have hq' : preT (ClauseG.mk (.slice p0 cns.length c0) cns (.mk bop bn bname bty (.slice p4 bargs.length c4) bargs (.slice p5 bcls.length c5) bcls)).body = q ++ q2 := hq.symm
                conv => rhs; rw [← e, preC_app, preC_take hck, hq']
                simp
            · obtain rfl : k = cls.length := by omega
              rw [List.take_length] at hJs
              gi_wp2
              refine bodyPost_ret (results_tmp rfl _ _ _) rfl ?_
              exact .inl ⟨rfl, hJs, hk0.trans hkr⟩
    · gi_wp2
      refine bodyPost_ret (results_tmp rfl _ _ _) rfl ?_
      exact .inr ⟨rfl, [_], ⟨_, rfl⟩, hx2⟩
theorem walkAll_in (l nb N B0 : Nat) (L : List TermG) (J Jx : List TermG → World → Prop) (hJ : AbidesFrom B0 J) (hY : YieldY l nb N L J Jx) (m : Mem) (hm : ∀ b o x, m b o = some x → b ≠ nb) : ∀ d, WalkAt l nb N L J Jx m d
  | 0 => fun t hd => by have := nodesT_pos t; omega
  | d + 1 => walk_step l nb N B0 L J Jx hJ hY m hm d (walkAll_in l nb N B0 L J Jx hJ hY m hm d)
end Go.Proofs.YtppoacgeiooppaaGreat
/- Subterms: a value that gives the subterms of a term. -/
namespace Go.Proofs.YtppoacgeiooppaaGreat
open Go.AL Go.RowKit Go.Shelf
attribute [local go_sem] Oper.semAt_some

theorem lt_of_cell {W : World} {b o : Nat} {x : Value} (h : W.cell? ⟨b, o, none⟩ = some x) : b < W.heap.size := by
  unfold World.cell? at h
  simp only at h
  cases ho : W.heap[b]? with
  | none => rw [ho] at h; cases h
  | some ob => exact (Array.getElem?_eq_some_iff.1 ho).1
theorem below_cell {A B : World} (h : Below A.heap.size A B) {b o : Nat} {x : Value} (hx : A.cell? ⟨b, o, none⟩ = some x) : B.cell? ⟨b, o, none⟩ = some x :=
  (h.cell (p := ⟨b, o, none⟩) (lt_of_cell hx)).trans hx
theorem yield_any {m : Nat} {P : Program} {l : Nat} {args : Array Value} {W : World} {R : Ending → World → Prop} (h : YieldAt Fence.wide m P l args W R) (m' : Nat) : YieldAt Fence.wide m' P l args W R := by
  obtain ⟨fn, tmps, assign, body, hy, hR⟩ := h
  exact ⟨fn, tmps, assign, body, hy, hR.1, fun c cs _ => hR.2 c cs (fun d h => by cases h)⟩
abbrev Sub (t : TermG) := { x : TermG // x ∈ preT t }
set_option maxRecDepth 100000 in
set_option maxHeartbeats 2000000 in
theorem sub1_in (l nb N B0 : Nat) (L : List TermG) (J Jx : List TermG → World → Prop) (hJ : AbidesFrom B0 J) (hY : YieldY l nb N L J Jx) (m : Mem) (hm : ∀ b o x, m b o = some x → b ≠ nb)
    (t : TermG) (hok : AV.oks m t.cs) (hL : ∀ x ∈ preT t, x ∈ L) (n Bt : Nat) (W : World) (hM : HoldsM m W) (hnb : nb < W.heap.size) (hJ0 : J [] W) (hN : (preT t).length ≤ N) (hBt : RefOk (fun b o => W.cell? ⟨b, o, none⟩) (.pointer (some ⟨Bt, 0, none⟩)) (AV.vals t.cs)) :
    CallsIn Fence.wide n Tryz.prog 97 #[.func (.yield l) #[] #[], .pointer (some ⟨Bt, 0, none⟩)] W fun e W' => (∃ v, e = .returned v) ∧ (J (preT t) W' ∨ ∃ q, q <+: preT t ∧ Jx q W') := by
  have hdd : ∀ k : Nat, (Fence.wide.depth.isSome = true → 1 ≤ k) := fun k h => by cases h
  have hc := walkAll_in l nb N B0 L J Jx hJ hY m hm (nodesT t) t (Nat.le_refl _) hok hL (n - 1) [] W hM hnb hJ0 (by simpa using hN)
  obtain ⟨op, tn, name, ty, ha, args, hcl, cls⟩ := t
  have okA3 := hok
  rw [TermG.cs_eq] at okA3 hBt
  obtain ⟨_, _, _, _, ⟨⟨p4, c4, q4, _, _, _, _⟩, _⟩, ⟨⟨p5, c5, q5, _, _, _, _⟩, _⟩, _⟩ := okA3
  simp only [TermG.ha, TermG.hc, TermG.args, TermG.cls, AV.vals_length, List.length_map] at q4 q5
  subst q4 q5
  have avl : (TermG.mk op tn name ty (.slice p4 args.length c4) args (.slice p5 cls.length c5) cls).av.val = .agg #[.int .i64 op, .int .i64 tn, .string (bs name), .int .i64 ty, .slice p4 args.length c4, .slice p5 cls.length c5] := by
    simp only [TermG.av, AV.val, TermG.cs_eq, AV.vals, TermG.op, TermG.n, TermG.name, TermG.ty, TermG.ha, TermG.hc]
  rw [avl] at hc
  simp only [AV.vals, AV.val, TermG.op, TermG.n, TermG.name, TermG.ty, TermG.ha, TermG.hc] at hBt
  obtain ⟨b, off, e, hcell⟩ := hBt
  cases e
  have e0 : W.cell? ⟨Bt, 0, none⟩ = some (.int .i64 op) := hcell 0 _ rfl
  have e1 : W.cell? ⟨Bt, 1, none⟩ = some (.int .i64 tn) := hcell 1 _ rfl
  have e2 : W.cell? ⟨Bt, 2, none⟩ = some (.string (bs name)) := hcell 2 _ rfl
  have e3 : W.cell? ⟨Bt, 3, none⟩ = some (.int .i64 ty) := hcell 3 _ rfl
  have e4 : W.cell? ⟨Bt, 4, none⟩ = some (.slice p4 args.length c4) := hcell 4 _ rfl
  have e5 : W.cell? ⟨Bt, 5, none⟩ = some (.slice p5 cls.length c5) := hcell 5 _ rfl
  clear hcell
  refine callsIn_of_wp Tryz.func97 rfl trivial ?_ rfl
  simp only [Tryz.ntmps97, List.size_toArray, List.length_cons, List.length_nil, Nat.reduceAdd, Nat.reduceSub, Array.replicate_succ, Array.replicate_zero, List.push_toArray, List.append_toArray, List.nil_append, List.cons_append]
  gi_wp2
  refine ⟨trivial, hdd _, hc.mono ?_⟩
  clear hc
  rintro e W3 (⟨rfl, hJ3, hk3⟩ | ⟨rfl, q, hq, hx3⟩)
  · gi_wp2
    go_end0
    exact ⟨⟨_, rfl⟩, .inl (by simpa using hJ3)⟩
  · gi_wp2
    go_end0
    exact ⟨⟨_, rfl⟩, .inr ⟨q, hq, by simpa using hx3⟩⟩
theorem sub_stops (n Bt nb : Nat) (t : TermG) (m : Mem) (hm : ∀ b o x, m b o = some x → b ≠ nb) (hok : AV.oks m t.cs) (w : World) (hM : HoldsM m w) (hnb : nb < w.heap.size)
    (hBt : RefOk (fun b o => w.cell? ⟨b, o, none⟩) (.pointer (some ⟨Bt, 0, none⟩)) (AV.vals t.cs)) :
    SeqStopsK Fence.wide n Tryz.prog 97 #[.pointer (some ⟨Bt, 0, none⟩)] (fun x : Sub t => #[x.1.av.val]) (KpN nb) (fun xs => xs.map (·.1) = preT t) (fun pre => pre.map (·.1) <+: preT t) (preT t).length w := by
  intro l J Jx W hW hJ hJx hY h0
  have hs := hW.size
  have c := sub1_in l nb (preT t).length W.heap.size (preT t) (fun l W => ∃ la : List (Sub t), la.map (·.1) = l ∧ J la W) (fun l W => ∃ la : List (Sub t), la.map (·.1) = l ∧ Jx la W)
    (fun s A B row h hg hr => by obtain ⟨la, e, h⟩ := h; exact ⟨la, e, hJ _ _ _ _ h hg hr⟩)
    (fun k pre x W1 hx hj hl => by
      obtain ⟨la, rfl, hj⟩ := hj
      refine (yield_any (hY la ⟨x, hx⟩ W1 hj (by simpa using hl)) k).mono fun e W' h => ?_
      rcases h with ⟨he, hj2, hk⟩ | ⟨he, hj2⟩
      · exact .inl ⟨he, ⟨la ++ [⟨x, hx⟩], by simp, hj2⟩, hk⟩
      · exact .inr ⟨he, la ++ [⟨x, hx⟩], by simp, hj2⟩) m hm t hok (fun x hx => hx) n Bt W (fun b o x hx => below_cell hW (hM b o x hx)) (by omega) ⟨[], rfl, h0⟩ (Nat.le_refl _) (by
        obtain ⟨b, off, e, hc⟩ := hBt
        exact ⟨b, off, e, fun j x hx => below_cell hW (hc j x hx)⟩)
  refine c.mono ?_
  rintro e W' ⟨hv, ⟨la, e1, hj⟩ | ⟨q, hq, la, e1, hj⟩⟩
  · exact ⟨hv, .inl ⟨la, e1, hj⟩⟩
  · exact ⟨hv, .inr ⟨la, (by show la.map (·.1) <+: preT t; rw [e1]; exact hq), hj⟩⟩
end Go.Proofs.YtppoacgeiooppaaGreat
/- term.Nodes. -/
namespace Go.Proofs.YtppoacgeiooppaaGreat
open Go.AL Go.RowKit Go.Shelf
attribute [local go_sem] Oper.semAt_some

set_option maxRecDepth 100000 in
theorem subterms_in (n : Nat) (op tn : Int) (name : Bytes) (ty : Int) (p4 p5 : Option Addr) (n4 c4 n5 c5 : Nat) (W : World) :
    CallsIn Fence.wide n Tryz.prog 55 #[.agg #[.int .i64 op, .int .i64 tn, .string (bs name), .int .i64 ty, .slice p4 n4 c4, .slice p5 n5 c5]] W fun e W' =>
      e = .returned (.func (.func 97) #[] #[.pointer (some ⟨W.heap.size, 0, none⟩)]) ∧ W' = W.alloc (.cells #[.int .i64 op, .int .i64 tn, .string (bs name), .int .i64 ty, .slice p4 n4 c4, .slice p5 n5 c5] 41) := by
  refine callsIn_of_wp Tryz.func55 rfl trivial ?_ rfl
  simp only [Tryz.ntmps55, List.size_toArray, List.length_cons, List.length_nil, Nat.reduceAdd, Nat.reduceSub, Array.replicate_succ, Array.replicate_zero, List.push_toArray, List.append_toArray, List.nil_append, List.cons_append]
  gi_wp2
  go_ret
  exact ⟨rfl, rfl⟩
def coll (D : Nat) : Deferred := { target := .collected D, args := #[] }
theorem frozen_box {W : World} {vs : Array Value} {T : TypeId} {j : Nat} : (W.alloc (.cells vs T)).frozen? ⟨W.heap.size, j, none⟩ = false := by
  unfold World.frozen?
  simp only
  rw [World.alloc_heap_new]
  simp
mutual
theorem preT_len : ∀ t : TermG, (preT t).length = nodesT t
  | .mk _ _ _ _ _ args _ cls => by rw [preT, nodesT, List.length_cons, List.length_append, preA_leng args, preC_leng cls]; omega
theorem preA_leng : ∀ l : List TermG, (preA l).length = nodesA l
  | [] => rfl
  | a :: r => by rw [preA, nodesA, List.length_append, preT_len a, preA_leng r]
theorem preC_leng : ∀ l : List ClauseG, (preC l).length = nodesC l
  | [] => rfl
  | .mk _ _ b :: r => by rw [preC, nodesC, nodesB, List.length_append, preT_len b, preC_leng r]
end
theorem KpN.setCell (nb : Nat) (W : World) (v : Value) : KpN nb W (W.setCell ⟨nb, 0, none⟩ v) :=
  ⟨by show W.heap.size ≤ (W.heap.modify _ _).size; rw [Array.size_modify]; exact Nat.le_refl _, fun k o hk h _ => (Below.heap_setCell W ⟨nb, 0, none⟩ v k hk).trans h⟩
theorem ne_def {W : World} {D b o : Nat} {x : Value} {y : Option (List Deferred)} (h : W.cell? ⟨b, o, none⟩ = some x) (h2 : W.heap[D]? = some (.deferred y)) : D ≠ b := by
  rintro rfl
  unfold World.cell? at h
  simp only [h2] at h
  cases h
theorem KpN.put {nb : Nat} {W : World} {l : Nat} {o o' : Obj} (h : W.heap[l]? = some o) (hc : o.isCells = false) : KpN nb W (W.putObj l o') :=
  ⟨by simp, fun k o'' _ hk ho => by
    have e : k ≠ l := by rintro rfl; rw [h] at hk; cases hk; rw [hc] at ho; cases ho
    exact (World.putObj_heap_other e).trans hk⟩
theorem leaves_coll {n : Nat} {P : Program} {fn : Func} {tmps : Array Value} {R : Ending → World → Prop} {v : Value} (hres : ∀ w, (results fn tmps).run P w = .ok v w) (B : Nat) (w0 : World) (hR : ∀ W, Below B w0 W → R (.returned v) W) :
    ∀ (dl : List Nat) (W : World), Below B w0 W → (∀ D ∈ dl, B ≤ D ∧ W.heap[D]? = some (.deferred (some []))) → dl.Nodup → LeavesInM Fence.wide n P fn tmps R (dl.map coll) .returning W
  | [], W, hB, _, _ => ⟨v, hres W, hR W hB⟩
  | D :: dl, W, hB, hD, hnd => by
    obtain ⟨hDB, hDh⟩ := hD D (List.mem_cons_self ..)
    rw [List.nodup_cons] at hnd
    refine ⟨by simp, .inl ⟨D, W.putObj D (.deferred none), rfl, run_takeDeferred hDh, ?_⟩⟩
    refine leaves_coll hres B w0 hR dl _ (hB.trans ((Below.refl B W).grown (grownBy_putObj' W D (.deferred none)) (by have := (Array.getElem?_eq_some_iff.1 hDh).1; omega) (fun k e => by cases e; omega))) (fun E hE => ?_) hnd.2
    obtain ⟨h1, h2⟩ := hD E (List.mem_cons_of_mem _ hE)
    exact ⟨h1, (World.putObj_heap_other (by rintro rfl; exact hnd.1 hE)).trans h2⟩
def nodesF (l : List FunG) : Nat := (l.map fun f => nodesT f.body).sum
theorem nodesF_take {l : List FunG} {k : Nat} {f : FunG} (h : l[k]? = some f) : nodesF (l.take (k + 1)) = nodesF (l.take k) + nodesT f.body := by
  rw [List.take_add_one, h]; simp [nodesF]
theorem nodesF_app (l r : List FunG) : nodesF (l ++ r) = nodesF l + nodesF r := by simp [nodesF]
theorem nodesF_le (l : List FunG) (k : Nat) : nodesF (l.take k) ≤ nodesF l := by
  have := congrArg nodesF (List.take_append_drop k l)
  rw [nodesF_app] at this
  omega
theorem valid_raw (p : ProgG) (hpf : PFit p) (mx : Int) (W : World) (hg : W.cell? ⟨0, 0, none⟩ = some (.int .i64 mx)) (hok : AV.oks (memOf W) [p.av]) (n : Nat) :
    CallsIn Fence.wide n Tryz.prog 38 #[p.av.val] W fun e W' => e = .returned (.bool (progB p)) ∧ Below W.heap.size W W' :=
  callsIn_wide.2 (calls_of_row (r := .v (.bool (progB p))) (args := [p.av]) W hg hok (validP_calls p hpf _ (gok_hp0 mx)))
set_option maxRecDepth 100000 in
set_option maxHeartbeats 2000000 in
theorem nodes_raw (p : ProgG) (hpf : PFit p) (mx : Int) (w : World) (hg : w.cell? ⟨0, 0, none⟩ = some (.int .i64 mx)) (hok : AV.oks (memOf w) [p.av]) (hNo : progB p = true → nodesF p.fs ≤ 1000000) :
    Calls Tryz.prog 24 #[p.av.val] w fun e w' => e = .returned (.tuple #[.int .i64 (if progB p = true then nodesF p.fs else 0), .int .i64 (if progB p = true then 0 else 20)]) ∧ Below w.heap.size w w' := by
  refine (callsIn_wide (n := 3)).1 ?_
  have hdd : ∀ k : Nat, (Fence.wide.depth.isSome = true → 1 ≤ k) := fun k h => by cases h
  obtain ⟨hd, ds, hf, fs⟩ := p
  have hok0 := hok
  obtain ⟨⟨⟨⟨aD, capD, eD, hcD, hxD, _, _⟩, _⟩, ⟨hdF, okF⟩, _⟩, _⟩ := hok
  have hdF' := hdF
  obtain ⟨aF, capF, eF, hcF, hxF, _, _⟩ := hdF
  simp only [AV.vals_length, List.length_map] at eD hcD eF hcF
  subst eD eF
  have avl : (ProgG.mk (.slice aD ds.length capD) ds (.slice aF fs.length capF) fs).av.val = .agg #[.slice aD ds.length capD, .slice aF fs.length capF] := rfl
  obtain ⟨W1, hW1⟩ : ∃ W1, w.alloc (.cells #[.slice aD ds.length capD, .slice aF fs.length capF] 25) = W1 := ⟨_, rfl⟩
  have hB1 : Below w.heap.size w W1 := hW1 ▸ (Below.refl _ w).alloc (Nat.le_refl _) _
  have hb0 : W1.cell? ⟨w.heap.size, 0, none⟩ = some (.slice aD ds.length capD) := hW1 ▸ cell_box rfl
  have hb1 : W1.cell? ⟨w.heap.size, 1, none⟩ = some (.slice aF fs.length capF) := hW1 ▸ cell_box rfl
  have cv := valid_raw (ProgG.mk (.slice aD ds.length capD) ds (.slice aF fs.length capF) fs) hpf mx W1 (below_cell hB1 hg) (AV.oks_mono (fun b o x hx => below_cell hB1 hx) _ hok0) 2
  rw [avl] at cv ⊢
  refine callsIn_of_wp_marks Tryz.func24 rfl trivial ?_ rfl
  simp only [Tryz.ntmps24, List.size_toArray, List.length_cons, List.length_nil, Nat.reduceAdd, Nat.reduceSub, Array.replicate_succ, Array.replicate_zero, List.push_toArray, List.append_toArray, List.nil_append, List.cons_append]
  gi_wp2
  refine ⟨trivial, cv.mono ?_⟩
  clear cv
  rintro e W2 ⟨rfl, hB2⟩
  have hB02 := hB1.trans (hB2.mono hB1.size)
  cases hv : progB (ProgG.mk (.slice aD ds.length capD) ds (.slice aF fs.length capF) fs) with
  | false =>
    gi_wp2
    all_goals exact ⟨_, results_tmp2 rfl _ _ _, rfl, hB02⟩
  | true =>
    have hNo := hNo hv
    have hb1' := below_cell hB2 hb1
    have hB3 : Below W2.heap.size W2 (W2.alloc (.cells #[.int .i64 0] 3)) := (Below.refl _ W2).alloc (Nat.le_refl _) _
    have hb1'' := below_cell hB3 hb1'
    gi_wp2
    obtain ⟨W3, hW3⟩ : ∃ W3, W2.alloc (.cells #[.int .i64 0] 3) = W3 := ⟨_, rfl⟩
    have hn : W3.cell? ⟨W2.heap.size, 0, none⟩ = some (.int .i64 0) := hW3 ▸ cell_box rfl
    have hfz : W3.frozen? ⟨W2.heap.size, 0, none⟩ = false := hW3 ▸ frozen_box
    rw [hW3] at hB3 hb1'' ⊢
    refine wpIn_loop (fun a W => ∃ (k : Nat) (dl : List Nat) (v6 v14 v15 v16 v17 v18 v19 v23 : Value), k ≤ fs.length ∧
        a = { tmps := #[.agg #[.slice aD ds.length capD, .slice aF fs.length capF], .pointer (some ⟨w.heap.size, 0, none⟩), .int .i64 0, .int .i64 0, .pointer (some ⟨W2.heap.size, 0, none⟩), undef, v6, .agg #[.slice aD ds.length capD, .slice aF fs.length capF], .bool true, .bool false, .pointer (some ⟨w.heap.size, 1, none⟩), .slice aF fs.length capF, .int .i64 fs.length, .int .i64 k, v14, v15, v16, v17, v18, v19, undef, undef, undef, v23, undef], defers := dl.map coll } ∧
        W.cell? ⟨W2.heap.size, 0, none⟩ = some (.int .i64 (nodesF (fs.take k))) ∧ W.frozen? ⟨W2.heap.size, 0, none⟩ = false ∧ Below W2.heap.size W2 W ∧ (∀ D ∈ dl, W2.heap.size ≤ D ∧ W.heap[D]? = some (.deferred (some []))) ∧ dl.Nodup)
      (fun a _ => fs.length - (Go.RowKit.intOf (a.tmps[13]?.getD undef)).toNat) ⟨0, [], undef, undef, undef, undef, undef, undef, undef, undef, Nat.zero_le _, rfl, hn, hfz, hB3, (fun D h => by cases h), List.nodup_nil⟩ ?_
    rintro a W ⟨k, dl, v6, v14, v15, v16, v17, v18, v19, v23, hk, rfl, hcn, hfn, hB4, hD, hnd⟩
    by_cases hlt : k < fs.length
    · obtain ⟨f, hfk⟩ : ∃ f, fs[k]? = some f := ⟨_, List.getElem?_eq_getElem hlt⟩
      obtain ⟨b, off, rfl, hcell⟩ := elem_cells hdF' hfk
      have hBw : Below w.heap.size w W := hB02.trans (hB4.mono hB02.size)
      have hMW : HoldsM (memOf w) W := fun b o x hx => below_cell hBw hx
      have hwk : wrap64 ((k : Int) + 1) = (k : Int) + 1 := IntWalk.wrap64_in _ (by simp only [maxLen] at hxF; omega)
      obtain ⟨fname, fhp, fparams, fres, ⟨bop, bn, bname, bty, bha, bargs, bhc, bcls⟩⟩ := f
      have okf : AV.oks (memOf w) (FunG.mk fname fhp fparams fres (.mk bop bn bname bty bha bargs bhc bcls)).cs := (AV.oks_iff _ _).1 okF _ (List.mem_map_of_mem (List.mem_of_getElem? hfk))
      simp only [FunG.cs, paramsAV, TermG.op, TermG.n, TermG.name, TermG.ty, TermG.ha, TermG.hc, TermG.args, TermG.cls] at okf
      have okB : AV.oks (memOf w) (TermG.mk bop bn bname bty bha bargs bhc bcls).cs := by rw [TermG.cs_eq]; exact okf.2.2.2
      obtain ⟨_, ⟨⟨p1, c1, q1, _, _, _, _⟩, _⟩, _, _, _, _, _, ⟨⟨p4, c4, q4, _, _, _, _⟩, _⟩, ⟨⟨p5, c5, q5, _, _, _, _⟩, _⟩, _⟩ := okf
      simp only [AV.vals_length, List.length_map] at q1 q4 q5
      subst q1 q4 q5
      have avl : (FunG.mk fname (.slice p1 fparams.length c1) fparams fres (.mk bop bn bname bty (.slice p4 bargs.length c4) bargs (.slice p5 bcls.length c5) bcls)).av.val = .agg #[.string (bs fname), .slice p1 fparams.length c1, .int .i64 fres, .int .i64 bop, .int .i64 bn, .string (bs bname), .int .i64 bty, .slice p4 bargs.length c4, .slice p5 bcls.length c5] := by
        simp only [FunG.av, AV.val, FunG.cs, paramsAV, AV.vals, TermG.op, TermG.n, TermG.name, TermG.ty, TermG.ha, TermG.hc]
      rw [avl] at hcell
      have e0 : W.cell? ⟨b, off + k * 9, none⟩ = some (.string (bs fname)) := hMW _ _ _ (hcell 0 _ rfl)
      have e1 : W.cell? ⟨b, off + k * 9 + 1, none⟩ = some (.slice p1 fparams.length c1) := hMW _ _ _ (hcell 1 _ rfl)
      have e2 : W.cell? ⟨b, off + k * 9 + 2, none⟩ = some (.int .i64 fres) := hMW _ _ _ (hcell 2 _ rfl)
      have e3 : W.cell? ⟨b, off + k * 9 + 3, none⟩ = some (.int .i64 bop) := hMW _ _ _ (hcell 3 _ rfl)
      have e4 : W.cell? ⟨b, off + k * 9 + 4, none⟩ = some (.int .i64 bn) := hMW _ _ _ (hcell 4 _ rfl)
      have e5 : W.cell? ⟨b, off + k * 9 + 5, none⟩ = some (.string (bs bname)) := hMW _ _ _ (hcell 5 _ rfl)
      have e6 : W.cell? ⟨b, off + k * 9 + 6, none⟩ = some (.int .i64 bty) := hMW _ _ _ (hcell 6 _ rfl)
      have e7 : W.cell? ⟨b, off + k * 9 + 7, none⟩ = some (.slice p4 bargs.length c4) := hMW _ _ _ (hcell 7 _ rfl)
      have e8 : W.cell? ⟨b, off + k * 9 + 8, none⟩ = some (.slice p5 bcls.length c5) := hMW _ _ _ (hcell 8 _ rfl)
      have cs := subterms_in 2 bop bn bname bty p4 p5 bargs.length c4 bcls.length c5 (W.alloc (.cells #[.string (bs fname), .slice p1 fparams.length c1, .int .i64 fres, .int .i64 bop, .int .i64 bn, .string (bs bname), .int .i64 bty, .slice p4 bargs.length c4, .slice p5 bcls.length c5] 71))
      gi_wp2
      refine ⟨trivial, cs.mono ?_⟩
      clear cs
      rintro e WB ⟨rfl, hWB⟩
      have hBB : Below W.heap.size W WB := hWB ▸ ((Below.refl _ W).alloc (Nat.le_refl _) _).alloc (by simp) _
      have hsz : WB.heap.size = W.heap.size + 2 := by rw [hWB]; simp
      have hcnB := below_cell hBB hcn
      have hRef : RefOk (fun b o => WB.cell? ⟨b, o, none⟩) (.pointer (some ⟨W.heap.size + 1, 0, none⟩)) (AV.vals (TermG.mk bop bn bname bty (.slice p4 bargs.length c4) bargs (.slice p5 bcls.length c5) bcls).cs) := by
        refine ⟨_, _, rfl, fun j x hx => ?_⟩
        rw [TermG.cs_eq] at hx
        simp only [AV.vals, AV.val, TermG.op, TermG.n, TermG.name, TermG.ty, TermG.ha, TermG.hc] at hx
        have h := cell_box (W := W.alloc (.cells #[.string (bs fname), .slice p1 fparams.length c1, .int .i64 fres, .int .i64 bop, .int .i64 bn, .string (bs bname), .int .i64 bty, .slice p4 bargs.length c4, .slice p5 bcls.length c5] 71)) (vs := #[.int .i64 bop, .int .i64 bn, .string (bs bname), .int .i64 bty, .slice p4 bargs.length c4, .slice p5 bcls.length c5]) (T := 41) (j := j) (x := x) (by simpa using hx)
        rw [World.size_alloc] at h
        rw [hWB, Nat.zero_add]; exact h
      rw [World.size_alloc]
      clear hWB
      gi_wp2
      have hmn : ∀ b o x, memOf w b o = some x → b ≠ W2.heap.size := fun b o x hx => by have := lt_of_cell hx; have := hB02.size; omega
      have hDB : ∀ D ∈ dl, WB.heap[D]? = some (.deferred (some [])) := fun D hd => (hBB.block D ((Array.getElem?_eq_some_iff.1 (hD D hd).2).1)).trans (hD D hd).2
      have hfnB : WB.frozen? ⟨W2.heap.size, 0, none⟩ = false := (hBB.frozen (p := ⟨W2.heap.size, 0, none⟩) (lt_of_cell hcn)).trans hfn
      have hB4B : Below W2.heap.size W2 WB := hB4.trans (hBB.mono hB4.size)
      have hnbW := lt_of_cell hcn
      refine wpIn_rangeFunc_ownF (P := Tryz.prog) rfl (by omega) (gf := 97) (lb := #[.pointer (some ⟨W.heap.size + 1, 0, none⟩)]) rfl trivial (enters_of Tryz.func97 (by kernel_rfl) rfl)
        (sub_stops 2 (W.heap.size + 1) W2.heap.size _ (memOf w) hmn okB WB (fun b o x hx => below_cell hBB (hMW b o x hx)) (by omega) hRef) (fun h k => h.trans k) (fun W l o o' _ h hc _ => KpN.put h hc) (Below.refl _ _) (fun _ => rfl)
        (fun pre W' => W'.cell? ⟨W2.heap.size, 0, none⟩ = some (.int .i64 ((nodesF (fs.take k) + pre.length : Nat) : Int)) ∧ W'.frozen? ⟨W2.heap.size, 0, none⟩ = false ∧ Below W2.heap.size W2 W' ∧ (∀ D ∈ dl, W'.heap[D]? = some (.deferred (some []))))
        (fun _ _ _ => False) ?own (fun _ _ _ _ _ hs _ _ => hs) ⟨by simpa using hcnB, hfnB, hB4B, hDB⟩ (fun x => { tmps := #[.agg #[.slice aD ds.length capD, .slice (some ⟨b, off, none⟩) fs.length capF], .pointer (some ⟨w.heap.size, 0, none⟩), .int .i64 0, .int .i64 0, .pointer (some ⟨W2.heap.size, 0, none⟩), undef, .pointer (some ⟨W.heap.size, 0, none⟩), .agg #[.slice aD ds.length capD, .slice (some ⟨b, off, none⟩) fs.length capF], .bool true, .bool false, .pointer (some ⟨w.heap.size, 1, none⟩), .slice (some ⟨b, off, none⟩) fs.length capF, .int .i64 fs.length, .int .i64 k, .bool true, .pointer (some ⟨b, off + k * 9, none⟩), .agg #[.string (bs fname), .slice p1 fparams.length c1, .int .i64 fres, .int .i64 bop, .int .i64 bn, .string (bs bname), .int .i64 bty, .slice p4 bargs.length c4, .slice p5 bcls.length c5], .pointer (some ⟨W.heap.size, 3, none⟩), .agg #[.int .i64 bop, .int .i64 bn, .string (bs bname), .int .i64 bty, .slice p4 bargs.length c4, .slice p5 bcls.length c5], .func (.func 97) #[] #[.pointer (some ⟨W.heap.size + 1, 0, none⟩)], x.1.av.val, undef, undef, v23, undef], defers := [] }) ?assign ?body ?done ?stop
      case own =>
        rintro pre A B row ⟨hc', hf', hB', hD'⟩ hg hr
        have hlow : ∀ j, j < WB.heap.size → j < A.heap.size → B.heap[j]? = A.heap[j]? := fun j hj hjA => hg.block j hjA (fun e => by have := (hr j e.symm).1; omega)
        have hcA := lt_of_cell hc'
        refine ⟨(World.cell?_of_block (w := A) (hlow W2.heap.size (by omega) hcA)).trans hc', (World.frozen?_of_block (w := A) (hlow W2.heap.size (by omega) hcA)).trans hf', hB'.grown hg hB'.size (fun j e => by have := (hr j e).1; omega), fun D hd => ?_⟩
        have h1 := (Array.getElem?_eq_some_iff.1 (hDB D hd)).1
        have h2 := (Array.getElem?_eq_some_iff.1 (hD' D hd)).1
        exact (hlow D h1 h2).trans (hD' D hd)
      case assign =>
        intro l x W K hK
        gi_wp2
        simpa using hK
      case body =>
        rintro l pre x W' ⟨hc', hf', hB', hD'⟩ hl
        have hnf := nodesF_take hfk
        have hnl := nodesF_le fs (k + 1)
        rw [preT_len] at hl
        have hw : wrap64 (((nodesF (fs.take k) : Nat) : Int) + (pre.length : Int) + 1) = ((nodesF (fs.take k) + (pre ++ [x]).length : Nat) : Int) := by
          rw [IntWalk.wrap64_in _ (by simp only at hNo hnf; omega), List.length_append]
          simp only [List.length_cons, List.length_nil]; omega
        gi_wp2
        exact ⟨KeepsOthers.setCell _ _ _, KpN.setCell _ _ _, (World.cell?_setCell_same' _ _ _ (by rw [hc']; rfl)).trans (by simp), by rw [World.frozen?_setCell]; exact hf', hB'.setCell (p := ⟨W2.heap.size, 0, none⟩) (Nat.le_refl _) _, fun D hd => (Below.heap_setCell W' _ _ D (ne_def hc' (hD' D hd))).trans (hD' D hd)⟩
      case done =>
        rintro D ys W' hDs hys ⟨hc', hf', hB', hD'⟩ hK
        gi_wp2
        have hnf := nodesF_take hfk
        have hle : ys.length = nodesT (.mk bop bn bname bty (.slice p4 bargs.length c4) bargs (.slice p5 bcls.length c5) bcls) := by rw [← preT_len, ← hys, List.length_map]
        refine ⟨⟨k + 1, D :: dl, _, _, _, _, _, _, _, _, by omega, by rw [hwk]; rfl, by rw [hnf, ← hle]; exact hc', hf', hB', fun E hE => ?_, List.nodup_cons.2 ⟨fun h => ?_, hnd⟩⟩, meas_up hlt hwk⟩
        · rcases List.mem_cons.1 hE with rfl | hE
          · exact ⟨by omega, hK⟩
          · exact ⟨(hD E hE).1, hD' E hE⟩
        · have := (Array.getElem?_eq_some_iff.1 (hDB D h)).1; omega
      case stop =>
        rintro D c pre W' _ _ h _
        exact h.elim
    · obtain rfl : k = fs.length := by omega
      rw [List.take_length] at hcn
      gi_wp2
      all_goals exact leaves_coll (fun w => results_tmp2 rfl _ _ _) W2.heap.size W2 (fun W' hb => ⟨rfl, hB02.trans (hb.mono hB02.size)⟩) dl W hB4 hD hnd
theorem gok_cell {base : Nat} {hp : Hp} {m : Mem} {w : World} (h : HpOk base hp m w) (hg : GOk hp) : ∃ mx, w.cell? ⟨0, 0, none⟩ = some (.int .i64 mx) := by
  obtain ⟨mx, hx⟩ := hg
  obtain ⟨⟨b, off, e, hr⟩, _⟩ := h.gl _ _ hx
  cases e
  exact ⟨mx, h.mem _ _ _ (hr 0 _ rfl)⟩
theorem nodes_calls (p : ProgG) (hpf : PFit p) (hNo : progB p = true → nodesF p.fs ≤ 1000000) (hp : Hp) (hg : GOk hp) : ACalls Tryz.prog 24 [p.av] hp (fun r hp' => r = .tup [.v (.int .i64 (if progB p = true then nodesF p.fs else 0)), .v (.int .i64 (if progB p = true then 0 else 20))] ∧ hp' = hp) := by
  refine acalls_below (callable_of Tryz.func24 (by decide +kernel)) (fun m h => ⟨trivial, trivial, trivial⟩) fun base m w h ho => ?_
  obtain ⟨mx, hx⟩ := gok_cell h hg
  exact nodes_raw p hpf mx w hx (AV.oks_mono (fun b o x hx => h.mem b o x hx) _ ho) hNo
end Go.Proofs.YtppoacgeiooppaaGreat

/- Heaps: graphs that correspond, in plain words. -/
import Derived.Test.YtfdlfcafcjhpmaaCH18
set_option linter.unusedSimpArgs false
set_option linter.unusedVariables false
set_option maxRecDepth 20000
namespace Go.Proofs.Ytfdlfcafcjhpmaa
open Go.AL

/-! ### Two lists, one by one -/
theorem sameL_true {α : Type} {f : α → α → Bool} : ∀ {a b : List α}, sameL f a b = true ↔ a.length = b.length ∧ ∀ (i : Nat) (x y : α), a[i]? = some x → b[i]? = some y → f x y = true
  | [], [] => by simp [sameL]
  | [], _ :: _ => by simp [sameL]
  | _ :: _, [] => by simp [sameL]
  | x :: a, y :: b => by
    rw [sameL, Bool.and_eq_true, sameL_true (a := a) (b := b)]
    constructor
    · rintro ⟨h1, h2, h3⟩
      refine ⟨by simp [h2], fun i u v hu hv => ?_⟩
      cases i with
      | zero => simp only [List.getElem?_cons_zero, Option.some.injEq] at hu hv; subst hu; subst hv; exact h1
      | succ i => rw [List.getElem?_cons_succ] at hu hv; exact h3 i u v hu hv
    · rintro ⟨h1, h2⟩
      exact ⟨h2 0 x y rfl rfl, by simpa using h1, fun i u v hu hv => h2 (i + 1) u v (by rw [List.getElem?_cons_succ]; exact hu) (by rw [List.getElem?_cons_succ]; exact hv)⟩
theorem sameL_swap {α : Type} {f g : α → α → Bool} (h : ∀ x y, f x y = g y x) : ∀ (a b : List α), sameL f a b = sameL g b a
  | [], [] => rfl
  | [], _ :: _ => rfl
  | _ :: _, [] => rfl
  | x :: a, y :: b => by rw [sameL, sameL, h, sameL_swap h a b]
theorem sameL_map {α β : Type} {f : α → α → Bool} {g h : α → β} : ∀ {a b : List α}, sameL f a b = true → (∀ x ∈ a, ∀ y, f x y = true → g x = h y) → a.map g = b.map h
  | [], [], _, _ => rfl
  | [], _ :: _, e, _ => by cases e
  | _ :: _, [], e, _ => by cases e
  | x :: a, y :: b, e, k => by
    rw [sameL, Bool.and_eq_true] at e
    rw [List.map_cons, List.map_cons, k x (List.mem_cons_self ..) y e.1, sameL_map e.2 (fun x hx => k x (List.mem_cons_of_mem _ hx))]
theorem sameL_of_map {α β : Type} {f : α → α → Bool} {g h : α → β} : ∀ {a b : List α}, a.map g = b.map h → (∀ x ∈ a, ∀ y ∈ b, g x = h y → f x y = true) → sameL f a b = true
  | [], [], _, _ => rfl
  | [], _ :: _, e, _ => by cases e
  | _ :: _, [], e, _ => by cases e
  | x :: a, y :: b, e, k => by
    rw [List.map_cons, List.map_cons, List.cons.injEq] at e
    rw [sameL, k x (List.mem_cons_self ..) y (List.mem_cons_self ..) e.1, sameL_of_map e.2 (fun x hx y hy => k x (List.mem_cons_of_mem _ hx) y (List.mem_cons_of_mem _ hy))]; rfl

/-! ### Places -/
theorem place_at {L : List Int} {a : Int} {i : Nat} (hn : L.Nodup) (h : L[i]? = some a) : placeL L a 0 = (i : Int) := by
  obtain ⟨j, h1, h2, _⟩ := placeL_some 0 (List.mem_of_getElem? h)
  have l1 := (List.getElem?_eq_some_iff.1 h2).1
  have hj : j = i := (List.getElem?_inj l1 hn).1 (h2.trans h.symm)
  rw [h1, hj, Nat.zero_add]
theorem place_get {L : List Int} {a : Int} {i : Nat} (h : placeL L a 0 = (i : Int)) : L[i]? = some a := by
  by_cases hm : a ∈ L
  · obtain ⟨j, h1, h2, _⟩ := placeL_some 0 hm
    rw [h1, Nat.zero_add] at h
    rw [← show j = i by omega]; exact h2
  · rw [placeL_none 0 hm] at h; omega
theorem placeL_app : ∀ {L : List Int} (M : List Int) {a : Int} (k : Nat), a ∈ L → placeL (L ++ M) a k = placeL L a k
  | [], _, _, _, h => by cases h
  | x :: L, M, a, k, h => by
    rw [List.cons_append, placeL, placeL]
    by_cases e : x = a
    · rw [if_pos (by simpa using e), if_pos (by simpa using e)]
    · rw [if_neg (by simpa using e), if_neg (by simpa using e), placeL_app M (k + 1) ((List.mem_cons.1 h).resolve_left (Ne.symm e))]
theorem placeL_new : ∀ {L : List Int} (M : List Int) {a : Int} (k : Nat), a ∉ L → placeL (L ++ a :: M) a k = ((k + L.length : Nat) : Int)
  | [], M, a, k, _ => by rw [List.nil_append, placeL, if_pos (by simp)]; rfl
  | x :: L, M, a, k, h => by
    simp only [List.mem_cons, not_or] at h
    rw [List.cons_append, placeL, if_neg (by simpa using Ne.symm h.1), placeL_new M (k + 1) h.2]
    simp only [List.length_cons]; congr 1; omega
theorem place_lt {L : List Int} {a : Int} (h : a ∈ L) : ∃ i : Nat, placeL L a 0 = (i : Int) ∧ i < L.length := by
  obtain ⟨j, h1, h2, _⟩ := placeL_some 0 h
  exact ⟨j, by rw [h1, Nat.zero_add], (List.getElem?_eq_some_iff.1 h2).1⟩
/-- The list, with an address that is met. -/
def meet (P : List Int) (n : Int) : List Int := if P.contains n = true then P else P ++ [n]
theorem place_meet {P : List Int} {n : Int} (M : List Int) : placeL (meet P n ++ M) n 0 = if P.contains n = true then placeL P n 0 else (P.length : Int) := by
  unfold meet
  by_cases h : P.contains n = true
  · rw [if_pos h, if_pos h]; exact placeL_app M 0 (by simpa using h)
  · rw [if_neg h, if_neg h, List.append_assoc, List.singleton_append, placeL_new M 0 (by simpa using h), Nat.zero_add]
theorem place_neg {P : List Int} {n : Int} : P.contains n = false → placeL P n 0 = -1 := fun h => placeL_none 0 (by simpa using h)
theorem meet_iff {P Q : List Int} {n m : Int} (h : P.length = Q.length) (M N : List Int) : placeL (meet P n ++ M) n 0 = placeL (meet Q m ++ N) m 0 ↔ placeL P n 0 = placeL Q m 0 := by
  rw [place_meet, place_meet]
  cases h1 : P.contains n with
  | false =>
    cases h2 : Q.contains m with
    | false => simp only [Bool.false_eq_true, if_false]; rw [place_neg h1, place_neg h2]; simp [h]
    | true =>
      obtain ⟨i, h3, h4⟩ := place_lt (L := Q) (a := m) (by simpa using h2)
      simp only [Bool.false_eq_true, if_false, if_true]; rw [place_neg h1, h3]; omega
  | true =>
    obtain ⟨i, h3, h4⟩ := place_lt (L := P) (a := n) (by simpa using h1)
    cases h2 : Q.contains m with
    | false => simp only [Bool.false_eq_true, if_false, if_true]; rw [place_neg h2, h3]; omega
    | true => simp only [if_true]

/-! ### Words that correspond -/
def pairW (X Y : List Int) (x y : WordG) : Bool := decide (x.ref = y.ref) && ((x.ref || decide (x.n = y.n)) && (!x.ref || decide (placeL X x.n 0 = placeL Y y.n 0)))
def pairO (G H : List ObjG) (X Y : List Int) (x y : Int) : Bool := decide ((origO G x).tag = (origO H y).tag) && sameL (pairW X Y) (origO G x).fs (origO H y).fs
def isoG (G : List ObjG) (a : List WordG) (H : List ObjG) (b : List WordG) : Bool :=
  decide ((reachG G a).length = (reachG H b).length) && (sameL (pairW (reachG G a) (reachG H b)) a b && sameL (pairO G H (reachG G a) (reachG H b)) (reachG G a) (reachG H b))
theorem pairW_swap (X Y : List Int) (x y : WordG) : pairW X Y x y = pairW Y X y x := by
  unfold pairW
  cases hx : x.ref <;> cases hy : y.ref <;> simp [eq_comm]
theorem pairO_swap (G H : List ObjG) (X Y : List Int) (x y : Int) : pairO G H X Y x y = pairO H G Y X y x := by
  unfold pairO
  rw [sameL_swap (pairW_swap X Y)]
  congr 1
  simp [eq_comm]
theorem iso_swap (G : List ObjG) (a : List WordG) (H : List ObjG) (b : List WordG) : isoG G a H b = isoG H b G a := by
  unfold isoG
  rw [sameL_swap (pairW_swap _ _) a b, sameL_swap (pairO_swap G H _ _)]
  congr 1
  simp [eq_comm]
theorem sameL_self {α : Type} {f : α → α → Bool} (h : ∀ x, f x x = true) (a : List α) : sameL f a a = true := by
  induction a with
  | nil => rfl
  | cons x a ih => rw [sameL, h, ih]; rfl
theorem pairW_self (X : List Int) (x : WordG) : pairW X X x x = true := by simp [pairW]
theorem iso_self (G : List ObjG) (a : List WordG) : isoG G a G a = true := by
  unfold isoG
  rw [sameL_self (pairW_self _), sameL_self (fun x => by unfold pairO; rw [sameL_self (pairW_self _)]; simp)]
  simp

/-! ### Words that correspond, when they are met one after the other -/
theorem foundL_cons (P : List Int) (x : WordG) (a : List WordG) : foundL P (x :: a) = foundL (if x.ref = true then meet P x.n else P) a := by
  rw [foundL]
  congr 1
  unfold meet
  cases x.ref <;> cases P.contains x.n <;> simp
def nextL (P : List Int) (x : WordG) : List Int := if x.ref = true then meet P x.n else P
theorem foundL_next (P : List Int) (x : WordG) (a : List WordG) : foundL P (x :: a) = foundL (nextL P x) a := foundL_cons P x a
theorem next_len {P Q : List Int} (h : P.length = Q.length) {x y : WordG} (e : pairW P Q x y = true) : (nextL P x).length = (nextL Q y).length := by
  unfold pairW at e
  simp only [Bool.and_eq_true, Bool.or_eq_true, decide_eq_true_eq, Bool.not_eq_true'] at e
  obtain ⟨e1, -, e3⟩ := e
  unfold nextL
  rw [← e1]
  cases hx : x.ref with
  | false => exact h
  | true =>
    have e4 := e3.resolve_left (by rw [hx]; decide)
    have hc : P.contains x.n = Q.contains y.n := by
      have h1 := placeL_lt P x.n
      have h2 := placeL_lt Q y.n
      rw [e4, h2] at h1
      have := congrArg (!·) h1
      simpa using this.symm
    simp only [if_true, meet]
    rw [← hc]
    cases P.contains x.n <;> simp [h]
theorem pairW_ext {P Q : List Int} (h : P.length = Q.length) (x y : WordG) (M N : List Int) : pairW (nextL P x ++ M) (nextL Q y ++ N) x y = pairW P Q x y := by
  unfold pairW
  cases hx : x.ref with
  | false => simp [hx]
  | true =>
    cases hy : y.ref with
    | false => simp
    | true =>
      simp only [nextL, hx, hy, if_true, Bool.true_or, Bool.true_and, Bool.not_true, Bool.false_or, decide_true]
      exact decide_eq_decide.2 (meet_iff h M N)
/-- The first pair of words that do not correspond ends it. -/
def runW : List Int → List Int → List WordG → List WordG → Bool
  | _, _, [], [] => true
  | P, Q, x :: a, y :: b => pairW P Q x y && runW (nextL P x) (nextL Q y) a b
  | _, _, _, _ => false
theorem runW_len : ∀ (a b : List WordG) (P Q : List Int), P.length = Q.length → runW P Q a b = true → (foundL P a).length = (foundL Q b).length
  | [], [], _, _, h, _ => h
  | [], _ :: _, _, _, _, e => by cases e
  | _ :: _, [], _, _, _, e => by cases e
  | x :: a, y :: b, P, Q, h, e => by
    rw [runW, Bool.and_eq_true] at e
    rw [foundL_next, foundL_next]
    exact runW_len a b _ _ (next_len h e.1) e.2
theorem runW_eq : ∀ (a b : List WordG) (P Q M N : List Int), P.length = Q.length → sameL (pairW (foundL P a ++ M) (foundL Q b ++ N)) a b = runW P Q a b
  | [], [], _, _, _, _, _ => rfl
  | [], _ :: _, _, _, _, _, _ => rfl
  | _ :: _, [], _, _, _, _, _ => rfl
  | x :: a, y :: b, P, Q, M, N, h => by
    rw [sameL, runW, foundL_next, foundL_next]
    obtain ⟨M1, h1⟩ := foundL_pre a (nextL P x)
    obtain ⟨N1, h2⟩ := foundL_pre b (nextL Q y)
    have e1 : pairW (foundL (nextL P x) a ++ M) (foundL (nextL Q y) b ++ N) x y = pairW P Q x y := by
      rw [h1, h2, List.append_assoc, List.append_assoc]; exact pairW_ext h x y _ _
    rw [e1]
    cases e : pairW P Q x y with
    | false => rfl
    | true => rw [runW_eq a b _ _ M N (next_len h e)]
theorem reachF_pre (G : List ObjG) : ∀ (f i : Nat) (L : List Int), ∃ M, reachF G f i L = L ++ M
  | 0, _, L => ⟨[], by simp [reachF]⟩
  | f + 1, i, L => by
    rw [reachF]
    cases L[i]? with
    | none => exact ⟨[], by simp⟩
    | some a =>
      obtain ⟨M, h⟩ := reachF_pre G f (i + 1) (foundL L (origO G a).fs)
      obtain ⟨N, k⟩ := foundL_pre (origO G a).fs L
      exact ⟨N ++ M, by simp only; rw [h, k, List.append_assoc]⟩
theorem rch_pre {G : List ObjG} {roots : List WordG} {i : Nat} {L : List Int} (h : RchI G roots i L) : ∃ M, reachG G roots = L ++ M := by
  obtain ⟨f, _, e⟩ := h.eq
  rw [← e]; exact reachF_pre G f i L
/-- How far a comparison of two graphs has come. -/
structure SameI (G : List ObjG) (a : List WordG) (H : List ObjG) (b : List WordG) (i : Nat) (P Q : List Int) : Prop where
  p : RchI G a i P
  q : RchI H b i Q
  len : P.length = Q.length
  wd : sameL (pairW (reachG G a) (reachG H b)) a b = true
  ob : ∀ j x y, j < i → P[j]? = some x → Q[j]? = some y → pairO G H (reachG G a) (reachG H b) x y = true
section
variable {G H : List ObjG} {a b : List WordG} {i : Nat} {P Q : List Int}
theorem same_start (hv : VW G a) (hw : VW H b) (h : runW [] [] a b = true) : SameI G a H b 0 (foundL [] a) (foundL [] b) := by
  obtain ⟨M, hM⟩ := rch_pre (rch_start hv)
  obtain ⟨N, hN⟩ := rch_pre (rch_start hw)
  exact ⟨rch_start hv, rch_start hw, runW_len a b [] [] rfl h, by rw [hM, hN, runW_eq a b [] [] M N rfl, h], fun j x y hj => absurd hj (Nat.not_lt_zero _)⟩
theorem same_none (hv : VW G a) (hw : VW H b) (h : runW [] [] a b = false) : isoG G a H b = false := by
  obtain ⟨M, hM⟩ := rch_pre (rch_start hv)
  obtain ⟨N, hN⟩ := rch_pre (rch_start hw)
  have : sameL (pairW (reachG G a) (reachG H b)) a b = false := by rw [hM, hN, runW_eq a b [] [] M N rfl, h]
  unfold isoG
  rw [this]; simp
theorem same_obj (hG : Wf G) (hH : Wf H) (s : SameI G a H b i P Q) {x y : Int} (hx : P[i]? = some x) (hy : Q[i]? = some y) :
    pairO G H (reachG G a) (reachG H b) x y = (decide ((origO G x).tag = (origO H y).tag) && runW P Q (origO G x).fs (origO H y).fs) := by
  obtain ⟨M, hM⟩ := rch_pre (rch_step hG s.p hx)
  obtain ⟨N, hN⟩ := rch_pre (rch_step hH s.q hy)
  unfold pairO
  rw [hM, hN, runW_eq _ _ P Q M N s.len]
theorem same_step (hG : Wf G) (hH : Wf H) (s : SameI G a H b i P Q) {x y : Int} (hx : P[i]? = some x) (hy : Q[i]? = some y) (ht : (origO G x).tag = (origO H y).tag) (hr : runW P Q (origO G x).fs (origO H y).fs = true) :
    SameI G a H b (i + 1) (foundL P (origO G x).fs) (foundL Q (origO H y).fs) := by
  refine ⟨rch_step hG s.p hx, rch_step hH s.q hy, runW_len _ _ _ _ s.len hr, s.wd, fun j u v hj hu hv => ?_⟩
  obtain ⟨M, hM⟩ := foundL_pre (origO G x).fs P
  obtain ⟨N, hN⟩ := foundL_pre (origO H y).fs Q
  have i1 := (List.getElem?_eq_some_iff.1 hx).1
  have i2 := (List.getElem?_eq_some_iff.1 hy).1
  rw [hM, List.getElem?_append_left (by omega)] at hu
  rw [hN, List.getElem?_append_left (by omega)] at hv
  rcases Nat.lt_succ_iff_lt_or_eq.1 hj with h | rfl
  · exact s.ob j u v h hu hv
  · rw [hx] at hu; rw [hy] at hv
    obtain rfl := Option.some.inj hu
    obtain rfl := Option.some.inj hv
    rw [same_obj hG hH s hx hy, hr, decide_eq_true ht]; rfl
theorem same_fail (hG : Wf G) (hH : Wf H) (s : SameI G a H b i P Q) {x y : Int} (hx : P[i]? = some x) (hy : Q[i]? = some y) (h : (decide ((origO G x).tag = (origO H y).tag) && runW P Q (origO G x).fs (origO H y).fs) = false) : isoG G a H b = false := by
  obtain ⟨M, hM⟩ := rch_pre s.p
  obtain ⟨N, hN⟩ := rch_pre s.q
  have i1 := (List.getElem?_eq_some_iff.1 hx).1
  have i2 := (List.getElem?_eq_some_iff.1 hy).1
  rw [← same_obj hG hH s hx hy] at h
  have : sameL (pairO G H (reachG G a) (reachG H b)) (reachG G a) (reachG H b) = false := by
    by_cases e : sameL (pairO G H (reachG G a) (reachG H b)) (reachG G a) (reachG H b) = true
    · have := (sameL_true.1 e).2 i x y (by rw [hM, List.getElem?_append_left i1]; exact hx) (by rw [hN, List.getElem?_append_left i2]; exact hy)
      rw [h] at this; cases this
    · simpa using e
  unfold isoG
  rw [this]; simp
theorem same_end (s : SameI G a H b i P Q) (hi : P.length ≤ i) : isoG G a H b = true := by
  have e1 := rch_end s.p hi
  have e2 := rch_end s.q (by rw [← s.len]; exact hi)
  have hl : (reachG G a).length = (reachG H b).length := by rw [← e1, ← e2]; exact s.len
  have hob : sameL (pairO G H (reachG G a) (reachG H b)) (reachG G a) (reachG H b) = true :=
    sameL_true.2 ⟨hl, fun j x y hx hy => s.ob j x y (by have := (List.getElem?_eq_some_iff.1 hx).1; rw [← e1] at this; omega) (by rw [e1]; exact hx) (by rw [e2]; exact hy)⟩
  unfold isoG
  rw [s.wd, hob, hl]; simp
end
end Go.Proofs.Ytfdlfcafcjhpmaa
/- Heaps: collections and graphs that correspond, in plain words. -/
set_option linter.unusedSimpArgs false
set_option linter.unusedVariables false
set_option maxRecDepth 20000
namespace Go.Proofs.Ytfdlfcafcjhpmaa
open Go.AL

theorem endO_take_lt {A : List ObjG} {i j : Nat} (hij : i < j) (hj : j ≤ A.length) : endO (A.take i) < endO (A.take j) := by
  have e : A.take j = A.take i ++ (A.drop i).take (j - i) := by
    rw [← List.take_add]; congr 1; omega
  have h := len_endO ((A.drop i).take (j - i))
  rw [List.length_take, List.length_drop] at h
  rw [e, endO_app]; omega
theorem sizes_take {X Y : List Int} {G H : List ObjG} (h : X.map (fun a => (origO G a).fs.length) = Y.map (fun a => (origO H a).fs.length)) (i : Nat) : endO ((X.take i).map (origO G)) = endO ((Y.take i).map (origO H)) := by
  have h' : X.map (fun a => osz (origO G a)) = Y.map (fun a => osz (origO H a)) := by
    have := congrArg (List.map (fun n => n + 1)) h
    simpa [List.map_map, Function.comp_def, osz] using this
  simp only [endO, List.map_map, Function.comp_def]
  rw [List.map_take, List.map_take, h']
section
variable {X Y : List Int} {G H : List ObjG}
theorem newA_eq (hX : X.Nodup) (hY : Y.Nodup) (hs : X.map (fun a => (origO G a).fs.length) = Y.map (fun a => (origO H a).fs.length)) {n m : Int} (hn : n ∈ X) (h : placeL X n 0 = placeL Y m 0) : newA G X n = newA H Y m := by
  obtain ⟨i, h1, h2⟩ := place_lt hn
  have h3 := place_get h1
  rw [h1] at h
  rw [newA_at hX h3, newA_at hY (place_get h.symm), sizes_take hs]
theorem place_eq (hX : X.Nodup) (hY : Y.Nodup) (hs : X.map (fun a => (origO G a).fs.length) = Y.map (fun a => (origO H a).fs.length)) {n m : Int} (hn : n ∈ X) (hm : m ∈ Y) (h : newA G X n = newA H Y m) : placeL X n 0 = placeL Y m 0 := by
  obtain ⟨i, h1, h2⟩ := place_lt hn
  obtain ⟨j, k1, k2⟩ := place_lt hm
  rw [newA_at hX (place_get h1), newA_at hY (place_get k1), sizes_take hs, List.map_take, List.map_take] at h
  have hl : X.length = Y.length := by have := congrArg List.length hs; simpa using this
  rw [h1, k1]
  rcases Nat.lt_trichotomy i j with hij | rfl | hij
  · have := endO_take_lt (A := Y.map (origO H)) hij (by rw [List.length_map]; omega); omega
  · rfl
  · have := endO_take_lt (A := Y.map (origO H)) hij (by rw [List.length_map]; omega); omega
end
theorem mvWord_ref (G : List ObjG) (L : List Int) (w : WordG) : (mvWord G L w).ref = w.ref := by
  unfold mvWord
  split
  · next h => rw [h]
  · rfl
theorem mvWord_n {G : List ObjG} {L : List Int} {w : WordG} (h : w.ref = true) : (mvWord G L w).n = (newA G L w.n : Int) := by
  rw [mvWord, if_pos h]
theorem mvWord_id {G : List ObjG} {L : List Int} {w : WordG} (h : w.ref = false) : mvWord G L w = w := by
  rw [mvWord, h]; simp
theorem word_ext {x y : WordG} (h1 : x.ref = y.ref) (h2 : x.n = y.n) : x = y := by cases x; cases y; simp_all

/-- Two graphs correspond if and only if their collections are equal. -/
theorem iso_coll {G H : List ObjG} {a b : List WordG} (hG : Wf G) (hH : Wf H) (ha : VW G a) (hb : VW H b) : isoG G a H b = true ↔ collR G a = collR H b ∧ collG G a = collG H b := by
  obtain ⟨okX, rtX, clX⟩ := reach_ok hG ha
  obtain ⟨okY, rtY, clY⟩ := reach_ok hH hb
  unfold isoG collR collG
  generalize reachG G a = X at *
  generalize reachG H b = Y at *
  simp only [Bool.and_eq_true, decide_eq_true_eq]
  constructor
  · rintro ⟨hl, hw, ho⟩
    have hs : X.map (fun a => (origO G a).fs.length) = Y.map (fun a => (origO H a).fs.length) := sameL_map ho (fun x _ y e => by
      unfold pairO at e; rw [Bool.and_eq_true] at e; exact (sameL_true.1 e.2).1)
    have key : ∀ x y : WordG, (x.ref = true → x.n ∈ X) → pairW X Y x y = true → mvWord G X x = mvWord H Y y := by
      intro x y hx e
      unfold pairW at e
      simp only [Bool.and_eq_true, Bool.or_eq_true, decide_eq_true_eq, Bool.not_eq_true'] at e
      obtain ⟨e1, e2, e3⟩ := e
      cases hr : x.ref with
      | false =>
        rw [mvWord_id hr, mvWord_id (by rw [← e1]; exact hr)]
        exact word_ext e1 (e2.resolve_left (by rw [hr]; decide))
      | true =>
        refine word_ext (by rw [mvWord_ref, mvWord_ref, e1]) ?_
        rw [mvWord_n hr, mvWord_n (by rw [← e1]; exact hr), newA_eq okX.nd okY.nd hs (hx hr) (e3.resolve_left (by rw [hr]; decide))]
    refine ⟨sameL_map hw (fun x hx y e => key x y (rtX x hx) e), sameL_map ho (fun x hx y e => ?_)⟩
    unfold pairO at e
    rw [Bool.and_eq_true, decide_eq_true_eq] at e
    simp only [mvO, ObjG.mk.injEq]
    exact ⟨e.1, sameL_map e.2 (fun w hw v e => key w v (clX x hx w hw) e)⟩
  · rintro ⟨h1, h2⟩
    have hs : X.map (fun a => (origO G a).fs.length) = Y.map (fun a => (origO H a).fs.length) := by
      have := congrArg (List.map (fun o : ObjG => o.fs.length)) h2
      simpa [List.map_map, Function.comp_def, mvO] using this
    have hl : X.length = Y.length := by have := congrArg List.length hs; simpa using this
    have key : ∀ x y : WordG, (x.ref = true → x.n ∈ X) → (y.ref = true → y.n ∈ Y) → mvWord G X x = mvWord H Y y → pairW X Y x y = true := by
      intro x y hx hy e
      have e1 : x.ref = y.ref := by rw [← mvWord_ref G X x, ← mvWord_ref H Y y, e]
      unfold pairW
      cases hr : x.ref with
      | false =>
        rw [mvWord_id hr, mvWord_id (by rw [← e1]; exact hr)] at e
        subst e
        simp [hr]
      | true =>
        have hr2 : y.ref = true := by rw [← e1]; exact hr
        have e2 := congrArg WordG.n e
        rw [mvWord_n hr, mvWord_n hr2] at e2
        have e3 := place_eq okX.nd okY.nd hs (hx hr) (hy hr2) (by omega)
        simp [hr2, e3]
    refine ⟨hl, sameL_of_map h1 (fun x hx y hy e => key x y (rtX x hx) (rtY y hy) e), sameL_of_map h2 (fun x hx y hy e => ?_)⟩
    simp only [mvO, ObjG.mk.injEq] at e
    unfold pairO
    rw [Bool.and_eq_true, decide_eq_true_eq]
    exact ⟨e.1, sameL_of_map e.2 (fun w hw v hv e => key w v (clX x hx w hw) (clY y hy v hv) e)⟩

/-! ### The collection of a heap -/
theorem newA_inj {G : List ObjG} {X : List Int} (hX : X.Nodup) {n m : Int} (hn : n ∈ X) (hm : m ∈ X) (h : newA G X n = newA G X m) : n = m := by
  have e := place_eq hX hX rfl hn hm h
  obtain ⟨i, h1, _⟩ := place_lt hn
  have h2 := place_get h1
  rw [h1] at e
  have h3 := place_get e.symm
  exact Option.some.inj (h2.symm.trans h3)
theorem coll_at {G : List ObjG} {X : List Int} (hX : X.Nodup) {a : Int} (ha : a ∈ X) : origO (X.map (mvO G X)) ((newA G X a : Nat) : Int) = mvO G X a := by
  obtain ⟨i, hi⟩ := List.getElem?_of_mem ha
  have hs : X.map (mvO G X) = (X.take i).map (mvO G X) ++ mvO G X a :: (X.drop (i + 1)).map (mvO G X) := by
    rw [← List.map_cons, ← List.map_append, ← dropAt hi, List.take_append_drop]
  have := objF_at ((X.take i).map (mvO G X)) (mvO G X a) ((X.drop (i + 1)).map (mvO G X)) 0
  rw [Nat.zero_add, ← hs] at this
  rw [origO, objAt, newA_at hX hi, ← endO_mv, this]; rfl
theorem contains_map {G : List ObjG} {X L : List Int} (hX : X.Nodup) (hL : ∀ a ∈ L, a ∈ X) {n : Int} (hn : n ∈ X) : (L.map fun a => ((newA G X a : Nat) : Int)).contains ((newA G X n : Nat) : Int) = L.contains n := by
  rw [Bool.eq_iff_iff, List.contains_iff_mem, List.contains_iff_mem, List.mem_map]
  constructor
  · rintro ⟨a, ha, e⟩
    rw [← newA_inj (G := G) hX (hL a ha) hn (by omega)]; exact ha
  · intro h; exact ⟨n, h, rfl⟩
theorem foundL_map {G : List ObjG} {X : List Int} (hX : X.Nodup) : ∀ (ws : List WordG) (L : List Int), (∀ a ∈ L, a ∈ X) → (∀ w ∈ ws, w.ref = true → w.n ∈ X) →
    foundL (L.map fun a => ((newA G X a : Nat) : Int)) (ws.map (mvWord G X)) = (foundL L ws).map fun a => ((newA G X a : Nat) : Int)
  | [], _, _, _ => rfl
  | w :: r, L, hL, hw => by
    rw [List.map_cons, foundL_next, foundL_next]
    have h0 := hw w (List.mem_cons_self ..)
    have e : nextL (L.map fun a => ((newA G X a : Nat) : Int)) (mvWord G X w) = (nextL L w).map fun a => ((newA G X a : Nat) : Int) := by
      unfold nextL
      rw [mvWord_ref]
      cases hr : w.ref with
      | false => rfl
      | true =>
        simp only [if_true, meet]
        rw [mvWord_n hr, contains_map hX hL (h0 hr)]
        cases L.contains w.n <;> simp
    rw [e]
    refine foundL_map hX r (nextL L w) (fun a ha => ?_) (fun v hv => hw v (List.mem_cons_of_mem _ hv))
    unfold nextL at ha
    cases hr : w.ref with
    | false => rw [hr] at ha; exact hL a ha
    | true =>
      rw [hr] at ha
      simp only [if_true, meet] at ha
      split at ha
      · exact hL a ha
      · rcases List.mem_append.1 ha with ha | ha
        · exact hL a ha
        · rw [List.mem_singleton] at ha; subst ha; exact h0 hr
theorem reach_coll {G : List ObjG} {r : List WordG} (hG : Wf G) (hr : VW G r) : reachG (collG G r) (collR G r) = (reachG G r).map fun a => ((newA G (reachG G r) a : Nat) : Int) := by
  obtain ⟨okX, rtX, clX⟩ := reach_ok hG hr
  obtain ⟨wf', vw', _⟩ := wf_coll hG hr
  have go : ∀ (f i : Nat) (L : List Int), G.length + 1 ≤ f + i → RchI G r i L → RchI (collG G r) (collR G r) i (L.map fun a => ((newA G (reachG G r) a : Nat) : Int)) →
      ∃ i L', RchI G r i L' ∧ L'.length ≤ i ∧ RchI (collG G r) (collR G r) i (L'.map fun a => ((newA G (reachG G r) a : Nat) : Int)) := by
    intro f
    induction f with
    | zero => intro i L hf h h'; exact ⟨i, L, h, by have := lok_len h.ok; omega, h'⟩
    | succ f ih =>
      intro i L hf h h'
      rcases Nat.lt_or_ge i L.length with hi | hi
      · obtain ⟨a, ha⟩ := some_at' L i hi
        obtain ⟨M, hM⟩ := rch_pre h
        have haX : a ∈ reachG G r := by rw [hM]; exact List.mem_append_left _ (List.mem_of_getElem? ha)
        have hstep := rch_step wf' h' (a := ((newA G (reachG G r) a : Nat) : Int)) (by rw [List.getElem?_map, ha]; rfl)
        rw [show collG G r = (reachG G r).map (mvO G (reachG G r)) from rfl, coll_at okX.nd haX, show (mvO G (reachG G r) a).fs = (origO G a).fs.map (mvWord G (reachG G r)) from rfl,
          foundL_map okX.nd _ L (fun b hb => by rw [hM]; exact List.mem_append_left _ hb) (clX a haX)] at hstep
        exact ih (i + 1) _ (by omega) (rch_step hG h ha) hstep
      · exact ⟨i, L, h, hi, h'⟩
  have h0 : RchI (collG G r) (collR G r) 0 ((foundL [] r).map fun a => ((newA G (reachG G r) a : Nat) : Int)) := by
    rw [← foundL_map okX.nd r [] (fun a ha => by cases ha) rtX]
    exact rch_start vw'
  obtain ⟨i, L, h, hi, h'⟩ := go (G.length + 1) 0 _ (by omega) (rch_start hr) h0
  have e := rch_end h hi
  subst e
  exact (rch_end h' (by rw [List.length_map]; exact hi)).symm
theorem sameL_mapR {α : Type} {f : α → α → Bool} {g : α → α} : ∀ {a : List α}, (∀ x ∈ a, f x (g x) = true) → sameL f a (a.map g) = true
  | [], _ => rfl
  | x :: a, h => by rw [List.map_cons, sameL, h x (List.mem_cons_self ..), sameL_mapR (fun y hy => h y (List.mem_cons_of_mem _ hy))]; rfl
/-- A collection keeps the graph. -/
theorem iso_keeps {G : List ObjG} {r : List WordG} (hG : Wf G) (hr : VW G r) : isoG G r (collG G r) (collR G r) = true := by
  obtain ⟨okX, rtX, clX⟩ := reach_ok hG hr
  obtain ⟨wf', vw', _⟩ := wf_coll hG hr
  have okY := (reach_ok wf' vw').1
  rw [reach_coll hG hr] at okY
  unfold isoG
  rw [reach_coll hG hr]
  unfold collR collG
  unfold collG at okY
  generalize reachG G r = X at *
  have hp : ∀ n ∈ X, placeL (X.map fun a => ((newA G X a : Nat) : Int)) ((newA G X n : Nat) : Int) 0 = placeL X n 0 := by
    intro n hn
    obtain ⟨i, h1, _⟩ := place_lt hn
    rw [h1]
    exact place_at okY.nd (by rw [List.getElem?_map, place_get h1]; rfl)
  have key : ∀ w : WordG, (w.ref = true → w.n ∈ X) → pairW X (X.map fun a => ((newA G X a : Nat) : Int)) w (mvWord G X w) = true := by
    intro w hw
    unfold pairW
    rw [mvWord_ref]
    cases hrf : w.ref with
    | false => rw [mvWord_id hrf]; simp
    | true => rw [mvWord_n hrf, hp _ (hw hrf)]; simp
  simp only [Bool.and_eq_true, decide_eq_true_eq, List.length_map, true_and]
  refine ⟨sameL_mapR (fun w hw => key w (rtX w hw)), sameL_mapR (fun x hx => ?_)⟩
  unfold pairO
  rw [coll_at okX.nd hx]
  simp only [mvO, Bool.and_eq_true, decide_eq_true_eq, true_and]
  exact sameL_mapR (fun w hw => key w (clX x hx w hw))
theorem coll_again {G : List ObjG} {r : List WordG} (hG : Wf G) (hr : VW G r) : collR (collG G r) (collR G r) = collR G r ∧ collG (collG G r) (collR G r) = collG G r := by
  obtain ⟨wf', vw', _⟩ := wf_coll hG hr
  obtain ⟨h1, h2⟩ := (iso_coll hG wf' hr vw').1 (iso_keeps hG hr)
  exact ⟨h1.symm, h2.symm⟩
theorem reach_all {G : List ObjG} {r : List WordG} (hG : Wf G) (hr : VW G r) : (reachG (collG G r) (collR G r)).length = (collG G r).length := by
  rw [reach_coll hG hr, List.length_map, collG, List.length_map]
end Go.Proofs.Ytfdlfcafcjhpmaa

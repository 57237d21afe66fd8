/- Heaps as lists of objects: plain laws. -/
import Derived.Test.YtfdlfcafcjhpmaaCH6
set_option linter.unusedSimpArgs false
set_option linter.unusedVariables false
set_option maxRecDepth 20000
namespace Go.Proofs.Ytfdlfcafcjhpmaa
open Go.AL

structure ObjG where
  tag : Int
  fs : List WordG
  deriving DecidableEq
def osz (o : ObjG) : Nat := o.fs.length + 1
def endO (G : List ObjG) : Nat := (G.map osz).sum
def cellsO (G : List ObjG) : List WordG := G.flatMap fun o => ⟨false, o.tag⟩ :: o.fs
def sizesO (G : List ObjG) : List Int := G.flatMap fun o => ((o.fs.length : Int) + 1) :: List.replicate o.fs.length 0
def addrsF : Nat → List ObjG → List Int
  | _, [] => []
  | k, o :: r => (k : Int) :: addrsF (k + osz o) r
def spOf (G : List ObjG) : SpG := ⟨cellsO G, sizesO G, addrsF 0 G⟩
def objF : Nat → List ObjG → Int → Option ObjG
  | _, [], _ => none
  | k, o :: r, a => if a = (k : Int) then some o else objF (k + osz o) r a
def objAt (G : List ObjG) (a : Int) : Option ObjG := objF 0 G a

theorem endO_app (A B : List ObjG) : endO (A ++ B) = endO A + endO B := by simp [endO]
theorem endO_cons (o : ObjG) (B : List ObjG) : endO (o :: B) = osz o + endO B := by simp [endO]
theorem cellsO_len (G : List ObjG) : (cellsO G).length = endO G := by
  induction G with
  | nil => rfl
  | cons o r ih => rw [endO_cons, ← ih]; simp [cellsO, osz]; omega
theorem sizesO_len (G : List ObjG) : (sizesO G).length = endO G := by
  induction G with
  | nil => rfl
  | cons o r ih => rw [endO_cons, ← ih]; simp [sizesO, osz]; omega
theorem addrsF_len (k : Nat) (G : List ObjG) : (addrsF k G).length = G.length := by
  induction G generalizing k with
  | nil => rfl
  | cons o r ih => simp [addrsF, ih]
theorem len_endO (G : List ObjG) : G.length ≤ endO G := by
  induction G with
  | nil => exact Nat.le_refl _
  | cons o r ih => rw [endO_cons, List.length_cons]; simp only [osz]; omega
theorem addrsF_app (k : Nat) (A B : List ObjG) : addrsF k (A ++ B) = addrsF k A ++ addrsF (k + endO A) B := by
  induction A generalizing k with
  | nil => simp [addrsF, endO]
  | cons o r ih => rw [List.cons_append, addrsF, addrsF, ih, endO_cons, Nat.add_assoc]; rfl
theorem spOf_app (G : List ObjG) (tag : Int) (fs : List WordG) : putG (spOf G) tag fs = spOf (G ++ [⟨tag, fs⟩]) := by
  simp only [putG, spOf, SpG.mk.injEq, addrsF_app, cellsO_len]
  refine ⟨by simp [cellsO], by simp [sizesO], ?_⟩
  simp [addrsF]

/-! ### Objects and their addresses -/
theorem objF_split : ∀ {G : List ObjG} {k : Nat} {a : Int} {o : ObjG}, objF k G a = some o → ∃ A B, G = A ++ o :: B ∧ a = ((k + endO A : Nat) : Int)
  | [], _, _, _, h => by cases h
  | p :: r, k, a, o, h => by
    simp only [objF] at h
    split at h
    · rename_i e
      obtain rfl := Option.some.inj h
      exact ⟨[], r, rfl, by simp [endO, e]⟩
    · obtain ⟨A, B, rfl, e⟩ := objF_split h
      exact ⟨p :: A, B, rfl, by rw [e, endO_cons, Nat.add_assoc]⟩
theorem objF_low : ∀ {G : List ObjG} {k : Nat} {a : Int}, a < k → objF k G a = none
  | [], _, _, _ => rfl
  | p :: r, k, a, h => by
    rw [objF, if_neg (by omega)]
    exact objF_low (by omega)
theorem osz_pos (o : ObjG) : 0 < osz o := Nat.succ_pos _
theorem objF_at : ∀ (A : List ObjG) (o : ObjG) (B : List ObjG) (k : Nat), objF k (A ++ o :: B) ((k + endO A : Nat) : Int) = some o
  | [], o, B, k => by simp [objF, endO]
  | p :: A, o, B, k => by
    have hp := osz_pos p
    rw [List.cons_append, objF, endO_cons, if_neg (by omega), show k + (osz p + endO A) = (k + osz p) + endO A by omega]
    exact objF_at A o B (k + osz p)
theorem objF_mem : ∀ {G : List ObjG} {k : Nat} {a : Int}, (objF k G a).isSome = true ↔ a ∈ addrsF k G
  | [], _, _ => by simp [objF, addrsF]
  | p :: r, k, a => by
    rw [objF, addrsF, List.mem_cons]
    by_cases h : a = (k : Int)
    · simp [h]
    · rw [if_neg h, objF_mem]; simp [h]
theorem addrsF_ge : ∀ {G : List ObjG} {k : Nat} {a : Int}, a ∈ addrsF k G → (k : Int) ≤ a
  | [], _, _, h => by cases h
  | p :: r, k, a, h => by
    rw [addrsF, List.mem_cons] at h
    rcases h with rfl | h
    · exact Int.le_refl _
    · have := addrsF_ge h; omega
theorem addrsF_nodup : ∀ (G : List ObjG) (k : Nat), (addrsF k G).Nodup
  | [], _ => List.nodup_nil
  | p :: r, k => by
    rw [addrsF, List.nodup_cons]
    refine ⟨fun h => ?_, addrsF_nodup r _⟩
    have := addrsF_ge h
    have := osz_pos p
    omega
theorem sizes_pos : ∀ (G : List ObjG) (k a : Nat), (((sizesO G)[a]?).getD 0 > 0) ↔ (objF k G ((k + a : Nat) : Int)).isSome = true
  | [], k, a => by simp [sizesO, objF]
  | o :: r, k, a => by
    have e : sizesO (o :: r) = ((o.fs.length : Int) + 1) :: (List.replicate o.fs.length 0 ++ sizesO r) := by simp [sizesO]
    rw [e, objF]
    cases a with
    | zero => simp <;> omega
    | succ a =>
      rw [List.getElem?_cons_succ, if_neg (by omega)]
      rcases Nat.lt_or_ge a o.fs.length with h | h
      · rw [List.getElem?_append_left (by simpa using h), List.getElem?_replicate, if_pos h, objF_low (by simp only [osz]; omega)]
        simp
      · rw [List.getElem?_append_right (by simpa using h), List.length_replicate]
        have := sizes_pos r (k + osz o) (a - o.fs.length)
        rw [this, show k + osz o + (a - o.fs.length) = k + (a + 1) by simp only [osz]; omega]
theorem has_obj (G : List ObjG) (a : Int) : hasL (sizesO G) a = (objAt G a).isSome := by
  rw [Bool.eq_iff_iff, hasL]
  simp only [Bool.and_eq_true, decide_eq_true_eq]
  constructor
  · rintro ⟨⟨h0, _⟩, h2⟩
    have := (sizes_pos G 0 a.toNat).1 h2
    rw [show ((0 + a.toNat : Nat) : Int) = a by omega] at this
    exact this
  · intro h
    have h0 : 0 ≤ a := by have := addrsF_ge (objF_mem.1 h); omega
    have h2 := (sizes_pos G 0 a.toNat).2 (by rw [show ((0 + a.toNat : Nat) : Int) = a by omega]; exact h)
    refine ⟨⟨h0, ?_⟩, h2⟩
    rcases Nat.lt_or_ge a.toNat (sizesO G).length with h | h
    · omega
    · rw [List.getElem?_eq_none h] at h2; simp at h2
theorem obj_spec {G : List ObjG} {a : Int} {o : ObjG} (h : objAt G a = some o) : 0 ≤ a ∧ (cellsO G)[a.toNat]? = some ⟨false, o.tag⟩ ∧ (sizesO G)[a.toNat]? = some ((o.fs.length : Int) + 1) ∧ a + ((o.fs.length : Int) + 1) ≤ (cellsO G).length ∧
    fieldsL (spOf G) a = o.fs := by
  obtain ⟨A, B, rfl, e⟩ := objF_split h
  rw [Nat.zero_add] at e
  subst e
  have c0 : cellsO (A ++ o :: B) = cellsO A ++ (⟨false, o.tag⟩ :: (o.fs ++ cellsO B)) := by simp [cellsO]
  have s0 : sizesO (A ++ o :: B) = sizesO A ++ (((o.fs.length : Int) + 1) :: (List.replicate o.fs.length 0 ++ sizesO B)) := by simp [sizesO]
  have hs : (sizesO (A ++ o :: B))[((endO A : Nat) : Int).toNat]? = some ((o.fs.length : Int) + 1) := by
    rw [s0, List.getElem?_append_right (by rw [sizesO_len]; omega)]
    simp [sizesO_len]
  refine ⟨by omega, ?_, hs, ?_, ?_⟩
  · rw [c0, List.getElem?_append_right (by rw [cellsO_len]; omega)]
    simp [cellsO_len]
  · rw [cellsO_len, endO_app, endO_cons]; simp only [osz]; omega
  · simp only [fieldsL, spOf, hs, Option.getD_some, c0]
    have e1 : (((endO A : Nat) : Int) + ((o.fs.length : Int) + 1)).toNat = endO A + (o.fs.length + 1) := by omega
    have e2 : (((endO A : Nat) : Int) + 1).toNat = endO A + 1 := by omega
    rw [e1, e2, List.take_append, cellsO_len, List.take_of_length_le (by rw [cellsO_len]; omega), List.drop_append, List.drop_of_length_le (by rw [cellsO_len]; omega), cellsO_len]
    rw [show endO A + (o.fs.length + 1) - endO A = o.fs.length + 1 by omega, show endO A + 1 - endO A = 1 by omega]
    simp
theorem spOk (G : List ObjG) : SpOk (spOf G) := by
  intro a h
  have h' : (objAt G a).isSome = true := by rw [← has_obj]; exact h
  obtain ⟨o, ho⟩ := Option.isSome_iff_exists.1 h'
  obtain ⟨h0, h1, h2, h3, _⟩ := obj_spec ho
  exact ⟨_, _, h1, h2, by omega, h3⟩
end Go.Proofs.Ytfdlfcafcjhpmaa
/- Collections: plain laws. -/
set_option linter.unusedSimpArgs false
set_option linter.unusedVariables false
set_option maxRecDepth 20000
namespace Go.Proofs.Ytfdlfcafcjhpmaa
open Go.AL

def origO (G : List ObjG) (a : Int) : ObjG := (objAt G a).getD ⟨0, []⟩
def foundL : List Int → List WordG → List Int
  | L, [] => L
  | L, w :: r => foundL (if (w.ref && !L.contains w.n) = true then L ++ [w.n] else L) r
def newA (G : List ObjG) (L : List Int) (a : Int) : Nat := endO ((L.takeWhile fun b => b != a).map (origO G))
def mvWord (G : List ObjG) (L : List Int) (w : WordG) : WordG := if w.ref = true then ⟨true, newA G L w.n⟩ else w
def mvArr (G : List ObjG) (N : Nat) (L : List Int) : List Int := (List.range N).map fun (a : Nat) => if L.contains (a : Int) = true then (newA G L a : Int) + 1 else 0
def Shaped (G : List ObjG) (L : List Int) (X : List ObjG) : Prop := X.map (fun o => (o.tag, o.fs.length)) = L.map fun a => ((origO G a).tag, (origO G a).fs.length)
structure LOk (G : List ObjG) (L : List Int) : Prop where
  nd : L.Nodup
  ok : ∀ a ∈ L, a ∈ addrsF 0 G
def VW (G : List ObjG) (l : List WordG) : Prop := ∀ w ∈ l, w.ref = true → w.n ∈ addrsF 0 G

theorem takeWhile_app {L M : List Int} {a : Int} (h : a ∈ L) : (L ++ M).takeWhile (fun b => b != a) = L.takeWhile fun b => b != a := by
  induction L with
  | nil => cases h
  | cons b L ih =>
    by_cases e : b = a
    · subst e; simp [List.takeWhile]
    · have hb : (b != a) = true := by simpa using e
      simp only [List.cons_append, List.takeWhile_cons, hb, if_true]
      rw [ih (by rcases List.mem_cons.1 h with h | h; exact absurd h.symm e; exact h)]
theorem takeWhile_new {L : List Int} {a : Int} (M : List Int) (h : a ∉ L) : (L ++ a :: M).takeWhile (fun b => b != a) = L := by
  induction L with
  | nil => simp [List.takeWhile]
  | cons b L ih =>
    simp only [List.mem_cons, not_or] at h
    have hb : (b != a) = true := by simpa using Ne.symm h.1
    simp only [List.cons_append, List.takeWhile_cons, hb, if_true]
    rw [ih h.2]
theorem newA_app {G : List ObjG} {L : List Int} (M : List Int) {a : Int} (h : a ∈ L) : newA G (L ++ M) a = newA G L a := by rw [newA, newA, takeWhile_app h]
theorem newA_new {G : List ObjG} {L : List Int} {a : Int} (M : List Int) (h : a ∉ L) : newA G (L ++ a :: M) a = endO (L.map (origO G)) := by rw [newA, takeWhile_new M h]

theorem foundL_pre : ∀ (l : List WordG) (L : List Int), ∃ M, foundL L l = L ++ M
  | [], L => ⟨[], by simp [foundL]⟩
  | w :: r, L => by
    rw [foundL]
    split
    · obtain ⟨M, h⟩ := foundL_pre r (L ++ [w.n]); exact ⟨w.n :: M, by rw [h]; simp⟩
    · exact foundL_pre r L
theorem foundL_mem : ∀ (l : List WordG) (L : List Int) (w : WordG), w ∈ l → w.ref = true → w.n ∈ foundL L l
  | [], _, _, h, _ => by cases h
  | v :: r, L, w, h, hr => by
    rw [foundL]
    rcases List.mem_cons.1 h with rfl | h
    · obtain ⟨M, e⟩ := foundL_pre r (if (w.ref && !L.contains w.n) = true then L ++ [w.n] else L)
      rw [e]
      refine List.mem_append_left _ ?_
      split
      · simp
      · rename_i hn
        simpa [hr] using hn
    · exact foundL_mem r _ w h hr
theorem foundL_ok {G : List ObjG} : ∀ (l : List WordG) (L : List Int), LOk G L → VW G l → LOk G (foundL L l)
  | [], L, h, _ => h
  | w :: r, L, h, hv => by
    rw [foundL]
    refine foundL_ok r _ ?_ (fun x hx => hv x (List.mem_cons_of_mem _ hx))
    split
    · rename_i hn
      simp only [Bool.and_eq_true, Bool.not_eq_true', List.contains_eq_mem, decide_eq_false_iff_not] at hn
      refine ⟨?_, fun a ha => ?_⟩
      · rw [List.nodup_append]
        exact ⟨h.nd, by simp, fun a ha b hb => by simp only [List.mem_singleton] at hb; subst hb; rintro rfl; exact hn.2 ha⟩
      · rcases List.mem_append.1 ha with ha | ha
        · exact h.ok a ha
        · simp only [List.mem_singleton] at ha
          subst ha
          exact hv w (List.mem_cons_self) hn.1
    · exact h
theorem foundL_snoc (l : List WordG) (L : List Int) (w : WordG) : foundL L (l ++ [w]) = if (w.ref && !(foundL L l).contains w.n) = true then foundL L l ++ [w.n] else foundL L l := by
  induction l generalizing L with
  | nil => rw [List.nil_append, foundL, foundL, foundL]
  | cons v r ih => rw [List.cons_append, foundL, foundL, ih]

theorem mvArr_len (G : List ObjG) (N : Nat) (L : List Int) : (mvArr G N L).length = N := by simp [mvArr]
theorem mvArr_at {G : List ObjG} {N : Nat} {L : List Int} {a : Int} (h0 : 0 ≤ a) (h : a < N) : (mvArr G N L)[a.toNat]? = some (if L.contains a = true then (newA G L a : Int) + 1 else 0) := by
  simp only [mvArr, List.getElem?_map]
  rw [List.getElem?_range (by omega)]
  simp only [Option.map_some]
  rw [show ((a.toNat : Nat) : Int) = a by omega]
theorem mvArr_set {G : List ObjG} {N : Nat} {L : List Int} {a : Int} (h0 : 0 ≤ a) (h : a < N) (hn : a ∉ L) : (mvArr G N L).set a.toNat ((endO (L.map (origO G)) : Int) + 1) = mvArr G N (L ++ [a]) := by
  apply List.ext_getElem?
  intro i
  rw [List.getElem?_set]
  rcases Nat.lt_or_ge i N with hi | hi
  · have hi' : ((i : Int)).toNat = i := by omega
    by_cases e : a.toNat = i
    · subst e
      have := mvArr_at (G := G) (L := L ++ [a]) h0 h
      rw [this, if_pos rfl, if_pos (by rw [mvArr_len]; omega), newA_new [] hn]
      simp
    · rw [if_neg e]
      have ne : (i : Int) ≠ a := by omega
      have h1 := mvArr_at (G := G) (L := L) (N := N) (a := (i : Int)) (by omega) (by omega)
      have h2 := mvArr_at (G := G) (L := L ++ [a]) (N := N) (a := (i : Int)) (by omega) (by omega)
      rw [hi'] at h1 h2
      rw [h1, h2]
      congr 1
      by_cases hm : (i : Int) ∈ L
      · rw [newA_app _ hm]; simp [hm]
      · simp [hm, ne]
  · rw [List.getElem?_eq_none (by rw [mvArr_len]; exact hi)]
    have e : a.toNat ≠ i := by omega
    rw [if_neg e, List.getElem?_eq_none (by rw [mvArr_len]; exact hi)]

theorem shaped_end {G : List ObjG} {L : List Int} {X : List ObjG} (h : Shaped G L X) : endO X = endO (L.map (origO G)) := by
  have h2 : X.map osz = (L.map (origO G)).map osz := by
    have := congrArg (List.map fun p : Int × Nat => p.2 + 1) h
    rw [List.map_map, List.map_map] at this
    rw [List.map_map]
    exact this
  simp only [endO, h2]
theorem shaped_len {G : List ObjG} {L : List Int} {X : List ObjG} (h : Shaped G L X) : X.length = L.length := by
  have := congrArg List.length h; simpa using this
theorem shaped_app {G : List ObjG} {L : List Int} {X : List ObjG} (h : Shaped G L X) (M : List Int) : Shaped G (L ++ M) (X ++ M.map (origO G)) := by
  simp only [Shaped, List.map_append, List.map_map] at h ⊢
  rw [h]; rfl

/-! ### There is room -/
theorem sum_sub (f : Int → Nat) : ∀ (L M : List Int), L.Nodup → (∀ a ∈ L, a ∈ M) → (L.map f).sum ≤ (M.map f).sum
  | [], M, _, _ => Nat.zero_le _
  | a :: L, M, hn, hs => by
    have ha := hs a (List.mem_cons_self)
    have p := (List.perm_cons_erase ha).map f
    rw [p.sum_nat, List.map_cons, List.map_cons, List.sum_cons, List.sum_cons]
    have hn' := List.nodup_cons.1 hn
    have := sum_sub f L (M.erase a) hn'.2 (fun b hb => (List.mem_erase_of_ne (by rintro rfl; exact hn'.1 hb)).2 (hs b (List.mem_cons_of_mem _ hb)))
    omega
theorem orig_all : ∀ (A B : List ObjG), (addrsF (endO A) B).map (origO (A ++ B)) = B
  | A, [] => rfl
  | A, o :: B => by
    rw [addrsF, List.map_cons]
    have h1 : origO (A ++ o :: B) ((endO A : Nat) : Int) = o := by
      have := objF_at A o B 0
      rw [Nat.zero_add] at this
      simp only [origO, objAt, this, Option.getD_some]
    have h2 := orig_all (A ++ [o]) B
    rw [endO_app, endO_cons] at h2
    simp only [List.append_assoc, List.singleton_append] at h2
    rw [h1]
    congr 1
theorem lok_end {G : List ObjG} {L : List Int} (h : LOk G L) : endO (L.map (origO G)) ≤ endO G := by
  have h2 := sum_sub (fun a => osz (origO G a)) L (addrsF 0 G) h.nd h.ok
  have h3 := orig_all [] G
  simp only [List.nil_append] at h3
  have h4 : ((addrsF 0 G).map fun a => osz (origO G a)) = G.map osz := by
    rw [show endO [] = 0 from rfl] at h3
    conv => rhs; rw [← h3]
    rw [List.map_map]; rfl
  rw [h4] at h2
  simp only [endO, List.map_map]
  exact h2
end Go.Proofs.Ytfdlfcafcjhpmaa

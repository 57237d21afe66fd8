/- Strings as lists of bytes; what a state says of lengths; contracts of the library; appends. -/
import Derived.Test.YtfdlfcafcjhpmaaCAL15
import Derived.Below
set_option linter.unusedVariables false
set_option linter.unusedSimpArgs false
namespace Go.AL
section
variable {P : Program}

/-! ### Strings -/
def bs (l : List UInt8) : ByteArray := ⟨l.toArray⟩
@[go_sem] theorem bs_of (l : List UInt8) : ByteArray.mk l.toArray = bs l := rfl
@[go_sem] theorem bs_empty : ByteArray.empty = bs [] := rfl
@[go_sem] theorem bs_size (l : List UInt8) : (bs l).size = l.length := rfl
@[go_sem] theorem bs_data (l : List UInt8) : (bs l).data.toList = l := rfl
theorem bs_self (s : ByteArray) : bs s.data.toList = s := by cases s; rfl
theorem bs_inj {a b : List UInt8} : bs a = bs b ↔ a = b := by
  constructor
  · intro h; have := congrArg (fun s : ByteArray => s.data.toList) h; simpa [bs] using this
  · rintro rfl; rfl
@[go_sem] theorem bs_dec (a b : List UInt8) : (decide (bs a = bs b)) = decide (a = b) := by simp [bs_inj]
@[go_sem] theorem bs_append (a b : List UInt8) : bs a ++ bs b = bs (a ++ b) := by
  apply ByteArray.ext
  rw [ByteArray.data_append]
  simp [bs]
@[go_sem] theorem bs_get (l : List UInt8) (i : Nat) : (bs l)[i]? = l[i]? := by
  by_cases h : i < l.length
  · rw [getElem?_pos (bs l) i (by show i < (bs l).size; rw [bs_size]; exact h), List.getElem?_eq_getElem h]
    rfl
  · rw [getElem?_neg (bs l) i (by show ¬ i < (bs l).size; rw [bs_size]; exact h), List.getElem?_eq_none (by omega)]
@[go_sem] theorem bs_extract (l : List UInt8) (a b : Nat) : (bs l).extract a b = bs ((l.take b).drop a) := by
  apply ByteArray.ext
  rw [ByteArray.data_extract]
  apply Array.ext'
  simp only [bs, Array.toList_extract, List.extract_eq_take_drop, List.drop_take]

/-! ### Lengths -/
mutual
def AV.fit : AV → Prop
  | .v _ => True
  | .lst _ _ xs => xs.length ≤ maxLen ∧ AV.fits xs
  | .ref _ cs => AV.fits cs
  | .agg cs => AV.fits cs
  | .tup l => AV.fits l
  | .ifc _ a => a.fit
  | .fn _ a b => AV.fits a ∧ AV.fits b
def AV.fits : List AV → Prop
  | [] => True
  | a :: l => a.fit ∧ AV.fits l
end
mutual
theorem AV.fit_of {m : Mem} : ∀ (a : AV), a.ok m → a.fit
  | .v _, _ => trivial
  | .lst _ _ xs, h => by
    obtain ⟨⟨a, cap, _, e1, e2, _⟩, h2⟩ := h
    rw [AV.vals_length] at e1
    exact ⟨Nat.le_trans e1 e2, AV.fits_of xs h2⟩
  | .ref _ cs, h => AV.fits_of cs h.2
  | .agg cs, h => AV.fits_of cs h
  | .tup cs, h => AV.fits_of cs h
  | .ifc _ a, h => AV.fit_of a h
  | .fn _ a b, h => ⟨AV.fits_of a h.1, AV.fits_of b h.2⟩
theorem AV.fits_of {m : Mem} : ∀ (l : List AV), AV.oks m l → AV.fits l
  | [], _ => trivial
  | a :: l, h => ⟨AV.fit_of a h.1, AV.fits_of l h.2⟩
end
theorem AV.fits_iff (l : List AV) : AV.fits l ↔ ∀ a ∈ l, a.fit := by
  induction l with
  | nil => simp [AV.fits]
  | cons a l ih => simp [AV.fits, ih]

theorem aw_fit {c : Code} {Q : Exit → St → Prop} {st : St} (h : (∀ i x, st.sl i = some x → x.fit) → AWp P c Q st) : AWp P c Q st := by
  intro F a w hr
  obtain ⟨m, hm⟩ := hr.ex
  exact h (fun i x hx => AV.fit_of x (hm.sl i x hx).2) F a w hr

/-- A call may lean on the lengths of its arguments. -/
theorem acalls_fit {f : FuncId} {args : List AV} {hp : Hp} {R : AV → Hp → Prop} (hc : Callable P f) (h : AV.fits args → ACalls P f args hp R) : ACalls P f args hp R :=
  ⟨hc, fun F w hv => by
    obtain ⟨hlo, m, hle, hhp, hok⟩ := hv
    exact (h (AV.fits_of args hok)).2 F w ⟨hlo, m, hle, hhp, hok⟩⟩

/-! ### Contracts of the library -/
/-- A contract that leaves the world alone. -/
theorem acalls_world {f : FuncId} {args : List AV} {hp : Hp} {r : AV} (hc : Callable P f) (hr : ∀ m, AV.oks m args → r.ok m)
    (h : ∀ base m w, HpOk base hp m w → AV.oks m args → Calls P f (AV.vals args).toArray w (fun e w' => e = .returned r.val ∧ w' = w)) : ACalls P f args hp (fun r' hp' => r' = r ∧ hp' = hp) :=
  ⟨hc, fun F w hv => by
    obtain ⟨hlo, m, hle, hhp, hok⟩ := hv
    refine (h F.base m w hhp hok).mono ?_
    rintro e w' ⟨rfl, rfl⟩
    exact ⟨r, hp, ⟨rfl, rfl⟩, rfl, hlo, m, hle, hhp, hr m hok, trivial⟩⟩

/-- A contract that makes new memory alone. -/
theorem acalls_below {f : FuncId} {args : List AV} {hp : Hp} {r : AV} (hc : Callable P f) (hr : ∀ m, AV.oks m args → r.ok m)
    (h : ∀ base m w, HpOk base hp m w → AV.oks m args → Calls P f (AV.vals args).toArray w (fun e w' => e = .returned r.val ∧ Go.RowKit.Below w.heap.size w w')) : ACalls P f args hp (fun r' hp' => r' = r ∧ hp' = hp) :=
  ⟨hc, fun F w hv => by
    obtain ⟨hlo, m, hle, hhp, hok⟩ := hv
    refine (h F.base m w hhp hok).mono ?_
    rintro e w' ⟨rfl, hb⟩
    exact ⟨r, hp, ⟨rfl, rfl⟩, rfl, hlo.grow hb.os hb.tape hb.output hb.size (fun k hk => hb.block k (Nat.lt_of_lt_of_le hk hlo.bs)), m, hle, hhp.world hb.block, hr m hok, trivial⟩⟩

theorem callable_of {f : FuncId} {fn : Func} (hf : P.funcs[f]? = some fn) (h : ((fn.name == "runtime.NumGoroutine") || fn.body.isNone) = false) : Callable P f := by
  simp only [Bool.or_eq_false_iff] at h
  exact ⟨fn, hf, h.1, h.2⟩

theorem Hp.le_addSp (hp : Hp) (x : TypeId × Nat × Value) : hp.le (hp.setSp (x :: hp.sp)) := ⟨fun _ _ h => h, fun _ _ h => h, List.sublist_cons_self _ _, fun _ h => h⟩
theorem Hp.le_setBlk (hp : Hp) (b : Nat) (T : TypeId) (cs : List AV) (h : hp.blk b = none) : hp.le (hp.setBlk b T cs) :=
  ⟨fun i x hx => by rw [Hp.setBlk_blk]; split
                    · rename_i e; subst e; rw [h] at hx; cases hx
                    · exact hx, fun _ _ h => h, List.Sublist.refl _, fun _ h => h⟩
theorem Hp.le_setMp (hp : Hp) (b : Nat) (es : List (Value × AV)) (h : hp.mp b = none) : hp.le (hp.setMp b es) :=
  ⟨fun _ _ h => h, fun i x hx => by rw [Hp.setMp_mp]; split
                                    · rename_i e; subst e; rw [h] at hx; cases hx
                                    · exact hx, List.Sublist.refl _, fun _ h => h⟩

/-! ### Appends, as they stand in a walk -/
theorem append_by {d : Option Nat} {ty : TypeId} {pos : String} {aft : Array Edge} {g : Option (Nat × Bool)} {t e : TypeId} {s x : Operand} {sz by_ : Nat} {z : Value} {K : St → Prop} {st : St} {a b : AV} {h h2 : Value} {xs ys : List AV}
    {l1 l2 : List (TypeId × Nat × Value)} {fo : Fix (⟨d, .call { callee := .builtin .append, args := [s, x].toArray, argTypes := [t, t].toArray }, ty, pos, aft, g⟩ : Oper)} {fk : Fix K}
    (hk : kindT P t = .sl e) (hsz : szT P e = some sz) (hby : bytesT P e = some by_) (hz : zeroT P e = some z) (hzs : z.cells.size = sz) (hpos : 0 < sz)
    (hs : st.ev s = some a) (ca : Cast a (.lst sz h xs)) (hx : st.ev x = some b) (cb : Cast b (.lst sz h2 ys)) (hsp : st.hp.sp = l1 ++ (e, sz, h) :: l2)
    (hone : (ys.flatMap AV.cells).all AV.one = true) (h63 : xs.length + ys.length ≤ maxLen) (hbytes : (xs.length + ys.length) * by_ ≤ 140737488355328) (hd : dstOk st d)
    (hK : ∀ h', K ((st.setHp (st.hp.setSp (l1 ++ (e, sz, h') :: l2))).putO d (.lst sz h' (xs ++ ys)))) :
    aopX P ⟨d, .call { callee := .builtin .append, args := [s, x].toArray, argTypes := [t, t].toArray }, ty, pos, aft, g⟩ K st fo fk :=
  aop_append rfl hk hsz hby hz hzs hpos hs ca hx cb hsp hone h63 hbytes hd hK

theorem append0_by {d : Option Nat} {ty : TypeId} {pos : String} {aft : Array Edge} {g : Option (Nat × Bool)} {t e : TypeId} {s x : Operand} {sz by_ : Nat} {z : Value} {K : St → Prop} {st : St} {a b : AV} {h2 : Value} {ys : List AV}
    {fo : Fix (⟨d, .call { callee := .builtin .append, args := [s, x].toArray, argTypes := [t, t].toArray }, ty, pos, aft, g⟩ : Oper)} {fk : Fix K}
    (hk : kindT P t = .sl e) (hsz : szT P e = some sz) (hby : bytesT P e = some by_) (hz : zeroT P e = some z) (hzs : z.cells.size = sz) (hpos : 0 < sz)
    (hs : st.ev s = some a) (ca : Cast a (.lst sz (.slice none 0 0) [])) (hx : st.ev x = some b) (cb : Cast b (.lst sz h2 ys))
    (hone : (ys.flatMap AV.cells).all AV.one = true) (h63 : ys.length ≤ maxLen) (hbytes : ys.length * by_ ≤ 140737488355328) (hd : dstOk st d)
    (hK : ∀ h', K ((st.setHp (st.hp.setSp ((e, sz, h') :: st.hp.sp))).putO d (.lst sz h' ys))) :
    aopX P ⟨d, .call { callee := .builtin .append, args := [s, x].toArray, argTypes := [t, t].toArray }, ty, pos, aft, g⟩ K st fo fk :=
  aop_append0 rfl hk hsz hby hz hzs hpos hs ca hx cb hone h63 hbytes hd hK
end
end Go.AL

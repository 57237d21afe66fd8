/- Operations that leave the world alone: what they yield. -/
import Derived.Test.YtfdlfcafcjhpmaaCAL0
namespace Go.AL

inductive KT where
  | b | i (k : IntKind) | s | p (e : TypeId) | sl (e : TypeId) | ar (n : Nat) (e : TypeId) | mp (k e : TypeId) | st (fs : List (Nat × TypeId × Nat)) | ifc | fnc | oth

def szT (P : Program) (t : TypeId) : Option Nat := (P.info? t).map (·.size)

def kindT (P : Program) (t : TypeId) : KT :=
  match P.underlying t with
  | some .bool => .b
  | some (.int k) => .i k
  | some .string => .s
  | some (.pointer e) => .p e
  | some (.slice e) => .sl e
  | some (.array n e) => .ar n e
  | some (.map k e) => .mp k e
  | some (.struct fs) => .st (fs.toList.map fun f => (f.offset, f.type, (szT P f.type).getD 0))
  | some (.interface _) => .ifc
  | some (.func ..) => .fnc
  | _ => .oth

def aggT (P : Program) (t : TypeId) : Bool := match kindT P t with | .st _ => true | .ar _ _ => true | _ => false

def withAV (o : Option AV) (K : AV → Prop) : Prop := match o with | some a => K a | none => False
@[go_sem] theorem withAV_some (a : AV) (K : AV → Prop) : withAV (some a) K = K a := rfl
theorem withAV_elim {o : Option AV} {K : AV → Prop} (h : withAV o K) : ∃ a, o = some a ∧ K a := by
  cases o with
  | none => exact h.elim
  | some a => exact ⟨a, rfl, h⟩

def padd : Value → Nat → Value
  | .pointer (some a), n => .pointer (some (a.add n))
  | v, _ => v
def hadd : Value → Nat → Value
  | .slice (some a) _ _, n => .pointer (some (a.add n))
  | v, _ => v

theorem addr_add (b o n : Nat) : (⟨b, o, none⟩ : Addr).add n = ⟨b, o + n, none⟩ := by
  unfold Addr.add; split <;> simp_all
@[go_sem] theorem padd_mk (b o n : Nat) : padd (.pointer (some ⟨b, o, none⟩)) n = .pointer (some ⟨b, o + n, none⟩) := by simp [padd, addr_add]

/-! ### What each operation yields -/
def pickK (c : AV) (a b : Option AV) (K : AV → Prop) : Prop :=
  match c with
  | .v (.bool t) => if t = true then withAV a K else withAV b K
  | _ => False

def readK (P : Program) (t : TypeId) (cs : List AV) (K : AV → Prop) : Prop :=
  if aggT P t = true then (match szT P t with | some n => n ≤ cs.length ∧ K (.agg (cs.take n)) | none => False)
  else (kindT P t ≠ .oth ∧ match cs with | c :: _ => K c | [] => False)

def loadK (P : Program) (hp : Hp) (t : TypeId) (a : AV) (K : AV → Prop) : Prop :=
  match a with
  | .ref _ cs => readK P t cs K
  | .v (.pointer (some ⟨b, o, none⟩)) => (match hp.blk b with | some (_, cs) => readK P t (cs.drop o) K | none => False)
  | _ => False

def fieldAddrK (P : Program) (s : TypeId) (a : AV) (f : Nat) (K : AV → Prop) : Prop :=
  match kindT P s with
  | .st fs => (match fs[f]? with
    | some (off, _, n) => n ≠ 0 ∧ (match a with
      | .ref p cs => K (.ref (padd p off) (cs.drop off))
      | .v (.pointer (some ⟨b, o, none⟩)) => K (.v (.pointer (some ⟨b, o + off, none⟩)))
      | _ => False)
    | none => False)
  | _ => False

def indexAddrK (P : Program) (t : TypeId) (a i : AV) (K : AV → Prop) : Prop :=
  match kindT P t, i with
  | .sl e, .v (.int _ i) => (match szT P e with
    | some n => (match a with
      | .lst sz h xs => sz = n ∧ 0 ≤ i ∧ (match xs[i.toNat]? with | some x => K (.ref (hadd h (i.toNat * n)) x.cells) | none => False)
      | .v (.slice (some ⟨b, o, none⟩) len _) => 0 ≤ i ∧ i < len ∧ K (.v (.pointer (some ⟨b, o + i.toNat * n, none⟩)))
      | _ => False)
    | none => False)
  | .ar len e, .v (.int _ i) => (match szT P e with
    | some n => 0 ≤ i ∧ i < len ∧ (match a with
      | .ref p cs => K (.ref (padd p (i.toNat * n)) (cs.drop (i.toNat * n)))
      | .v (.pointer (some ⟨b, o, none⟩)) => K (.v (.pointer (some ⟨b, o + i.toNat * n, none⟩)))
      | _ => False)
    | none => False)
  | _, _ => False

def indexK (P : Program) (t : TypeId) (a i : AV) (K : AV → Prop) : Prop :=
  match kindT P t, a, i with
  | .s, .v (.string s), .v (.int _ i) => 0 ≤ i ∧ (match s[i.toNat]? with | some b => K (.v (.int .u8 b.toNat)) | none => False)
  | _, _, _ => False

def lenK (P : Program) (hp : Hp) (t : TypeId) (a : AV) (K : AV → Prop) : Prop :=
  match kindT P t, a with
  | .s, .v (.string s) => K (.v (.int .i64 s.size))
  | .sl _, .lst _ _ xs => K (.v (.int .i64 xs.length))
  | .sl _, .v (.slice _ n _) => K (.v (.int .i64 n))
  | .mp _ _, .v (.map (some b)) => (match hp.mp b with | some es => K (.v (.int .i64 es.length)) | none => False)
  | .mp _ _, .v (.map none) => K (.v (.int .i64 0))
  | _, _ => False

def extractK (a : AV) (i : Nat) (K : AV → Prop) : Prop :=
  match a with
  | .tup l => withAV l[i]? K
  | _ => False

def fieldK (P : Program) (s : TypeId) (a : AV) (f : Nat) (K : AV → Prop) : Prop :=
  match kindT P s, a with
  | .st fs, .agg cs => (match fs[f]? with
    | some (off, t, _) => readK P t (cs.drop off) K
    | none => False)
  | _, _ => False

def unK (op : UnOp) (a : AV) (K : AV → Prop) : Prop :=
  match op, a with
  | .not, .v (.bool b) => K (.v (.bool !b))
  | .neg, .v (.int k n) => K (.v (.int k (k.wrap (0 - n))))
  | _, _ => False

def intK (op : BinOp) (k : IntKind) (x y : Int) (K : AV → Prop) : Prop :=
  match op with
  | .add => K (.v (.int k (k.wrap (x + y))))
  | .sub => K (.v (.int k (k.wrap (x - y))))
  | .mul => K (.v (.int k (k.wrap (x * y))))
  | .quo => y ≠ 0 ∧ K (.v (.int k (k.wrap (x.tdiv y))))
  | .rem => y ≠ 0 ∧ K (.v (.int k (x.tmod y)))
  | .eql => K (.v (.bool (decide (x = y))))
  | .neq => K (.v (.bool (!decide (x = y))))
  | .lss => K (.v (.bool (decide (x < y))))
  | .leq => K (.v (.bool (decide (x ≤ y))))
  | .gtr => K (.v (.bool (decide (x > y))))
  | .geq => K (.v (.bool (decide (x ≥ y))))
  | _ => False

def strK (op : BinOp) (x y : ByteArray) (K : AV → Prop) : Prop :=
  match op with
  | .add => x.size + y.size ≤ 9223372036854775807 ∧ K (.v (.string (x ++ y)))
  | .eql => K (.v (.bool (decide (x = y))))
  | .neq => K (.v (.bool (!decide (x = y))))
  | .lss => K (.v (.bool (Op.bytesLess x.toList y.toList)))
  | .leq => K (.v (.bool (Op.bytesLess x.toList y.toList || x.toList == y.toList)))
  | .gtr => K (.v (.bool !(Op.bytesLess x.toList y.toList || x.toList == y.toList)))
  | .geq => K (.v (.bool !(Op.bytesLess x.toList y.toList)))
  | _ => False

/-- Equality of two cells of a plain struct. -/
def eqF : KT → AV → AV → Option Bool
  | .i _, .v (.int k a), .v (.int k' b) => if k = k' then some (decide (a = b)) else none
  | .b, .v (.bool a), .v (.bool b) => some (decide (a = b))
  | .s, .v (.string a), .v (.string b) => some (decide (a = b))
  | _, _, _ => none
def andO : Option Bool → Option Bool → Option Bool
  | some a, some b => some (a && b)
  | _, _ => none
def eqS (P : Program) : List (Nat × TypeId × Nat) → List AV → List AV → Option Bool
  | [], [], [] => some true
  | f :: fs, x :: xs, y :: ys => andO (eqF (kindT P f.2.1) x y) (eqS P fs xs ys)
  | _, _, _ => none
/-- A struct type whose '==' goes cell by cell. -/
def eqT (P : Program) (t : TypeId) : Bool :=
  match P.underlying t with
  | some (.struct fl) => !P.stoodInHeld t && !P.eqGuardType P.depth t && fl.toList.all (fun f => f.name != "_") && decide (fl.toList.map (·.offset) = List.range fl.size)
  | _ => false

def eqB (op : BinOp) (r : Bool) (K : AV → Prop) : Prop :=
  match op with
  | .eql => K (.v (.bool r))
  | .neq => K (.v (.bool !r))
  | _ => False

/-- Whether a slice is nil. -/
def nilB : Value → Bool
  | .slice none _ _ => true
  | _ => false
def isSlc : Value → Bool
  | .slice _ _ _ => true
  | _ => false

/-- '==' where one side is nil, and between bools. -/
def binK (P : Program) (op : BinOp) (t : TypeId) (a b : AV) (K : AV → Prop) : Prop :=
  match a, b with
  | .v (.int k x), .v (.int k' y) => k = k' ∧ intK op k x y K
  | .v (.string x), .v (.string y) => strK op x y K
  | .v (.bool x), .v (.bool y) => (match kindT P t with | .b => eqB op (x == y) K | _ => False)
  | .v (.pointer none), .v (.pointer none) => (match kindT P t with | .p _ => eqB op true K | _ => False)
  | .ref _ _, .v (.pointer none) => (match kindT P t with | .p _ => eqB op false K | _ => False)
  | .v (.pointer (some _)), .v (.pointer none) => (match kindT P t with | .p _ => eqB op false K | _ => False)
  | .agg xs, .agg ys => (match kindT P t with
    | .st fs => eqT P t = true ∧ (match eqS P fs xs ys with | some r => eqB op r K | none => False)
    | _ => False)
  | .ifc _ _, .v .nilIface => (match kindT P t with | .ifc => eqB op false K | _ => False)
  | .lst _ h _, .v (.slice none 0 0) => (match kindT P t with | .sl _ => eqB op (nilB h) K | _ => False)
  | .v (.slice a n c), .v (.slice none 0 0) => (match kindT P t with | .sl _ => eqB op (nilB (.slice a n c)) K | _ => False)
  | _, _ => False

def cvtK (P : Program) (s d : TypeId) (a : AV) (K : AV → Prop) : Prop :=
  match kindT P s, kindT P d, a with
  | .i _, .i k, .v (.int _ n) => K (.v (.int k (k.wrap n)))
  | .s, .s, .v (.string x) => K (.v (.string x))
  | _, _, _ => False

def nilCheckK (a : AV) (K : AV → Prop) : Prop :=
  match a with
  | .ref p cs => K (.ref p cs)
  | .v (.pointer (some x)) => K (.v (.pointer (some x)))
  | _ => False

def mkIfcK (P : Program) (t : TypeId) (a : AV) (K : AV → Prop) : Prop :=
  match kindT P t with
  | .ifc => False
  | .oth => False
  | _ => K (.ifc t a)

def evs (st : St) (l : Array Operand) : Option (List AV) := l.toList.mapM st.ev

def mkFnK (st : St) (f : Fn) (a b : Array Operand) (K : AV → Prop) : Prop :=
  match evs st a, evs st b with
  | some x, some y => K (.fn f x y)
  | _, _ => False

/-- Builtins that only look. -/
def callK (P : Program) (st : St) (c : Call) (K : AV → Prop) : Prop :=
  match c.callee with
  | .builtin .len => (match c.args.toList, c.argTypes.toList with
    | [x], [t] => withAV (st.ev x) fun a => lenK P st.hp t a K
    | _, _ => False)
  | _ => False

def pop (P : Program) (st : St) (op : Op) (K : AV → Prop) : Prop :=
  match op with
  | .move x => withAV (st.ev x) K
  | .assign x => withAV (st.ev x) K
  | .pick c a b => withAV (st.ev c) fun c => pickK c (st.ev a) (st.ev b) K
  | .binOp op t x y _ => withAV (st.ev x) fun a => withAV (st.ev y) fun b => binK P op t a b K
  | .unOp op _ x => withAV (st.ev x) fun a => unK op a K
  | .load t x => withAV (st.ev x) fun a => loadK P st.hp t a K
  | .fieldAddr s x f => withAV (st.ev x) fun a => fieldAddrK P s a f K
  | .indexAddr t x i => withAV (st.ev x) fun a => withAV (st.ev i) fun i => indexAddrK P t a i K
  | .index t x i => withAV (st.ev x) fun a => withAV (st.ev i) fun i => indexK P t a i K
  | .field s x f => withAV (st.ev x) fun a => fieldK P s a f K
  | .extract x i => withAV (st.ev x) fun a => extractK a i K
  | .convert s d x => withAV (st.ev x) fun a => cvtK P s d a K
  | .makeInterface t x => withAV (st.ev x) fun a => mkIfcK P t a K
  | .makeFunc f a b => mkFnK st f a b K
  | .nilCheck x => withAV (st.ev x) fun a => nilCheckK a K
  | .call c => callK P st c K
  | _ => False

/-! ### Soundness -/
def PureOp (P : Program) (o : Oper) (st : St) (x : AV) : Prop :=
  ∀ F a w m, Rel F st a w → RelM F st a w m → (execOp a.eval o).run P w = .ok (.value x.val) w ∧ x.ok m

section
variable {P : Program} {w : World}

theorem szT_info {t : TypeId} {n : Nat} (h : szT P t = some n) : ∃ i, P.info? t = some i ∧ i.size = n := by
  unfold szT at h
  cases hi : P.info? t with
  | none => simp [hi] at h
  | some i => exact ⟨i, rfl, by simpa [hi] using h⟩

theorem run_sizeOf' {t : TypeId} {n : Nat} (h : szT P t = some n) : (sizeOf t).run P w = .ok n w := by
  obtain ⟨i, hi, e⟩ := szT_info h
  simp [sizeOf, typeInfo, hi, e]

theorem kind_sl {t e : TypeId} (h : kindT P t = .sl e) : P.underlying t = some (.slice e) := by
  unfold kindT at h; split at h <;> (cases h <;> assumption)
theorem kind_ar {t e : TypeId} {n : Nat} (h : kindT P t = .ar n e) : P.underlying t = some (.array n e) := by
  unfold kindT at h; split at h <;> (cases h <;> assumption)
theorem kind_s {t : TypeId} (h : kindT P t = .s) : P.underlying t = some .string := by
  unfold kindT at h; split at h <;> (cases h <;> assumption)
theorem kind_b {t : TypeId} (h : kindT P t = .b) : P.underlying t = some .bool := by
  unfold kindT at h; split at h <;> (cases h <;> assumption)
theorem kind_i {t : TypeId} {k : IntKind} (h : kindT P t = .i k) : P.underlying t = some (.int k) := by
  unfold kindT at h; split at h <;> (cases h <;> assumption)
theorem kind_p {t e : TypeId} (h : kindT P t = .p e) : P.underlying t = some (.pointer e) := by
  unfold kindT at h; split at h <;> (cases h <;> assumption)
theorem kind_mp {t k e : TypeId} (h : kindT P t = .mp k e) : P.underlying t = some (.map k e) := by
  unfold kindT at h; split at h <;> (cases h <;> assumption)
theorem kind_ifc {t : TypeId} (h : kindT P t = .ifc) : ∃ ms, P.underlying t = some (.interface ms) := by
  unfold kindT at h; split at h <;> (cases h <;> exact ⟨_, by assumption⟩)
theorem kind_st {t : TypeId} {fs : List (Nat × TypeId × Nat)} (h : kindT P t = .st fs) : ∃ fl, P.underlying t = some (.struct fl) ∧ fs = fl.toList.map fun f => (f.offset, f.type, (szT P f.type).getD 0) := by
  unfold kindT at h; split at h <;> (cases h <;> exact ⟨_, by assumption, rfl⟩)
theorem kind_some {t : TypeId} (h : kindT P t ≠ .oth) : ∃ d, P.underlying t = some d := by
  cases hu : P.underlying t with
  | none => exact absurd (by simp [kindT, hu]) h
  | some d => exact ⟨d, rfl⟩

theorem aggT_true {t : TypeId} (h : aggT P t = true) : (isAgg t).run P w = .ok true w := by
  unfold aggT at h
  split at h
  · rename_i fs hk; obtain ⟨fl, hu, _⟩ := kind_st hk; simp [isAgg, run_underlying hu]
  · rename_i n e hk; have hu := kind_ar hk; simp [isAgg, run_underlying hu]
  · cases h

theorem aggT_false {t : TypeId} (h : aggT P t = false) (hk : kindT P t ≠ .oth) : (isAgg t).run P w = .ok false w := by
  obtain ⟨d, hu⟩ := kind_some hk
  have : (isAgg t).run P w = .ok (match d with | .struct _ => true | .array _ _ => true | _ => false) w := by
    cases d <;> simp [isAgg, run_underlying hu]
  rw [this]
  unfold aggT kindT at h
  rw [hu] at h
  cases d <;> simp_all
end
end Go.AL

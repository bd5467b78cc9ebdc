/- How a walk through the code is led, and the plain data that the program computes; no conditions. -/
import Derived.Calls
import Derived.WalkKit
import Derived.Deep.AppendSrc
import Derived.Laws.IdiomStrings
import Derived.OrdersHeld
import Derived.KernelRfl
import Derived.RowKit3
import Derived.WideKeyArgs
import Derived.Laws.StructEq
import Derived.Laws.Externs
import Derived.Lib.Overlaps
import Derived.Lib.AppendZerosOnto
namespace Go.Pst
open Go

abbrev Env := Nat → Value
abbrev EPost := Exit → Env → World → Prop

/-- one slot turned -/
def upd (e : Env) (d : Nat) (v : Value) : Env := fun n => bif Nat.beq n d then v else e n

theorem upd_apply (e : Env) (d : Nat) (v : Value) (n : Nat) : upd e d v n = if n = d then v else e n := by
  unfold upd
  by_cases h : n = d
  · subst h; simp
  · have : Nat.beq n d = false := by
      cases hb : Nat.beq n d
      · rfl
      · exact absurd (Nat.eq_of_beq_eq_true hb) h
    simp [this, h]

def evo (e : Env) : Operand → Value
  | .tmp t => e t
  | .const v => v
  | .global g => .pointer (some ⟨g, 0, none⟩)
  | .func f => .func (.func f) #[] #[]

structure Fr (N : Nat) (e : Env) (a : Act) : Prop where
  dfr : a.defers = []
  size : a.tmps.size = N
  get : ∀ n, a.tmps.getD n undef = e n

theorem Fr.eval {N : Nat} {e : Env} {a : Act} (h : Fr N e a) : a.eval = evo e := by
  funext x
  cases x with
  | tmp t => exact h.get t
  | const v => rfl
  | global g => rfl
  | func f => rfl

theorem Fr.put {N : Nat} {e : Env} {a : Act} (h : Fr N e a) (d : Nat) (v : Value) (hd : Nat.blt d N = true) : Fr N (upd e d v) (a.put (some d) v) := by
  have hd' : d < N := Nat.le_of_ble_eq_true hd
  refine ⟨h.dfr, by simp [Act.put, h.size], fun n => ?_⟩
  rw [upd_apply, ← h.get n]
  simp only [Act.put, Array.getD_eq_getD_getElem?, Array.getElem?_setIfInBounds, h.size]
  by_cases hn : n = d
  · subst hn; simp [hd']
  · rw [if_neg (fun h => hn h.symm), if_neg hn]

theorem Fr.putNone {N : Nat} {e : Env} {a : Act} (h : Fr N e a) (v : Value) : Fr N e (a.put none v) := h

def lift (N : Nat) (K : EPost) : Exit → Act → World → Prop := fun x a w => ∃ e, Fr N e a ∧ K x e w

/-- the run of one operation, at a frame as a function -/
def OpRd (P : Program) (ρ : Operand → Value) (o : Oper) (w : World) (R : Value → World → Prop) : Prop :=
  match (execOp ρ o).run P w with
  | .ok (.value v) w' => R v w'
  | .ok .skip w' => R undef w'
  | .ok (.enter f args) w' => Calls P f args w' fun
      | .returned v, w'' => R v w''
      | _, _ => False
  | _ => False

/-- (a structure, so that the kernel does not run it) -/
structure OpR (P : Program) (ρ : Operand → Value) (o : Oper) (w : World) (R : Value → World → Prop) : Prop where
  out : OpRd P ρ o w R

theorem OpR.wp {P : Program} {N : Nat} {e : Env} {a : Act} (h : Fr N e a) {o : Oper} {w : World} {R : Value → World → Prop}
    (hr : OpR P (evo e) o w R) {next : Act → World → Prop} {Q : Exit → Act → World → Prop}
    (hn : ∀ v w', R v w' → next (a.put o.dst v) w') : o.wp P a w next Q := by
  unfold Oper.wp
  replace hr := hr.out
  unfold OpRd at hr
  rw [h.eval]
  cases hrun : (execOp (evo e) o).run P w with
  | ok x w' =>
    rw [hrun] at hr
    cases x with
    | value v => exact hn _ _ hr
    | skip => exact hn _ _ hr
    | enter f args =>
      simp only [Oper.upon]
      refine Calls.mono hr fun ex w'' hx => ?_
      cases ex with
      | returned v => exact hn _ _ hx
      | panicked c => exact hx.elim
      | outgrown => exact hx.elim
    | _ => exact hr.elim
  | halt x w' => rw [hrun] at hr; exact hr.elim

theorem OpR.mono {P : Program} {ρ : Operand → Value} {o : Oper} {w : World} {R R' : Value → World → Prop} (h : OpR P ρ o w R)
    (hr : ∀ v w', R v w' → R' v w') : OpR P ρ o w R' := by
  replace h := h.out
  refine ⟨?_⟩
  unfold OpRd at h ⊢
  split at h
  · exact hr _ _ h
  · exact hr _ _ h
  · refine Calls.mono h fun ex w'' hx => ?_
    cases ex with
    | returned v => exact hr _ _ hx
    | panicked c => exact hx.elim
    | outgrown => exact hx.elim
  · exact h.elim

theorem OpR.ok {P : Program} {ρ : Operand → Value} {o : Oper} {w w' : World} {v : Value} {R : Value → World → Prop}
    (h : (execOp ρ o).run P w = .ok (.value v) w') (hr : R v w') : OpR P ρ o w R := by
  refine ⟨?_⟩; unfold OpRd; rw [h]; exact hr

theorem OpR.skip {P : Program} {ρ : Operand → Value} {o : Oper} {w w' : World} {R : Value → World → Prop}
    (h : (execOp ρ o).run P w = .ok .skip w') (hr : R undef w') : OpR P ρ o w R := by
  refine ⟨?_⟩; unfold OpRd; rw [h]; exact hr

theorem OpR.enter {P : Program} {ρ : Operand → Value} {o : Oper} {w w' : World} {f : FuncId} {args : Array Value} {R : Value → World → Prop}
    (h : (execOp ρ o).run P w = .ok (.enter f args) w') (hr : Calls P f args w' fun | .returned v, w'' => R v w'' | _, _ => False) : OpR P ρ o w R := by
  refine ⟨?_⟩; unfold OpRd; rw [h]; exact hr

/-- an operation that looks at no memory, at a frame as a function: its value -/
structure OpP (P : Program) (ρ : Operand → Value) (o : Oper) (k : Value → Prop) : Prop where
  out : ∃ v, (∀ w, (execOp ρ o).run P w = .ok (.value v) w) ∧ k v

theorem OpP.ok {P : Program} {ρ : Operand → Value} {o : Oper} {k : Value → Prop} (v : Value) (h : ∀ w, (execOp ρ o).run P w = .ok (.value v) w) (hk : k v) : OpP P ρ o k := by
  exact ⟨v, h, hk⟩
theorem OpP.get {P : Program} {ρ : Operand → Value} {o : Oper} {k : Value → Prop} (h : OpP P ρ o k) : ∃ v, (∀ w, (execOp ρ o).run P w = .ok (.value v) w) ∧ k v := by
  exact h.out
theorem OpP.mono {P : Program} {ρ : Operand → Value} {o : Oper} {k k' : Value → Prop} (h : OpP P ρ o k) (hk : ∀ v, k v → k' v) : OpP P ρ o k' := by
  obtain ⟨v, h1, h2⟩ := h.get
  exact .ok v h1 (hk v h2)
theorem OpP.opR {P : Program} {ρ : Operand → Value} {o : Oper} {w : World} {k : Value → World → Prop} (h : OpP P ρ o fun v => k v w) : OpR P ρ o w k := by
  obtain ⟨v, h1, h2⟩ := h.get
  exact .ok (h1 w) h2

/-- a value, seen to its head (so that what follows holds no unfinished term) -/
def frc (v : Value) (k : Value → Prop) : Prop :=
  match v with
  | .bool b => k (.bool b)
  | .int j n => k (.int j n)
  | .string s => k (.string s)
  | .pointer a => k (.pointer a)
  | .slice a n c => k (.slice a n c)
  | .map r => k (.map r)
  | .func f x y => k (.func f x y)
  | .agg cs => k (.agg cs)
  | .tuple vs => k (.tuple vs)
  | .nilFunc => k .nilFunc
  | .iface t v => k (.iface t v)
  | .nilIface => k .nilIface
  | .float a b => k (.float a b)
  | .complex a b c => k (.complex a b c)
  | .chan r => k (.chan r)

theorem frc_eq (v : Value) (k : Value → Prop) : frc v k = k v := by cases v <;> rfl

/-- a bool that the code has worked out: told apart, or kept -/
structure Cmp (b : Bool) (k : Bool → Prop) : Prop where
  out : k b
theorem Cmp.split {b : Bool} {k : Bool → Prop} (ht : b = true → k true) (hf : b = false → k false) : Cmp b k := by
  refine ⟨?_⟩; cases b
  · exact hf rfl
  · exact ht rfl
theorem Cmp.dec {p : Prop} [Decidable p] {k : Bool → Prop} (ht : p → k true) (hf : ¬ p → k false) : Cmp (decide p) k := by
  refine ⟨?_⟩
  by_cases h : p
  · simpa [h] using ht h
  · simpa [h] using hf h
theorem Cmp.yes {b : Bool} {k : Bool → Prop} (h : b = true) (hk : k true) : Cmp b k := by exact ⟨by rw [h]; exact hk⟩
theorem Cmp.no {b : Bool} {k : Bool → Prop} (h : b = false) (hk : k false) : Cmp b k := by exact ⟨by rw [h]; exact hk⟩
theorem Cmp.y {p : Prop} [Decidable p] {k : Bool → Prop} (h : p) (hk : k true) : Cmp (decide p) k := Cmp.yes (by simpa using h) hk
theorem Cmp.n {p : Prop} [Decidable p] {k : Bool → Prop} (h : ¬ p) (hk : k false) : Cmp (decide p) k := Cmp.no (by simpa using h) hk
theorem Cmp.keep {b : Bool} {k : Bool → Prop} (hk : k b) : Cmp b k := by exact ⟨hk⟩

/-- a whole number that the code has worked out, wrapped to its kind -/
structure Ar (j : IntKind) (n : Int) (k : Int → Prop) : Prop where
  out : k (j.wrap n)
theorem Ar.to {j : IntKind} {n : Int} {k : Int → Prop} (m : Int) (h : j.wrap n = m) (hk : k m) : Ar j n k := by exact ⟨by rw [h]; exact hk⟩
theorem wrap_i64 (n : Int) (h : -9223372036854775808 ≤ n ∧ n < 9223372036854775808) : IntKind.i64.wrap n = n := by
  unfold IntKind.wrap
  simp [IntKind.bits, IntKind.signed]
  omega
theorem Ar.i {n : Int} {k : Int → Prop} (h : -9223372036854775808 ≤ n ∧ n < 9223372036854775808) (hk : k n) : Ar .i64 n k := Ar.to n (wrap_i64 n h) hk
theorem Ar.keep {j : IntKind} {n : Int} {k : Int → Prop} (hk : k (j.wrap n)) : Ar j n k := by exact ⟨hk⟩

theorem Cmp.mono {b : Bool} {k k' : Bool → Prop} (h : Cmp b k) (hk : ∀ v, k v → k' v) : Cmp b k' := ⟨hk _ h.out⟩
theorem Ar.mono {j : IntKind} {n : Int} {k k' : Int → Prop} (h : Ar j n k) (hk : ∀ v, k v → k' v) : Ar j n k' := ⟨hk _ h.out⟩

/-- what the evaluator knows of a type: its row in the program's table; is it of several cells; a struct's fields: offset, size, of several cells -/
structure TI where
  info : TypeInfo
  desc : TypeDesc
  agg : Bool
  fields : List (Nat × Nat × Bool)

abbrev Tab := List (Nat × TI)

def nth {α : Type} : List α → Nat → Option α
  | [], _ => none
  | x :: _, 0 => some x
  | _ :: l, n + 1 => nth l n

theorem nth_eq {α : Type} (l : List α) (n : Nat) : nth l n = l[n]? := by
  induction l generalizing n with
  | nil => simp [nth]
  | cons x l ih => cases n <;> simp [nth, ih]

def fieldsOk (P : Program) : List Field → List (Nat × Nat × Bool) → Bool
  | [], [] => true
  | f :: fs, x :: xs => f.offset == x.1 && (P.types[f.type]?).any (fun i => i.size == x.2.1) && x.2.1 != 0 &&
      (match P.underlying f.type with | some (.struct _) | some (.array _ _) => x.2.2 | some _ => !x.2.2 | none => false) && fieldsOk P fs xs
  | _, _ => false

/-- is the row right? (asked of the program's table by Lean's kernel) -/
def TI.check (P : Program) (i : TI) : Bool :=
  match i.desc with
  | .struct fs => i.agg && fieldsOk P fs.toList i.fields
  | .array _ _ => i.agg && i.fields.isEmpty
  | _ => !i.agg && i.fields.isEmpty

structure TI.Ok (P : Program) (t : Nat) (i : TI) : Prop where
  info : P.types[t]? = some i.info
  und : P.underlying t = some i.desc
  check : i.check P = true

def Tab.get : Tab → Nat → Option TI
  | [], _ => none
  | (k, i) :: l, t => bif Nat.beq t k then some i else Tab.get l t

def Tab.Ok (P : Program) (T : Tab) : Prop := ∀ p ∈ T, TI.Ok P p.1 p.2

theorem Tab.Ok.get {P : Program} {T : Tab} (h : T.Ok P) {t : Nat} {i : TI} (hg : T.get t = some i) : TI.Ok P t i := by
  induction T with
  | nil => cases hg
  | cons p l ih =>
    obtain ⟨k, j⟩ := p
    unfold Tab.get at hg
    cases hb : Nat.beq t k with
    | true =>
      rw [hb] at hg
      have := Nat.eq_of_beq_eq_true hb
      simp only [cond_true, Option.some.injEq] at hg
      subst hg; subst this
      exact h _ List.mem_cons_self
    | false =>
      rw [hb] at hg
      exact ih (fun p hp => h p (List.mem_cons_of_mem _ hp)) hg

/-- cells of a value -/
def cellsL : Value → List Value
  | .agg cs => cs.toList
  | v => [v]
theorem cellsL_eq (v : Value) : cellsL v = v.cells.toList := by cases v <;> rfl

def takeK (β : Type) : Nat → List β → (List β → Prop) → Prop
  | 0, _, k => k []
  | _ + 1, [], k => k []
  | n + 1, x :: l, k => takeK β n l fun r => k (x :: r)
theorem takeK_eq {β : Type} (n : Nat) (l : List β) (k : List β → Prop) : takeK β n l k = k (l.take n) := by
  induction n generalizing l k with
  | zero => simp [takeK]
  | succ n ih => cases l <;> simp [takeK, ih]
def dropK (β : Type) : Nat → List β → (List β → Prop) → Prop
  | 0, l, k => k l
  | _ + 1, [], k => k []
  | n + 1, _ :: l, k => dropK β n l k
theorem dropK_eq {β : Type} (n : Nat) (l : List β) (k : List β → Prop) : dropK β n l k = k (l.drop n) := by
  induction n generalizing l with
  | zero => simp [dropK]
  | succ n ih => cases l <;> simp [dropK, ih]

/-- l with new cells from a place on -/
def putAt (β : Type) : Nat → List β → List β → (List β → Prop) → Prop
  | 0, l, [], k => k l
  | 0, _ :: l, x :: c, k => putAt β 0 l c fun r => k (x :: r)
  | 0, [], _ :: _, k => False ∧ k []
  | n + 1, y :: l, c, k => putAt β n l c fun r => k (y :: r)
  | _ + 1, [], _, k => False ∧ k []

def evl (e : Env) : List Operand → (List Value → Prop) → Prop
  | [], k => k []
  | x :: l, k => frc (evo e x) fun v => evl e l fun r => k (v :: r)
theorem evl_eq (e : Env) (l : List Operand) (k : List Value → Prop) : evl e l k = k (l.map (evo e)) := by
  induction l generalizing k with
  | nil => rfl
  | cons x l ih => simp [evl, frc_eq, ih]


def ltB (x y : ByteArray) : Bool := Op.bytesLess x.toList y.toList

def sameK : IntKind → IntKind → Bool
  | .i64, .i64 | .u8, .u8 | .u64, .u64 | .i32, .i32 | .u32, .u32 | .i8, .i8 | .i16, .i16 | .u16, .u16 => true
  | _, _ => false

/-- two operands -/
def gbin (op : BinOp) (x y : Value) (k : Value → Prop) (other : Prop) : Prop :=
  match x, y with
  | .int j a, .int j' b =>
    match sameK j j' with
    | true =>
      match op with
      | .eql => Cmp (decide (a = b)) fun r => k (.bool r)
      | .neq => Cmp (!decide (a = b)) fun r => k (.bool r)
      | .lss => Cmp (decide (a < b)) fun r => k (.bool r)
      | .leq => Cmp (decide (a ≤ b)) fun r => k (.bool r)
      | .gtr => Cmp (decide (b < a)) fun r => k (.bool r)
      | .geq => Cmp (decide (b ≤ a)) fun r => k (.bool r)
      | .add => Ar j (a + b) fun n => k (.int j n)
      | .sub => Ar j (a - b) fun n => k (.int j n)
      | .mul => Ar j (a * b) fun n => k (.int j n)
      | _ => other
    | false => other
  | .string a, .string b =>
    match op with
    | .eql => Cmp (decide (a = b)) fun r => k (.bool r)
    | .neq => Cmp (!decide (a = b)) fun r => k (.bool r)
    | .lss => Cmp (ltB a b) fun r => k (.bool r)
    | .leq => Cmp (ltB a b || decide (a = b)) fun r => k (.bool r)
    | .gtr => Cmp (!(ltB a b || decide (a = b))) fun r => k (.bool r)
    | .geq => Cmp (!ltB a b) fun r => k (.bool r)
    | _ => other
  | _, _ => other

/-- parts put into a struct's cells -/
def gparts (e : Env) (fs : List (Nat × Nat × Bool)) : List (Nat × Operand) → List Value → (List Value → Prop) → Prop
  | [], z, k => k z
  | (i, x) :: l, z, k =>
    match nth fs i with
    | some (d, n, _) => frc (evo e x) fun v =>
      match Nat.beq (cellsL v).length n with
      | true => putAt Value d z (cellsL v) fun z' => gparts e fs l z' k
      | false => False
    | none => False

def gop (P : Program) (T : Tab) (e : Env) (o : Oper) (w : World) (k : Value → World → Prop) : Prop :=
  match o.op with
  | .move x => frc (evo e x) fun v => k v w
  | .assign x => frc (evo e x) fun v => k v w
  | .pick c a b =>
    match evo e c with
    | .bool true => frc (evo e a) fun v => k v w
    | .bool false => frc (evo e b) fun v => k v w
    | _ => False
  | .nilCheck x =>
    match evo e x with
    | .pointer (some a) => k (.pointer (some a)) w
    | .func (.func f) a b => k (.func (.func f) a b) w
    | _ => False
  | .fieldAddr s x f =>
    match evo e x with
    | .pointer (some ⟨b, off, none⟩) =>
      match T.get s with
      | some ⟨_, _, _, fs⟩ =>
        match nth fs f with
        | some (d, _, _) => k (.pointer (some ⟨b, off + d, none⟩)) w
        | none => False
      | none => False
    | _ => False
  | .field s x f =>
    match evo e x with
    | .agg ⟨l⟩ =>
      match T.get s with
      | some ⟨_, _, _, fs⟩ =>
        match nth fs f with
        | some (d, n, true) => dropK Value d l fun l1 => takeK Value n l1 fun l2 => k (.agg ⟨l2⟩) w
        | some (d, _, false) =>
          match nth l d with
          | some v => frc v fun v => k v w
          | none => False
        | none => False
      | none => False
    | _ => False
  | .extract x i =>
    match evo e x with
    | .tuple ⟨l⟩ =>
      match nth l i with
      | some v => frc v fun v => k v w
      | none => False
    | _ => False
  | .unOp .not _ x =>
    match evo e x with
    | .bool true => k (.bool false) w
    | .bool false => k (.bool true) w
    | _ => False
  | .unOp .. => OpP P (evo e) o fun v => k v w
  | .slice .. => OpP P (evo e) o fun v => k v w
  | .indexAddr .. => OpP P (evo e) o fun v => k v w
  | .index .. => OpP P (evo e) o fun v => k v w
  | .convert _ _ x =>
    match evo e x with
    | .int _ _ => OpP P (evo e) o fun v => k v w
    | _ => OpR P (evo e) o w k
  | .makeFunc fn a b => evl e a.toList fun a' => evl e b.toList fun b' => k (.func fn ⟨a'⟩ ⟨b'⟩) w
  | .binOp op t x y _ =>
    match evo e x, evo e y with
    | .pointer p, .pointer none =>
      match T.get t, op, p with
      | some ⟨_, .pointer _, _, _⟩, .eql, none => k (.bool true) w
      | some ⟨_, .pointer _, _, _⟩, .eql, some _ => k (.bool false) w
      | some ⟨_, .pointer _, _, _⟩, .neq, none => k (.bool false) w
      | some ⟨_, .pointer _, _, _⟩, .neq, some _ => k (.bool true) w
      | _, _, _ => False
    | .slice p _ _, .slice none _ _ =>
      match T.get t, op, p with
      | some ⟨_, .slice _, _, _⟩, .eql, none => k (.bool true) w
      | some ⟨_, .slice _, _, _⟩, .eql, some _ => k (.bool false) w
      | some ⟨_, .slice _, _, _⟩, .neq, none => k (.bool false) w
      | some ⟨_, .slice _, _, _⟩, .neq, some _ => k (.bool true) w
      | _, _, _ => False
    | a, b => gbin op a b (fun v => k v w) (OpP P (evo e) o fun v => k v w)
  | .build t ps =>
    match T.get t with
    | some ⟨i, _, true, f :: fs⟩ =>
      match i.zero with
      | some (.agg ⟨z⟩) => gparts e (f :: fs) ps.toList z fun z => k (.agg ⟨z⟩) w
      | _ => False
    | _ => OpR P (evo e) o w k
  | .call ⟨.builtin b, ⟨as⟩, ⟨ts⟩⟩ =>
    match b with
    | .len =>
      match as, ts with
      | [x], [t] =>
        match evo e x, T.get t with
        | .slice _ n _, some ⟨_, .slice _, _, _⟩ => k (.int .i64 (n : Int)) w
        | .string s, some ⟨_, .string, _, _⟩ => k (.int .i64 (s.size : Int)) w
        | _, _ => OpR P (evo e) o w k
      | _, _ => False
    | .min =>
      match as with
      | [x, y] =>
        match evo e x, evo e y with
        | .int .i64 a, .int .i64 b => k (.int .i64 (min a b)) w
        | _, _ => False
      | _ => False
    | .max =>
      match as with
      | [x, y] =>
        match evo e x, evo e y with
        | .int .i64 a, .int .i64 b => k (.int .i64 (max a b)) w
        | _, _ => False
      | _ => False
    | _ => OpR P (evo e) o w k
  | _ => OpR P (evo e) o w k

/-- does the evaluator take an operation as one that looks at no memory? -/
def lightK (T : Tab) (e : Env) (o : Oper) : Bool :=
  match o.op with
  | .move _ | .assign _ | .pick .. | .nilCheck _ | .fieldAddr .. | .field .. | .extract .. | .unOp .. | .makeFunc .. | .binOp .. | .slice .. | .indexAddr .. | .index .. => true
  | .convert _ _ x =>
    match evo e x with
    | .int _ _ => true
    | _ => false
  | .build t _ =>
    match T.get t with
    | some ⟨_, _, true, _ :: _⟩ => true
    | _ => false
  | .call ⟨.builtin b, ⟨as⟩, ⟨ts⟩⟩ =>
    match b with
    | .len =>
      match as, ts with
      | [x], [t] =>
        match evo e x, T.get t with
        | .slice _ _ _, some ⟨_, .slice _, _, _⟩ => true
        | .string _, some ⟨_, .string, _, _⟩ => true
        | _, _ => false
      | _, _ => true
    | .min => true
    | .max => true
    | _ => false
  | _ => false

end Go.Pst

namespace Go.Pst
open Go

section
variable {P : Program} {T : Tab}

theorem run_und {t : TypeId} {d : TypeDesc} (h : P.underlying t = some d) (w : World) : (underlying t).run P w = .ok d w := run_underlying h w

theorem info_of {t : TypeId} {i : TypeInfo} (h : P.types[t]? = some i) : P.info? t = some i := by
  have hlt : t < P.types.size := by
    rcases Nat.lt_or_ge t P.types.size with h' | h'
    · exact h'
    · rw [Array.getElem?_eq_none h'] at h; cases h
  show Tables.info? _ _ = _
  unfold Tables.info?
  rw [if_pos hlt]; exact h

theorem run_size {t : TypeId} {i : TypeInfo} (h : P.types[t]? = some i) (w : World) : (sizeOf t).run P w = .ok i.size w := by
  have h' := info_of h
  simp [sizeOf, typeInfo, h']

theorem run_zero {t : TypeId} {i : TypeInfo} {z : Value} (h : P.types[t]? = some i) (hz : i.zero = some z) (w : World) : (zeroValue t).run P w = .ok z w := by
  have h' := info_of h
  simp [zeroValue, typeInfo, h', hz]

theorem run_agg {t : TypeId} {b : Bool} (h : (match P.underlying t with | some (.struct _) | some (.array _ _) => b | some _ => !b | none => false) = true) (w : World) : (isAgg t).run P w = .ok b w := by
  cases hu : P.underlying t with
  | none => rw [hu] at h; cases h
  | some d =>
    rw [hu] at h
    unfold isAgg
    simp only [Sem.run_bind, run_und hu, Result.andThen_ok]
    cases d <;> simp_all

theorem fieldsOk_get {fs : List Field} {xs : List (Nat × Nat × Bool)} (h : fieldsOk P fs xs = true) {k : Nat} {x : Nat × Nat × Bool} (hx : nth xs k = some x) :
    ∃ f, fs[k]? = some f ∧ f.offset = x.1 ∧ (∀ w, (sizeOf f.type).run P w = .ok x.2.1 w) ∧ (∀ w, (isAgg f.type).run P w = .ok x.2.2 w) ∧ x.2.1 ≠ 0 := by
  induction fs generalizing xs k with
  | nil => cases xs with
    | nil => cases hx
    | cons y ys => simp [fieldsOk] at h
  | cons f fs ih =>
    cases xs with
    | nil => cases hx
    | cons y ys =>
      simp only [fieldsOk, Bool.and_eq_true, bne_iff_ne] at h
      obtain ⟨⟨⟨⟨h1, h2⟩, h3⟩, h4⟩, h5⟩ := h
      cases k with
      | zero =>
        simp only [nth, Option.some.injEq] at hx
        subst hx
        refine ⟨f, rfl, by simpa using h1, ?_, fun w => run_agg h4 w, h3⟩
        intro w
        cases hi : P.types[f.type]? with
        | none => rw [hi] at h2; cases h2
        | some i =>
          rw [hi] at h2
          rw [run_size hi]
          simp at h2; rw [h2]
      | succ k =>
        simpa using ih h5 hx

theorem TI.Ok.field {t : Nat} {i : TI} (h : TI.Ok P t i) {k : Nat} {x : Nat × Nat × Bool} (hx : nth i.fields k = some x) :
    ∃ fs : Array Field, P.underlying t = some (.struct fs) ∧ ∃ f, fs[k]? = some f ∧ f.offset = x.1 ∧ (∀ w, (sizeOf f.type).run P w = .ok x.2.1 w) ∧ (∀ w, (isAgg f.type).run P w = .ok x.2.2 w) ∧ x.2.1 ≠ 0 := by
  have hc := h.check
  have hu := h.und
  unfold TI.check at hc
  cases hd : i.desc with
  | struct fs =>
    rw [hd] at hc hu
    simp only [Bool.and_eq_true] at hc
    obtain ⟨f, hf, r⟩ := fieldsOk_get hc.2 hx
    exact ⟨fs, hu, f, by simpa using hf, r⟩
  | _ => rw [hd] at hc; simp_all [nth]

theorem TI.Ok.agg {t : Nat} {i : TI} (h : TI.Ok P t i) (w : World) : (isAgg t).run P w = .ok i.agg w := by
  have hc := h.check
  unfold TI.check at hc
  apply run_agg
  rw [h.und]
  cases hd : i.desc <;> rw [hd] at hc <;> simp_all

theorem add_none (b off d : Nat) : (⟨b, off, none⟩ : Addr).add d = ⟨b, off + d, none⟩ := by
  unfold Addr.add; split <;> simp_all

theorem sameK_eq {j j' : IntKind} (h : sameK j j' = true) : j = j' := by cases j <;> cases j' <;> first | rfl | cases h

theorem bytes_eq (a b : ByteArray) : (a.toList == b.toList) = decide (a = b) := by
  rw [ByteArray.toList_eq, ByteArray.toList_eq, Bool.eq_iff_iff]
  simp only [beq_iff_eq, decide_eq_true_eq]
  constructor
  · intro h
    cases a; cases b
    simp at h; simp [h]
  · intro h; rw [h]

theorem gbin_ok {op : BinOp} {x y : Value} {k : Value → Prop} {other : Prop} {t : TypeId} {xo yo : Operand}
    (h : gbin op x y k other) : other ∨ ∃ v, (∀ w, ((do eqGuard op t xo yo x y; binOp op t x y) : Sem Value).run P w = .ok v w) ∧ k v := by
  unfold gbin at h
  split at h
  · rename_i j a j' b
    split at h
    · rename_i hk
      obtain rfl := sameK_eq hk
      have hg : ∀ op w, (eqGuard op t xo yo (.int j a) (.int j b)).run P w = .ok () w := by
        intro op w; unfold eqGuard; split <;> rfl
      split at h <;> first | exact .inl h | skip
      all_goals
        replace h := h.out
        refine .inr ⟨_, fun w => ?_, h⟩
        simp only [Sem.run_bind, hg, Result.andThen_ok, binOp, ne_eq, not_true_eq_false, if_false]
        simp [Op.intCmp, Op.intArith, Sem.run_pure]
      all_goals (try rw [Bool.eq_iff_iff])
      all_goals (try simp)
    · exact .inl h
  · rename_i a b
    have hg : ∀ op w, (eqGuard op t xo yo (.string a) (.string b)).run P w = .ok () w := by
      intro op w; unfold eqGuard; split <;> rfl
    split at h <;> first | exact .inl h | skip
    all_goals
      replace h := h.out
      refine .inr ⟨_, fun w => ?_, h⟩
      simp only [Sem.run_bind, hg, Result.andThen_ok, binOp]
      simp [Op.stringOp, Sem.run_pure, bytes_eq, ltB]
    all_goals (try rw [Bool.eq_iff_iff])
    all_goals (try simp)
  · exact .inl h

theorem putAt_ok {β : Type} {d : Nat} {z c : List β} {k : List β → Prop} (h : putAt β d z c k) :
    d + c.length ≤ z.length ∧ k (z.take d ++ c ++ z.drop (d + c.length)) := by
  induction z generalizing d c k with
  | nil =>
    cases d with
    | zero =>
      cases c with
      | nil => exact ⟨by simp, by simpa [putAt] using h⟩
      | cons x c => simp [putAt] at h
    | succ d => simp [putAt] at h
  | cons y z ih =>
    cases d with
    | zero =>
      cases c with
      | nil => exact ⟨by simp, by simpa [putAt] using h⟩
      | cons x c =>
        obtain ⟨h1, h2⟩ := ih h
        exact ⟨by simp at h1 ⊢; omega, by simpa using h2⟩
    | succ d =>
      obtain ⟨h1, h2⟩ := ih h
      exact ⟨by simp at h1 ⊢; omega, by simpa [Nat.add_right_comm] using h2⟩

theorem foldl_put (cs : List Value) (j off : Nat) (l : List Value) (h : off + j + cs.length ≤ l.length) :
    ((cs.zipIdx j).foldl (fun (a : Array Value) (c : Value × Nat) => a.setIfInBounds (off + c.2) c.1) l.toArray) = (l.take (off + j) ++ cs ++ l.drop (off + j + cs.length)).toArray := by
  induction cs generalizing j l with
  | nil => simp
  | cons c cs ih =>
    simp only [List.zipIdx_cons, List.foldl_cons, List.setIfInBounds_toArray]
    rw [ih (j + 1) _ (by simp at h ⊢; omega)]
    congr 1
    simp only [List.length_cons] at h
    apply List.ext_getElem?
    intro n
    simp only [List.getElem?_append, List.getElem?_take, List.getElem?_drop, List.getElem?_set, List.length_append, List.length_take, List.length_set, List.length_cons]
    grind

theorem fill_ok {fs : List (Nat × Nat × Bool)} {place : Nat → Option (Nat × Nat)} {e : Env}
    (hp : ∀ i x, nth fs i = some x → place i = some (x.1, x.2.1)) :
    ∀ (l : List (Nat × Operand)) (z : List Value) (k : List Value → Prop), gparts e fs l z k →
      ∃ z', Instr.fill place z.toArray (l.map fun p => (p.1, evo e p.2)) = some z'.toArray ∧ k z'
  | [], z, k, h => ⟨z, rfl, h⟩
  | (i, x) :: l, z, k, h => by
    unfold gparts at h
    split at h
    · rename_i d n b hd
      rw [frc_eq] at h
      split at h
      · rename_i hb
        have hlen := Nat.eq_of_beq_eq_true hb
        obtain ⟨h1, h2⟩ := putAt_ok h
        obtain ⟨z', hz, hk⟩ := fill_ok hp l _ k h2
        refine ⟨z', ?_, hk⟩
        rw [← hz]
        simp only [List.map_cons, Instr.fill, hp _ _ hd]
        rw [cellsL_eq] at hlen h1
        simp only [Array.length_toList] at hlen h1
        rw [if_neg (by simp; omega)]
        congr 1
        have := foldl_put (evo e x).cells.toList 0 d z (by simp; omega)
        simp only [Nat.add_zero, Array.length_toList] at this
        rw [cellsL_eq, Array.length_toList, ← this, ← Array.foldl_toList, Array.toList_zipIdx]
      · exact h.elim
    · exact h.elim

theorem nilCheck_ptr {e : Env} {x : Operand} {a : Addr} {d ty pos af g} (h : evo e x = .pointer (some a)) (w : World) :
    (execOp (evo e) ⟨d, .nilCheck x, ty, pos, af, g⟩).run P w = .ok (.value (.pointer (some a))) w := by
  simp [execOp, h]

theorem places_ok {fs : Array Field} {xs : List (Nat × Nat × Bool)} (h : fieldsOk P fs.toList xs = true) :
    ∃ pl : Array (Nat × Nat), (∀ w, (fs.mapM fun f => (do pure (f.offset, ← sizeOf f.type) : Sem (Nat × Nat))).run P w = .ok pl w) ∧ ∀ i x, nth xs i = some x → pl[i]? = some (x.1, x.2.1) := by
  rw [Array.mapM_eq_mapM_toList]
  simp only [Sem.run_map]
  have key : ∀ (l : List Field) (xs : List (Nat × Nat × Bool)), fieldsOk P l xs = true →
      ∃ pl : List (Nat × Nat), (∀ w, (l.mapM fun f => (do pure (f.offset, ← sizeOf f.type) : Sem (Nat × Nat))).run P w = .ok pl w) ∧ ∀ i x, nth xs i = some x → pl[i]? = some (x.1, x.2.1) := by
    intro l
    induction l with
    | nil => intro xs h; exact ⟨[], fun w => by simp, fun i x hx => by cases xs with | nil => cases hx | cons y ys => simp [fieldsOk] at h⟩
    | cons f l ih =>
      intro xs h
      cases xs with
      | nil => simp [fieldsOk] at h
      | cons y ys =>
        have h0 := fieldsOk_get (k := 0) h (x := y) rfl
        obtain ⟨f', hf', ho, hs, _⟩ := h0
        simp only [List.getElem?_cons_zero, Option.some.injEq] at hf'
        subst hf'
        have h' : fieldsOk P l ys = true := by
          simp only [fieldsOk, Bool.and_eq_true] at h; exact h.2
        obtain ⟨pl, hpl, hg⟩ := ih ys h'
        refine ⟨(f.offset, y.2.1) :: pl, fun w => ?_, fun i x hx => ?_⟩
        · simp only [List.mapM_cons, Sem.run_bind, hs, Result.andThen_ok, hpl, Sem.run_pure]
        · cases i with
          | zero => simp only [nth, Option.some.injEq] at hx; subst hx; simp [ho]
          | succ i => simpa using hg i x hx
  obtain ⟨pl, hpl, hg⟩ := key _ _ h
  exact ⟨pl.toArray, fun w => by simp only [hpl, Result.andThen_ok], fun i x hx => by simpa using hg i x hx⟩

theorem equalIn_ptr {t el : TypeId} (hu : P.underlying t = some (.pointer el)) (p : Option Addr) (d : Nat) (w : World) :
    (Op.equalIn (d + 1) t (.pointer p) (.pointer none)).run P w = .ok p.isNone w := by
  unfold Op.equalIn
  simp only [Sem.run_bind, run_und hu, Result.andThen_ok]
  cases p <;> rfl

theorem equalIn_sl {t el : TypeId} (hu : P.underlying t = some (.slice el)) (p : Option Addr) (n c n' c' : Nat) (d : Nat) (w : World) :
    (Op.equalIn (d + 1) t (.slice p n c) (.slice none n' c')).run P w = .ok p.isNone w := by
  unfold Op.equalIn
  simp only [Sem.run_bind, run_und hu, Result.andThen_ok]
  cases p <;> rfl

/-- what the evaluator does is the work of an operation without memory, or the operation as it stands -/
theorem gop_cases (hT : T.Ok P) {e : Env} {o : Oper} {w : World} {k : Value → World → Prop} (h : gop P T e o w k) :
    (∃ v, (∀ w, (execOp (evo e) o).run P w = .ok (.value v) w) ∧ k v w) ∨ (lightK T e o = false ∧ OpR P (evo e) o w k) := by
  have key : ∀ v, (∀ w, (execOp (evo e) o).run P w = .ok (.value v) w) → k v w → (∃ v, (∀ w, (execOp (evo e) o).run P w = .ok (.value v) w) ∧ k v w) ∨ (lightK T e o = false ∧ OpR P (evo e) o w k) :=
    fun v h1 h2 => .inl ⟨v, h1, h2⟩
  obtain ⟨dst, op, ty, pos, af, g⟩ := o
  unfold gop at h
  simp only at h
  split at h
  · rw [frc_eq] at h; exact key _ (fun w => by simp [execOp]) h
  · rw [frc_eq] at h; exact key _ (fun w => by simp [execOp]) h
  · rename_i c a b
    split at h
    · rename_i hc
      rw [frc_eq] at h; exact key (evo e a) (fun w => by simp [execOp, hc, asBool]) h
    · rename_i hc
      rw [frc_eq] at h; exact key (evo e b) (fun w => by simp [execOp, hc, asBool]) h
    · exact h.elim
  · rename_i x
    split at h
    · rename_i a ha
      exact key _ (fun w => by simp [execOp, ha]) h
    · rename_i f a b ha
      exact key _ (fun w => by simp [execOp, ha]) h
    · exact h.elim
  · rename_i s x f
    split at h
    · rename_i b off ha
      split at h
      · rename_i i ds ag fs hg
        split at h
        · rename_i d n c hd
          obtain ⟨fl, hu, f', hf, ho, hs, _, hne⟩ := (hT.get hg).field (k := f) (x := (d, n, c)) hd
          refine key (.pointer (some ⟨b, off + d, none⟩)) (fun w => ?_) h
          simp only at ho hs hne
          simp [execOp, Instr.fieldAt, run_und hu, hf, ha, Instr.sureAddr, fieldPlace, hs, hne, ho, add_none]
        · exact h.elim
      · exact h.elim
    · exact h.elim
  · rename_i s x f
    split at h
    · rename_i l ha
      split at h
      · rename_i i ds ag fs hg
        split at h
        · rename_i d n hd
          obtain ⟨fl, hu, f', hf, ho, hs, hag, hne⟩ := (hT.get hg).field (k := f) (x := (d, n, true)) hd
          rw [dropK_eq, takeK_eq] at h
          refine key (.agg ⟨(l.drop d).take n⟩) (fun w => ?_) h
          simp only at ho hs hne hag
          simp [execOp, Instr.field, run_und hu, hf, ha, asAgg, part, hag, hs, ho]
        · rename_i d n hd
          obtain ⟨fl, hu, f', hf, ho, hs, hag, hne⟩ := (hT.get hg).field (k := f) (x := (d, n, false)) hd
          split at h
          · rename_i v hv
            rw [frc_eq] at h
            rw [nth_eq] at hv
            refine key (v) (fun w => ?_) h
            simp only at ho hs hne hag
            simp [execOp, Instr.field, run_und hu, hf, ha, asAgg, part, hag, ho, hv]
          · exact h.elim
        · exact h.elim
      · exact h.elim
    · exact h.elim
  · rename_i x i
    split at h
    · rename_i l ha
      split at h
      · rename_i v hv
        rw [frc_eq] at h
        rw [nth_eq] at hv
        exact key (v) (fun w => by simp [execOp, Instr.extract, ha, hv]) h
      · exact h.elim
    · exact h.elim
  · rename_i t x
    split at h
    · rename_i ha
      exact key (.bool false) (fun w => by simp [execOp, Op.unary, ha]) h
    · rename_i ha
      exact key (.bool true) (fun w => by simp [execOp, Op.unary, ha]) h
    · exact h.elim
  · exact .inl h.get
  · exact .inl h.get
  · exact .inl h.get
  · exact .inl h.get
  · split at h
    · exact .inl h.get
    · rename_i x hx
      refine .inr ⟨?_, h⟩
      simp only [lightK]
  · rename_i fn a b
    rw [evl_eq, evl_eq] at h
    refine key _ (fun w => ?_) h
    simp [execOp, Instr.makeFunc]
    constructor <;> (apply Array.ext'; simp)
  · rename_i op t x y yt
    split at h
    · rename_i p hx hy
      have eqr : ∀ ds el ag fs, T.get t = some ⟨ds, .pointer el, ag, fs⟩ → ∀ w, (Op.equal t (.pointer p) (.pointer none)).run P w = .ok p.isNone w := by
        intro ds el ag fs hg w
        have hu := (hT.get hg).und
        simp only at hu
        exact equalIn_ptr hu p 9999 w
      have gr : ∀ op w, (eqGuard op t x y (.pointer p) (.pointer none)).run P w = .ok () w := by
        intro op w; unfold eqGuard; split <;> rfl
      split at h <;> first | exact h.elim | skip
      all_goals
        rename_i hg
        refine key _ (fun w => ?_) h
        have e1 := eqr _ _ _ _ hg w
        have e2 := fun op => gr op w
        simp only [Option.isNone] at e1
        simp [execOp, hx, hy, binOp, e1, e2]
    · rename_i p n c n' c' hx hy
      have eqr : ∀ ds el ag fs, T.get t = some ⟨ds, .slice el, ag, fs⟩ → ∀ w, (Op.equal t (.slice p n c) (.slice none n' c')).run P w = .ok p.isNone w := by
        intro ds el ag fs hg w
        have hu := (hT.get hg).und
        simp only at hu
        exact equalIn_sl hu p n c n' c' 9999 w
      have gr : ∀ op w, (eqGuard op t x y (.slice p n c) (.slice none n' c')).run P w = .ok () w := by
        intro op w; unfold eqGuard; split <;> rfl
      split at h <;> first | exact h.elim | skip
      all_goals
        rename_i hg
        refine key _ (fun w => ?_) h
        have e1 := eqr _ _ _ _ hg w
        have e2 := fun op => gr op w
        simp only [Option.isNone] at e1
        simp [execOp, hx, hy, binOp, e1, e2]
    rcases gbin_ok (P := P) (t := t) (xo := x) (yo := y) h with h | ⟨v, hv, hk⟩
    · exact .inl h.get
    · exact key v (fun w => by have hv := hv w; simp only [execOp, Sem.run_bind] at hv ⊢; simp only [hv, Result.andThen_ok, Sem.run_pure]) hk
  · rename_i t ps
    split at h
    · rename_i i ds f fs hg
      have hok := hT.get hg
      have hc := hok.check
      have hu := hok.und
      unfold TI.check at hc
      simp only at hc hu
      split at hc
      · rename_i fl
        simp only [Bool.and_eq_true] at hc
        split at h
        · rename_i z hz
          obtain ⟨pl, hpl, hplg⟩ := places_ok hc.2
          obtain ⟨z', hz', hk⟩ := fill_ok (place := (pl[·]?)) hplg _ _ _ h
          refine key (.agg z'.toArray) (fun w => ?_) hk
          have hf : Instr.fill (pl[·]?) ⟨z⟩ (ps.toList.map fun p => (p.1, evo e p.2)) = some z'.toArray := hz'
          have hpl' := hpl
          simp only [execOp, Instr.build, Sem.run_bind, run_zero hok.info hz, run_und hu, Result.andThen_ok, hpl', Value.cells, Array.toList_map, hf, Sem.run_pure]
        · exact h.elim
      · simp at hc
      · simp at hc
    · rename_i hg
      refine .inr ⟨?_, h⟩
      simp only [lightK]
  · rename_i b as ts
    split at h
    · split at h
      · rename_i x t
        split at h
        · rename_i a n c ds E ag fs hx hg
          refine key (.int .i64 (n : Int)) (fun w => ?_) h
          have hu := (hT.get hg).und
          simp [execOp, resolve, invoke, builtin, Builtin.len_, hx, run_und hu, goInt]
        · rename_i a ds ag fs hx hg
          refine key (.int .i64 (a.size : Int)) (fun w => ?_) h
          have hu := (hT.get hg).und
          simp [execOp, resolve, invoke, builtin, Builtin.len_, hx, run_und hu, goInt]
        · rename_i h1 h2
          refine .inr ⟨?_, h⟩
          simp only [lightK]
      · exact h.elim
    · split at h
      · rename_i x y
        split at h
        · rename_i a c hx hy
          refine key (.int .i64 (min a c)) (fun w => ?_) h
          have : (if c < a then c else a) = min a c := by omega
          simp [execOp, resolve, invoke, builtin, Builtin.min_, hx, hy, Builtin.min2, this]
        · exact h.elim
      · exact h.elim
    · split at h
      · rename_i x y
        split at h
        · rename_i a c hx hy
          refine key (.int .i64 (max a c)) (fun w => ?_) h
          have : (if a < c then c else a) = max a c := by omega
          simp [execOp, resolve, invoke, builtin, Builtin.max_, hx, hy, Builtin.max2, this]
        · exact h.elim
      · exact h.elim
    · rename_i h1 h2 h3
      refine .inr ⟨?_, h⟩
      cases b <;> simp_all [lightK]
  · refine .inr ⟨?_, h⟩
    simp only [lightK]

theorem gop_sound (hT : T.Ok P) {e : Env} {o : Oper} {w : World} {k : Value → World → Prop} (h : gop P T e o w k) : OpR P (evo e) o w k := by
  rcases gop_cases hT h with ⟨v, h1, h2⟩ | ⟨_, h⟩
  · exact .ok (h1 w) h2
  · exact h

end
end Go.Pst

namespace Go.Pst
open Go

def gput (N : Nat) (d : Option Tmp) (e : Env) (v : Value) (k : Env → Prop) : Prop :=
  match d with
  | none => k e
  | some d =>
    match Nat.blt d N with
    | true => k (upd e d v)
    | false => False

/-- one operation of a region; nx: the rest -/
def gstep (P : Program) (T : Tab) (N : Nat) (ops : List Oper) (o : Oper) (nx : (Env → World → Prop) → Env → World → Prop) (K : Env → World → Prop) (e : Env) (w : World) : Prop :=
  match o.guard with
  | none => gop P T e o w fun v w' => gput N o.dst e v fun e' => nx K e' w'
  | some (j, want) =>
    match (nth ops j).bind (·.dst) with
    | some d =>
      match Nat.blt d N with
      | true =>
        match e d, want with
        | .bool true, true => gop P T e o w fun v w' => gput N o.dst e v fun e' => nx K e' w'
        | .bool false, false => gop P T e o w fun v w' => gput N o.dst e v fun e' => nx K e' w'
        | .bool true, false => gput N o.dst e undef fun e' => nx K e' w
        | .bool false, true => gput N o.dst e undef fun e' => nx K e' w
        | .tuple _, _ => gput N o.dst e undef fun e' => nx K e' w
        | _, _ => False
      | false => False
    | none => False

/-- a region's operations, in the order of the text (by the recursor itself: so Lean's kernel sees the same terms as the elaborator) -/
noncomputable def gops (P : Program) (T : Tab) (N : Nat) (ops : List Oper) (l : List Oper) : (Env → World → Prop) → Env → World → Prop :=
  @List.rec Oper (fun _ => (Env → World → Prop) → Env → World → Prop) (fun K e w => K e w) (fun o _ ih => gstep P T N ops o ih) l
theorem gops_cons (P : Program) (T : Tab) (N : Nat) (ops : List Oper) (o : Oper) (l : List Oper) (K : Env → World → Prop) (e : Env) (w : World) :
    gops P T N ops (o :: l) K e w = gstep P T N ops o (gops P T N ops l) K e w := rfl

theorem gput_ok {N : Nat} {d : Option Tmp} {e : Env} {v : Value} {k : Env → Prop} (h : gput N d e v k) {a : Act} (hf : Fr N e a) : ∃ e', Fr N e' (a.put d v) ∧ k e' := by
  unfold gput at h
  split at h
  · exact ⟨e, hf, h⟩
  · split at h
    · rename_i hb
      exact ⟨_, hf.put _ v hb, h⟩
    · exact h.elim

theorem Fr.tmp {N : Nat} {e : Env} {a : Act} (h : Fr N e a) {d : Nat} (hd : Nat.blt d N = true) : a.tmps[d]? = some (e d) := by
  have hd' : d < a.tmps.size := by rw [h.size]; exact Nat.le_of_ble_eq_true hd
  rw [← h.get d]
  simp [Array.getD, hd']

theorem gops_sound {P : Program} {T : Tab} (hT : T.Ok P) {N : Nat} {ops : Array Oper} {K : EPost} : ∀ (l : List Oper) (e : Env) (w : World),
    gops P T N ops.toList l (fun e w => K .normal e w) e w → ∀ a, Fr N e a → wpList P ops (lift N K) l a w
  | [], e, w, h, a, hf => ⟨e, hf, h⟩
  | o :: l, e, w, h, a, hf => by
    rw [gops_cons] at h
    unfold gstep at h
    unfold wpList
    have run : gop P T e o w (fun v w' => gput N o.dst e v fun e' => gops P T N ops.toList l (fun e w => K .normal e w) e' w') → o.wp P a w (wpList P ops (lift N K) l) (lift N K) := by
      intro h
      refine OpR.wp hf (gop_sound hT h) fun v w' hv => ?_
      obtain ⟨e', hf', hk⟩ := gput_ok hv hf
      exact gops_sound hT l e' w' hk _ hf'
    have skip : gput N o.dst e undef (fun e' => gops P T N ops.toList l (fun e w => K .normal e w) e' w) → wpList P ops (lift N K) l (a.put o.dst undef) w := by
      intro h
      obtain ⟨e', hf', hk⟩ := gput_ok h hf
      exact gops_sound hT l e' w hk _ hf'
    split at h
    · rename_i hg
      rw [if_pos (by simp [Region.wanted, hg])]
      exact .inl (run h)
    · rename_i j want hg
      split at h
      · rename_i d hd
        rw [nth_eq, Array.getElem?_toList] at hd
        split at h
        · rename_i hb
          have hy : yielded ops a.tmps j = match e d with | .bool b => some b | _ => none := by
            unfold yielded
            rw [hd]
            simp only [Option.bind_some, hf.tmp hb]
            split <;> simp_all
          split at h
          · rename_i he
            rw [if_pos (by simp [Region.wanted, hg, hy, he])]; exact .inl (run h)
          · rename_i he
            rw [if_pos (by simp [Region.wanted, hg, hy, he])]; exact .inl (run h)
          · rename_i he
            rw [if_neg (by simp [Region.wanted, hg, hy, he])]; exact skip h
          · rename_i he
            rw [if_neg (by simp [Region.wanted, hg, hy, he])]; exact skip h
          · rename_i he
            rw [if_neg (by simp [Region.wanted, hg, hy, he])]; exact skip h
          · exact h.elim
        · exact h.elim
      · exact h.elim

/-- code that the evaluator does not take by itself: a loop, a region that draws its order -/
structure Cw (P : Program) (N : Nat) (c : Code) (K : EPost) (e : Env) (w : World) : Prop where
  out : ∀ a, Fr N e a → c.wp P (lift N K) a w

def seqK (n : Env → World → Prop) (K : EPost) : EPost := fun x e w => match x with | .normal => n e w | x => K x e w
def blkK (id : Nat) (K : EPost) : EPost := fun x e w =>
  match x with
  | .exit i => match Nat.beq i id with | true => K .normal e w | false => K (.exit i) e w
  | x => K x e w

def greg (P : Program) (T : Tab) (N : Nat) (id : Nat) : Array Oper → Bool → EPost → Env → World → Prop
  | ⟨ops⟩, false, K, e, w => gops P T N ops ops (fun e w => K .normal e w) e w
  | ops, true, K, e, w => Cw P N (.region id ops true) K e w
def gcond (c : Operand) (a b : EPost → Env → World → Prop) (K : EPost) (e : Env) (w : World) : Prop :=
  match evo e c with
  | .bool true => a K e w
  | .bool false => b K e w
  | _ => False

noncomputable def go (P : Program) (T : Tab) (N : Nat) (c : Code) : EPost → Env → World → Prop :=
  @Code.rec (fun _ => EPost → Env → World → Prop)
    (fun K e w => K .normal e w)
    (fun id ops dr => greg P T N id ops dr)
    (fun _ _ ia ib K e w => ia (seqK (fun e w => ib K e w) K) e w)
    (fun c _ _ ia ib => gcond c ia ib)
    (fun id _ ic K e w => ic (blkK id K) e w)
    (fun c _ K e w => Cw P N (.loop c) K e w)
    (fun f ps a b _ _ K e w => Cw P N (.rangeFunc f ps a b) K e w)
    (fun id K e w => K (.exit id) e w)
    (fun c _ K e w => Cw P N (.scope c) K e w)
    (fun l K e w => Cw P N (.label l) K e w)
    (fun l K e w => Cw P N (.goto l) K e w)
    (fun K e w => K .ret e w)
    (fun y K e w => Cw P N (.refuse y) K e w) c

theorem lift_seq {N : Nat} {n : Env → World → Prop} {K : EPost} {next : Act → World → Prop} (h : ∀ a w, (∃ e, Fr N e a ∧ n e w) → next a w) :
    ∀ x a w, lift N (seqK n K) x a w → Exit.then next (lift N K) x a w := by
  rintro x a w ⟨e, hf, hk⟩
  cases x with
  | normal => exact h _ _ ⟨e, hf, hk⟩
  | _ => exact ⟨e, hf, hk⟩

theorem lift_blk {N : Nat} {id : Nat} {K : EPost} : ∀ x a w, lift N (blkK id K) x a w → Exit.inBlock id (lift N K) x a w := by
  rintro x a w ⟨e, hf, hk⟩
  cases x with
  | exit i =>
    simp only [blkK] at hk
    simp only [Exit.inBlock]
    split at hk
    · rename_i hb; rw [if_pos (Nat.eq_of_beq_eq_true hb)]; exact ⟨e, hf, hk⟩
    · rename_i hb
      rw [if_neg (fun h => by subst h; simp at hb)]; exact ⟨e, hf, hk⟩
  | _ => exact ⟨e, hf, hk⟩

theorem go_sound {P : Program} {T : Tab} (hT : T.Ok P) {N : Nat} : ∀ (c : Code) (K : EPost) (e : Env) (w : World), go P T N c K e w → Cw P N c K e w
  | .skip, K, e, w, h => ⟨fun a hf => wp_skip ⟨e, hf, h⟩⟩
  | .ret, K, e, w, h => ⟨fun a hf => wp_ret ⟨e, hf, h⟩⟩
  | .exit id, K, e, w, h => ⟨fun a hf => wp_exit ⟨e, hf, h⟩⟩
  | .region _ ⟨ops⟩ false, K, e, w, h => ⟨fun a hf => wp_region_lit (gops_sound (ops := ops.toArray) hT ops e w h a hf)⟩
  | .region _ ⟨ops⟩ true, K, e, w, h => h
  | .seq c d, K, e, w, h => ⟨fun a hf => by
    have := (go_sound hT c _ e w h).out a hf
    exact wp_seq (wp_mono this (lift_seq fun a w ⟨e, hf, hk⟩ => (go_sound hT d K e w hk).out a hf))⟩
  | .block id c, K, e, w, h => ⟨fun a hf => wp_block (wp_mono ((go_sound hT c _ e w h).out a hf) lift_blk)⟩
  | .cond c x y, K, e, w, h => ⟨fun a hf => by
    replace h : gcond c (go P T N x) (go P T N y) K e w := h
    unfold gcond at h
    split at h
    · rename_i hc
      exact wp_cond_true (by rw [hf.eval]; exact hc) ((go_sound hT x K e w h).out a hf)
    · rename_i hc
      exact wp_cond_false (by rw [hf.eval]; exact hc) ((go_sound hT y K e w h).out a hf)
    · exact h.elim⟩
  | .loop c, K, e, w, h => h
  | .rangeFunc .., K, e, w, h => h
  | .scope c, K, e, w, h => h
  | .label l, K, e, w, h => h
  | .goto l, K, e, w, h => h
  | .refuse y, K, e, w, h => h

theorem Cw.mono {P : Program} {N : Nat} {c : Code} {K K' : EPost} {e : Env} {w : World} (h : Cw P N c K e w) (hk : ∀ x e w, K x e w → K' x e w) : Cw P N c K' e w :=
  ⟨fun a hf => wp_mono (h.out a hf) fun x a w ⟨e, hf, h⟩ => ⟨e, hf, hk _ _ _ h⟩⟩

theorem gput_mono {N : Nat} {d : Option Tmp} {e : Env} {v : Value} {k k' : Env → Prop} (h : gput N d e v k) (hk : ∀ e, k e → k' e) : gput N d e v k' := by
  unfold gput at h ⊢
  split
  · exact hk _ h
  · split <;> simp_all

theorem frc_mono {v : Value} {k k' : Value → Prop} (h : frc v k) (hk : ∀ v, k v → k' v) : frc v k' := by
  rw [frc_eq] at h ⊢; exact hk _ h

theorem putAt_mono {β : Type} {d : Nat} {z c : List β} {k k' : List β → Prop} (h : putAt β d z c k) (hk : ∀ v, k v → k' v) : putAt β d z c k' := by
  induction z generalizing d c k k' with
  | nil => cases d <;> cases c <;> simp_all [putAt]
  | cons y z ih =>
    cases d with
    | zero =>
      cases c with
      | nil => exact hk _ h
      | cons x c => exact ih (k := fun r => k (x :: r)) (k' := fun r => k' (x :: r)) h fun v => hk _
    | succ d => exact ih (k := fun r => k (y :: r)) (k' := fun r => k' (y :: r)) h fun v => hk _

theorem gparts_mono {e : Env} {fs : List (Nat × Nat × Bool)} : ∀ {l : List (Nat × Operand)} {z : List Value} {k k' : List Value → Prop}, gparts e fs l z k → (∀ v, k v → k' v) → gparts e fs l z k'
  | [], z, k, k', h, hk => hk _ h
  | (i, x) :: l, z, k, k', h, hk => by
    unfold gparts at h ⊢
    split
    · rename_i hd
      rw [hd] at h
      simp only at h
      refine frc_mono h fun v h => ?_
      split
      · rename_i hb
        rw [hb] at h
        exact putAt_mono h fun v h => gparts_mono h hk
      · rename_i hb
        rw [hb] at h
        exact h
    · rename_i hd; rw [hd] at h; exact h

theorem gbin_mono {op : BinOp} {x y : Value} {k k' : Value → Prop} {o o' : Prop} (h : gbin op x y k o) (hk : ∀ v, k v → k' v) (ho : o → o') : gbin op x y k' o' := by
  unfold gbin at h ⊢
  split <;> (try split) <;> (try split) <;> simp_all <;> first | (exact Cmp.mono h fun v => hk _) | (exact Ar.mono h fun v => hk _)

theorem gop_mono {P : Program} {T : Tab} {e : Env} {o : Oper} {w : World} {k k' : Value → World → Prop} (h : gop P T e o w k) (hk : ∀ v w, k v w → k' v w) : gop P T e o w k' := by
  obtain ⟨dst, op, ty, pos, af, g⟩ := o
  unfold gop at h ⊢
  simp only at h ⊢
  split <;> simp only at h
  · exact frc_mono h fun v => hk v w
  · exact frc_mono h fun v => hk v w
  · split <;> simp_all [frc_eq]
  · split <;> simp_all
  · (repeat' split) <;> simp_all
  · (repeat' split) <;> simp_all [frc_eq, dropK_eq, takeK_eq]
  · (repeat' split) <;> simp_all [frc_eq]
  · (repeat' split) <;> simp_all
  · exact OpP.mono h fun v => hk v w
  · exact OpP.mono h fun v => hk v w
  · exact OpP.mono h fun v => hk v w
  · exact OpP.mono h fun v => hk v w
  · split at h
    · exact OpP.mono h fun v => hk v w
    · exact OpR.mono h hk
  · simp_all [evl_eq]
  · split at h
    · split at h <;> first | exact hk _ _ h | exact h
    · split at h <;> first | exact hk _ _ h | exact h
    · exact gbin_mono h (fun v => hk v w) fun h => OpP.mono h fun v => hk v w
  · split
    · rename_i hg
      rw [hg] at h
      simp only at h
      split
      · rename_i hz
        rw [hz] at h
        exact gparts_mono h fun v => hk _ w
      · rename_i hz
        split at h
        · rename_i z hz'
          exact absurd hz' (hz z)
        · exact h
    · rename_i hg
      split at h
      · rename_i hz'
        exact absurd hz' (hg _ _ _ _)
      · exact OpR.mono h hk
  · (repeat' split at h) <;> (repeat' split) <;> first | exact hk _ _ h | exact OpR.mono h hk | exact h.elim | simp_all
  · exact OpR.mono h hk

theorem gops_mono {P : Program} {T : Tab} {N : Nat} {ops : List Oper} {K K' : Env → World → Prop} (hk : ∀ e w, K e w → K' e w) : ∀ (l : List Oper) (e : Env) (w : World),
    gops P T N ops l K e w → gops P T N ops l K' e w
  | [], e, w, h => hk _ _ h
  | o :: l, e, w, h => by
    have run : ∀ e w, gop P T e o w (fun v w' => gput N o.dst e v fun e' => gops P T N ops l K e' w') → gop P T e o w (fun v w' => gput N o.dst e v fun e' => gops P T N ops l K' e' w') :=
      fun e w h => gop_mono h fun v w h => gput_mono h fun e h => gops_mono hk l e w h
    have skip : ∀ e w, gput N o.dst e undef (fun e' => gops P T N ops l K e' w) → gput N o.dst e undef (fun e' => gops P T N ops l K' e' w) :=
      fun e w h => gput_mono h fun e h => gops_mono hk l e w h
    rw [gops_cons] at h ⊢
    unfold gstep at h ⊢
    cases hg : o.guard with
    | none => rw [hg] at h; exact run _ _ h
    | some p =>
      obtain ⟨j, want⟩ := p
      rw [hg] at h
      simp only at h ⊢
      cases hd : (nth ops j).bind (·.dst) with
      | none => rw [hd] at h; exact h
      | some d =>
        rw [hd] at h
        simp only at h ⊢
        cases hb : Nat.blt d N with
        | false => rw [hb] at h; exact h
        | true =>
          rw [hb] at h
          simp only at h ⊢
          split at h
          · exact run _ _ h
          · exact run _ _ h
          · exact skip _ _ h
          · exact skip _ _ h
          · exact skip _ _ h
          · exact h.elim

theorem go_mono {P : Program} {T : Tab} {N : Nat} : ∀ {c : Code} {K K' : EPost} {e : Env} {w : World}, go P T N c K e w → (∀ x e w, K x e w → K' x e w) → go P T N c K' e w
  | .skip, K, K', e, w, h, hk => hk _ _ _ h
  | .ret, K, K', e, w, h, hk => hk _ _ _ h
  | .exit id, K, K', e, w, h, hk => hk _ _ _ h
  | .region _ ⟨ops⟩ false, K, K', e, w, h, hk => gops_mono (hk _) _ _ _ h
  | .region _ ⟨ops⟩ true, K, K', e, w, h, hk => Cw.mono h hk
  | .seq c d, K, K', e, w, h, hk => by
    refine go_mono (c := c) h fun x e w h => ?_
    cases x with
    | normal => exact go_mono (c := d) h hk
    | _ => exact hk _ _ _ h
  | .block id c, K, K', e, w, h, hk => by
    refine go_mono (c := c) h fun x e w h => ?_
    unfold blkK at h ⊢
    split
    · split <;> simp_all
    · split at h <;> simp_all
  | .cond c x y, K, K', e, w, h, hk => by
    replace h : gcond c (go P T N x) (go P T N y) K e w := h
    show gcond c (go P T N x) (go P T N y) K' e w
    unfold gcond at h ⊢
    split
    · rename_i hc; rw [hc] at h; exact go_mono (c := x) h hk
    · rename_i hc; rw [hc] at h; exact go_mono (c := y) h hk
    · split at h <;> simp_all
  | .loop c, K, K', e, w, h, hk => Cw.mono h hk
  | .rangeFunc .., K, K', e, w, h, hk => Cw.mono h hk
  | .scope c, K, K', e, w, h, hk => Cw.mono h hk
  | .label l, K, K', e, w, h, hk => Cw.mono h hk
  | .goto l, K, K', e, w, h, hk => Cw.mono h hk
  | .refuse y, K, K', e, w, h, hk => Cw.mono h hk

/-- a loop: I holds at every round's head; μ goes down -/
theorem Cw.loop {P : Program} {T : Tab} (hT : T.Ok P) {N : Nat} {c : Code} {K : EPost} {e : Env} {w : World} (I : Env → World → Prop) (μ : Env → World → Nat) (h0 : I e w)
    (round : ∀ e w, I e w → go P T N c (seqK (fun e' w' => I e' w' ∧ μ e' w' < μ e w) K) e w) : Cw P N (.loop c) K e w := by
  refine ⟨fun a hf => ?_⟩
  let back : Act → Env := fun a n => a.tmps.getD n undef
  have hb : ∀ a e, Fr N e a → back a = e := fun a e h => funext h.get
  refine wp_loop (fun a w => ∃ e, Fr N e a ∧ I e w) (fun a w => μ (back a) w) ⟨e, hf, h0⟩ ?_
  rintro a w ⟨e, hf, hI⟩
  refine wp_mono ((go_sound hT c _ e w (round e w hI)).out a hf) (lift_seq ?_)
  rintro a' w' ⟨e', hf', hI', hlt⟩
  refine ⟨⟨e', hf', hI'⟩, ?_⟩
  show μ (back a') w' < μ (back a) w
  rw [hb _ _ hf, hb _ _ hf']; exact hlt

theorem least {p : Nat → Prop} : ∀ n, p n → ∃ n, p n ∧ ∀ m, p m → n ≤ m := by
  intro n
  induction n using Nat.strongRecOn with
  | _ n ih =>
    intro h
    by_cases hm : ∃ m, m < n ∧ p m
    · obtain ⟨m, hlt, hp⟩ := hm
      exact ih m hlt hp
    · exact ⟨n, h, fun m hp => Nat.le_of_not_lt fun hlt => hm ⟨m, hlt, hp⟩⟩

/-- the same with the invariant told by a datum, whose measure goes down -/
theorem Cw.loopD {P : Program} {T : Tab} (hT : T.Ok P) {N : Nat} {c : Code} {K : EPost} {e : Env} {w : World} {ι : Type} (I : ι → Env → World → Prop) (μ : ι → Nat) (x0 : ι) (h0 : I x0 e w)
    (round : ∀ x e w, I x e w → go P T N c (seqK (fun e' w' => ∃ y, I y e' w' ∧ μ y < μ x) K) e w) : Cw P N (.loop c) K e w := by
  let J : Env → World → Nat → Prop := fun e w n => ∃ x, I x e w ∧ μ x = n
  have hJ : ∀ e w, (∃ x, I x e w) → ∃ n, J e w n ∧ ∀ m, J e w m → n ≤ m := fun e w ⟨x, hx⟩ => least (μ x) ⟨x, hx, rfl⟩
  classical
  let ν : Env → World → Nat := fun e w => if h : ∃ x, I x e w then Classical.choose (hJ e w h) else 0
  have hν : ∀ e w (h : ∃ x, I x e w), J e w (ν e w) ∧ ∀ m, J e w m → ν e w ≤ m := by
    intro e w h
    have : ν e w = Classical.choose (hJ e w h) := by simp only [ν]; rw [dif_pos h]
    rw [this]; exact Classical.choose_spec (hJ e w h)
  refine Cw.loop hT (fun e w => ∃ x, I x e w) ν ⟨x0, h0⟩ fun e w hx => ?_
  obtain ⟨⟨x, hI, hm⟩, _⟩ := hν e w hx
  refine go_mono (round x e w hI) ?_
  intro y e' w' h
  cases y with
  | normal =>
    obtain ⟨y, hy, hlt⟩ := h
    exact ⟨⟨y, hy⟩, Nat.lt_of_le_of_lt ((hν e' w' ⟨y, hy⟩).2 _ ⟨y, hy, rfl⟩) (hm ▸ hlt)⟩
  | _ => exact h

def Ret (R : Value → World → Prop) : Ending → World → Prop
  | .returned v, w => R v w
  | _, _ => False

/-- what stands behind a body: one result, none, two, three, four -/
def end1 (t : Tmp) (R : Value → World → Prop) : EPost := fun x e w =>
  match x with
  | .ret => frc (e t) fun v => R v w
  | _ => False
def end0 (R : Value → World → Prop) : EPost := fun x _ w =>
  match x with
  | .ret => R (.tuple #[]) w
  | .normal => R (.tuple #[]) w
  | _ => False
def endL (ts : List Tmp) (R : Value → World → Prop) : EPost := fun x e w =>
  match x with
  | .ret => evl e (ts.map .tmp) fun vs => R (.tuple ⟨vs⟩) w
  | _ => False

def initE (args : List Value) : Env := fun n =>
  match nth args n with
  | some v => v
  | none => undef

theorem initE_fr (args : List Value) (N : Nat) (hn : args.length ≤ N) : Fr N (initE args) { tmps := args.toArray ++ Array.replicate (N - args.toArray.size) undef, defers := [] } := by
  refine ⟨rfl, by simp; omega, fun n => ?_⟩
  simp only [initE, nth_eq, Array.getD_eq_getD_getElem?, Array.getElem?_append, List.size_toArray, List.getElem?_toArray, Array.getElem?_replicate]
  by_cases h : n < args.length
  · rw [if_pos h]; cases h' : args[n]? <;> rfl
  · rw [if_neg h, List.getElem?_eq_none (by omega)]; split <;> rfl

section
variable {P : Program} {T : Tab} (hT : T.Ok P) {f : FuncId} {fn : Func} {c : Code} {N : Nat} {args : List Value} {w : World} {R : Value → World → Prop}

include hT in
theorem calls_of {K : EPost} (hf : P.funcs[f]? = some fn) (hb : fn.body = some c) (hn : fn.ntmps = N) (hl : Nat.ble args.length N = true)
    (h : go P T N c K (initE args) w)
    (hK : ∀ x a w, lift N K x a w → bodyPost P fn (Ret R) x a w) : Calls P f ⟨args⟩ w (Ret R) := by
  refine calls_of_wp hf hb ?_
  have := (go_sound hT c K (initE args) w h).out _ (initE_fr args N (Nat.le_of_ble_eq_true hl))
  rw [hn]
  exact wp_mono this hK

include hT in
theorem calls1 {t : Tmp} (hf : P.funcs[f]? = some fn) (hb : fn.body = some c) (hn : fn.ntmps = N) (hr : fn.results = #[.tmp t]) (hl : Nat.ble args.length N = true)
    (h : go P T N c (end1 t R) (initE args) w) : Calls P f ⟨args⟩ w (Ret R) := by
  refine calls_of hT hf hb hn hl h ?_
  rintro x a w ⟨e, hfr, hx⟩
  cases x <;> simp only [end1] at hx
  rw [frc_eq] at hx
  exact ⟨hfr.dfr, _, results_tmp hr _ _ _, by rw [hfr.get]; exact hx⟩

include hT in
theorem calls0 (hf : P.funcs[f]? = some fn) (hb : fn.body = some c) (hn : fn.ntmps = N) (hr : fn.results = #[]) (hl : Nat.ble args.length N = true)
    (h : go P T N c (end0 R) (initE args) w) : Calls P f ⟨args⟩ w (Ret R) := by
  refine calls_of hT hf hb hn hl h ?_
  rintro x a w ⟨e, hfr, hx⟩
  cases x <;> simp only [end0] at hx
  · exact ⟨hfr.dfr, _, results_none hr _ _ _, hx⟩
  · exact ⟨hfr.dfr, _, results_none hr _ _ _, hx⟩

include hT in
theorem callsL {ts : List Tmp} (hf : P.funcs[f]? = some fn) (hb : fn.body = some c) (hn : fn.ntmps = N)
    (hr : ∀ tmps : Array Value, ∀ w, (results fn tmps).run P w = .ok (.tuple ⟨ts.map fun t => tmps.getD t undef⟩) w) (hl : Nat.ble args.length N = true)
    (h : go P T N c (endL ts R) (initE args) w) : Calls P f ⟨args⟩ w (Ret R) := by
  refine calls_of hT hf hb hn hl h ?_
  rintro x a w ⟨e, hfr, hx⟩
  cases x <;> simp only [endL] at hx
  rw [evl_eq] at hx
  refine ⟨hfr.dfr, .tuple ⟨(ts.map Operand.tmp).map (evo e)⟩, ?_, hx⟩
  rw [hr]
  congr 3
  simp only [List.map_map]
  exact List.map_congr_left fun t _ => hfr.get t
end

theorem res2 {P : Program} {fn : Func} {t u : Tmp} (h : fn.results = #[.tmp t, .tmp u]) (tmps : Array Value) (w : World) :
    (results fn tmps).run P w = .ok (.tuple ⟨[t, u].map fun t => tmps.getD t undef⟩) w := by
  simp [results, h]
theorem res3 {P : Program} {fn : Func} {t u v : Tmp} (h : fn.results = #[.tmp t, .tmp u, .tmp v]) (tmps : Array Value) (w : World) :
    (results fn tmps).run P w = .ok (.tuple ⟨[t, u, v].map fun t => tmps.getD t undef⟩) w := by
  simp [results, h]
theorem res4 {P : Program} {fn : Func} {t u v x : Tmp} (h : fn.results = #[.tmp t, .tmp u, .tmp v, .tmp x]) (tmps : Array Value) (w : World) :
    (results fn tmps).run P w = .ok (.tuple ⟨[t, u, v, x].map fun t => tmps.getD t undef⟩) w := by
  simp [results, h]

end Go.Pst

namespace Go.Pst
open Go

/-- block b holds these cells -/
structure Blk (w : World) (b : Nat) (E : TypeId) (cs : List Value) : Prop where
  here : w.heap[b]? = some (.cells ⟨cs⟩ E (0, 0))
  one : ∀ v ∈ cs, v.oneCell' = true

/-- the cells from a place on -/
def Cells (w : World) (b off : Nat) (vs : List Value) : Prop := ∀ j v, vs[j]? = some v → w.cell? ⟨b, off + j, none⟩ = some v

/-- blocks keep their type and their number of cells -/
def Shp (w w' : World) : Prop := ∀ b E cs, Blk w b E cs → ∃ cs', Blk w' b E cs' ∧ cs'.length = cs.length
theorem Shp.refl (w : World) : Shp w w := fun _ _ cs h => ⟨cs, h, rfl⟩
theorem Shp.trans {w w1 w2 : World} (h : Shp w w1) (h' : Shp w1 w2) : Shp w w2 := fun b E cs hb => by
  obtain ⟨c1, h1, e1⟩ := h b E cs hb
  obtain ⟨c2, h2, e2⟩ := h' b E c1 h1
  exact ⟨c2, h2, e2.trans e1⟩
theorem Shp.of {w w' : World} (h : ∀ b, b < w.heap.size → w'.heap[b]? = w.heap[b]?) : Shp w w' := fun b E cs hb => by
  refine ⟨cs, ⟨?_, hb.one⟩, rfl⟩
  have hlt : b < w.heap.size := by
    rcases Nat.lt_or_ge b w.heap.size with h' | h'
    · exact h'
    · have h := hb.here; rw [Array.getElem?_eq_none h'] at h; cases h
  rw [h b hlt]; exact hb.here

/-- w' is w, but for what lies in blocks of M, and new blocks -/
structure Chg (M : Nat → Prop) (w w' : World) : Prop where
  size : w.heap.size ≤ w'.heap.size
  keep : ∀ b, b < w.heap.size → ¬ M b → w'.heap[b]? = w.heap[b]?
  os : w'.os = w.os
  out : w'.output = w.output
  shp : Shp w w'
  fz : ∀ a, w'.frozen? a = w.frozen? a

/-- w' is w and new blocks -/
abbrev Ext (w w' : World) : Prop := Chg (fun _ => False) w w'

theorem Chg.refl {M : Nat → Prop} (w : World) : Chg M w w := ⟨Nat.le_refl _, fun _ _ _ => rfl, rfl, rfl, Shp.refl w, fun _ => rfl⟩
theorem Chg.trans {M : Nat → Prop} {w w1 w2 : World} (h : Chg M w w1) (h' : Chg M w1 w2) : Chg M w w2 :=
  ⟨Nat.le_trans h.size h'.size, fun b hb hm => (h'.keep b (Nat.lt_of_lt_of_le hb h.size) hm).trans (h.keep b hb hm), h'.os.trans h.os, h'.out.trans h.out, h.shp.trans h'.shp, fun a => (h'.fz a).trans (h.fz a)⟩
theorem Chg.mono {M M' : Nat → Prop} {w w' : World} (h : Chg M w w') (hm : ∀ b, b < w.heap.size → M b → M' b) : Chg M' w w' :=
  ⟨h.size, fun b hb hn => h.keep b hb fun h => hn (hm b hb h), h.os, h.out, h.shp, h.fz⟩
theorem Chg.up {M : Nat → Prop} {w w' : World} (h : Ext w w') : Chg M w w' := Chg.mono h fun _ _ h => h.elim
/-- what is changed behind w alone: since w it is new -/
theorem Chg.then {M : Nat → Prop} {w w1 w2 : World} (h : Ext w w1) (h' : Chg M w1 w2) (hm : ∀ b, M b → w.heap.size ≤ b) : Ext w w2 :=
  ⟨Nat.le_trans h.size h'.size, fun b hb _ => (h'.keep b (Nat.lt_of_lt_of_le hb h.size) fun h => absurd (hm b h) (by omega)).trans (h.keep b hb fun h => h), h'.os.trans h.os, h'.out.trans h.out, h.shp.trans h'.shp, fun a => (h'.fz a).trans (h.fz a)⟩

theorem Blk.lt {w : World} {b : Nat} {E : TypeId} {cs : List Value} (h : Blk w b E cs) : b < w.heap.size := by
  rcases Nat.lt_or_ge b w.heap.size with h' | h'
  · exact h'
  · have h := h.here; rw [Array.getElem?_eq_none h'] at h; cases h

theorem Blk.chg {M : Nat → Prop} {w w' : World} {b : Nat} {E : TypeId} {cs : List Value} (h : Blk w b E cs) (hc : Chg M w w') (hm : ¬ M b) : Blk w' b E cs :=
  ⟨(hc.keep b h.lt hm).trans h.here, h.one⟩
theorem Blk.ext {w w' : World} {b : Nat} {E : TypeId} {cs : List Value} (h : Blk w b E cs) (hc : Ext w w') : Blk w' b E cs := h.chg hc fun h => h

theorem Blk.cell {w : World} {b : Nat} {E : TypeId} {cs : List Value} (h : Blk w b E cs) (i : Nat) : w.cell? ⟨b, i, none⟩ = cs[i]? := by
  have h := h.here
  simp [World.cell?, h]
theorem Blk.frozen {w : World} {b : Nat} {E : TypeId} {cs : List Value} (h : Blk w b E cs) (i : Nat) (s : Option Nat) : w.frozen? ⟨b, i, s⟩ = false := by
  have h := h.here
  simp [World.frozen?, h]
theorem Blk.shape {w : World} {b : Nat} {E : TypeId} {cs : List Value} (h : Blk w b E cs) : w.shape? b = some (E, cs.length) := by
  have h := h.here
  simp [World.shape?, h]
theorem Blk.inj {w : World} {b : Nat} {E E' : TypeId} {cs cs' : List Value} (h : Blk w b E cs) (h' : Blk w b E' cs') : E = E' ∧ cs = cs' := by
  have h' := h'.here
  rw [h.here] at h'
  simp at h'
  exact ⟨h'.2, h'.1⟩

theorem Blk.cells {w : World} {b : Nat} {E : TypeId} {cs vs : List Value} {off : Nat} (h : Blk w b E cs) (hv : vs <+: cs.drop off) : Cells w b off vs := by
  intro j v hj
  rw [h.cell]
  obtain ⟨t, ht⟩ := hv
  have : (cs.drop off)[j]? = some v := by rw [← ht, List.getElem?_append_left (by
    rcases Nat.lt_or_ge j vs.length with h | h
    · exact h
    · rw [List.getElem?_eq_none h] at hj; cases hj)]; exact hj
  simpa using this

/-- of this object nothing is frozen -/
def warm : Obj → Bool
  | .cells _ _ (lo, hi) => Nat.ble hi lo
  | _ => true
theorem push_ext (w : World) (o : Obj) (ho : warm o = true := by rfl) : Ext w (w.alloc o) :=
  ⟨by unfold World.alloc; simp, fun b hb _ => by unfold World.alloc; simp only [Array.getElem?_push]; rw [if_neg (Nat.ne_of_lt hb)], rfl, rfl,
    Shp.of fun b hb => by unfold World.alloc; simp only [Array.getElem?_push]; rw [if_neg (Nat.ne_of_lt hb)],
    fun a => by
      unfold World.frozen? World.alloc
      simp only [Array.getElem?_push]
      by_cases ha : a.block = w.heap.size
      · rw [if_pos ha, ha, Array.getElem?_eq_none (Nat.le_refl _)]
        cases o with
        | cells c t fr =>
          have := Nat.le_of_ble_eq_true (ho : Nat.ble fr.2 fr.1 = true)
          simp only [Bool.and_eq_false_iff, decide_eq_false_iff_not]
          omega
        | _ => rfl
      · rw [if_neg ha]⟩
theorem push_blk (w : World) (E : TypeId) (cs : List Value) (h1 : ∀ v ∈ cs, v.oneCell' = true) : Blk (w.alloc (.cells ⟨cs⟩ E (0, 0))) w.heap.size E cs := by
  refine ⟨?_, h1⟩
  unfold World.alloc; simp only [Array.getElem?_push]; simp
theorem push_size (w : World) (o : Obj) : (w.alloc o).heap.size = w.heap.size + 1 := by unfold World.alloc; simp

theorem drew_ext (w : World) (n : Nat) : Ext w { w with drawn := n } := ⟨Nat.le_refl _, fun _ _ _ => rfl, rfl, rfl, Shp.of fun _ _ => rfl, fun _ => rfl⟩

section
variable {P : Program} {T : Tab}

theorem run_loadCells_of {w : World} {b off : Nat} {vs : List Value} (h : Cells w b off vs) :
    (loadCells ⟨b, off, none⟩ vs.length).run P w = .ok ⟨vs⟩ w := by
  have key : ∀ (n : Nat) (i : Nat) (acc : Array Value), (∀ j v, (vs.drop i)[j]? = some v → w.cell? ⟨b, off + i + j, none⟩ = some v) → (vs.drop i).length = n →
      (loadCellsFrom ⟨b, off, none⟩ i n acc).run P w = .ok (acc ++ (vs.drop i).toArray) w := by
    intro n
    induction n with
    | zero =>
      intro i acc _ hl
      have : vs.drop i = [] := List.eq_nil_of_length_eq_zero hl
      simp [loadCellsFrom, this]
    | succ n ih =>
      intro i acc hc hl
      have hi : i < vs.length := by simp at hl; omega
      have h0 := hc 0 vs[i] (by simp [hi])
      simp only [loadCellsFrom, Sem.run_bind, run_load, add_none]
      rw [show off + i = off + i + 0 from rfl, h0]
      simp only [Result.andThen_ok]
      rw [ih (i + 1) _ (fun j v hj => by
        have := hc (j + 1) v (by simpa [Nat.add_assoc, Nat.add_comm 1] using hj)
        rw [show off + (i + 1) + j = off + i + (j + 1) from by omega]; exact this) (by simp at hl ⊢; omega)]
      rw [List.drop_eq_getElem_cons hi]
      congr 1
      apply Array.ext'
      simp
  have := key vs.length 0 #[] (by intro j v hj; exact h j v (by simpa using hj)) (by simp)
  simpa [loadCells] using this

theorem OpR.ldC (TOK : T.Ok P) {e : Env} {x : Operand} {t : TypeId} {b off : Nat} {v : Value} {w : World} {k : Value → World → Prop} {i : TypeInfo} {ds : TypeDesc} {fs : List (Nat × Nat × Bool)} {d ty pos af g}
    (hc : w.cell? ⟨b, off, none⟩ = some v) (hk : k v w) (hx : evo e x = .pointer (some ⟨b, off, none⟩) := by rfl) (ht : T.get t = some ⟨i, ds, false, fs⟩ := by rfl) :
    OpR P (evo e) ⟨d, .load t x, ty, pos, af, g⟩ w k :=
  OpR.ok (v := v) (w' := w) (by simp [execOp, Instr.loadAt, hx, Instr.sureAddr, loadVar, (TOK.get ht).agg, hc]) hk

/-- load of one cell of a block that is known whole -/
theorem ld (TOK : T.Ok P) {e : Env} {x : Operand} {t : TypeId} {b off : Nat} {E : TypeId} {cs : List Value} {v : Value} {w : World} {k : Value → World → Prop} {i : TypeInfo} {ds : TypeDesc} {fs : List (Nat × Nat × Bool)} {d ty pos af g}
    (hb : Blk w b E cs) (hk : k v w) (hx : evo e x = .pointer (some ⟨b, off, none⟩) := by rfl) (ht : T.get t = some ⟨i, ds, false, fs⟩ := by rfl) (hv : nth cs off = some v := by rfl) :
    OpR P (evo e) ⟨d, .load t x, ty, pos, af, g⟩ w k :=
  OpR.ldC TOK (by rw [hb.cell, ← nth_eq]; exact hv) hk hx ht

/-- load of a value of several cells -/
theorem ldA (TOK : T.Ok P) {e : Env} {x : Operand} {t : TypeId} {b off : Nat} {vs : List Value} {w : World} {k : Value → World → Prop} {i : TypeInfo} {ds : TypeDesc} {fs : List (Nat × Nat × Bool)} {d ty pos af g}
    (hc : Cells w b off vs) (hk : k (.agg ⟨vs⟩) w) (hx : evo e x = .pointer (some ⟨b, off, none⟩) := by rfl) (ht : T.get t = some ⟨i, ds, true, fs⟩ := by rfl) (hn : i.size = vs.length := by rfl) :
    OpR P (evo e) ⟨d, .load t x, ty, pos, af, g⟩ w k :=
  OpR.ok (v := .agg ⟨vs⟩) (w' := w) (by
    have h1 := run_loadCells_of (P := P) hc
    have h2 := run_size (P := P) (TOK.get ht).info w
    simp only at h2
    rw [hn] at h2
    simp [execOp, Instr.loadAt, hx, Instr.sureAddr, loadVar, (TOK.get ht).agg, h1, h2]) hk

theorem oneCell_of {v : Value} : v.oneCell' = true ↔ (∀ c, v ≠ .agg c) ∧ (∀ c, v ≠ .tuple c) := by cases v <;> simp [Value.oneCell']

theorem setCell_blk {w : World} {b : Nat} {E : TypeId} {cs : List Value} (h : Blk w b E cs) (i : Nat) (v : Value) (h1 : v.oneCell' = true) : Blk (w.setCell ⟨b, i, none⟩ v) b E (cs.set i v) := by
  refine ⟨?_, fun u hu => ?_⟩
  · have h := h.here
    simp [World.setCell, Array.getElem?_modify, h]
  · rcases List.mem_or_eq_of_mem_set hu with h' | h'
    · exact h.one u h'
    · rw [h']; exact h1
theorem setCell_chg (w : World) (b i : Nat) (v : Value) (h1 : v.oneCell' = true) : Chg (· = b) w (w.setCell ⟨b, i, none⟩ v) := by
  have hk : ∀ c, c ≠ b → (w.setCell ⟨b, i, none⟩ v).heap[c]? = w.heap[c]? := fun c hn => by simp [World.setCell, Array.getElem?_modify]; intro h; exact absurd h.symm hn
  refine ⟨by simp [World.setCell], fun c hc hn => hk c hn, rfl, rfl, fun c E cs hc => ?_, fun _ => World.frozen?_setCell _ _ _ _⟩
  by_cases hcb : c = b
  · subst hcb; exact ⟨_, setCell_blk hc i v h1, by simp⟩
  · exact ⟨cs, ⟨(hk c hcb).trans hc.here, hc.one⟩, rfl⟩

/-- cells put in from a place on -/
def splice (cs : List Value) (off : Nat) (vs : List Value) : List Value := cs.take off ++ vs ++ cs.drop (off + vs.length)

theorem run_storeCells_of {b : Nat} {E : TypeId} : ∀ (vs : List Value) (i off : Nat) (cs : List Value) (w : World), Blk w b E cs → off + i + vs.length ≤ cs.length → (∀ v ∈ vs, v.oneCell' = true) →
    ∃ w', (storeCells ⟨b, off, none⟩ vs i).run P w = .ok () w' ∧ Blk w' b E (splice cs (off + i) vs) ∧ Chg (· = b) w w' ∧ w'.heap.size = w.heap.size
  | [], i, off, cs, w, h, _, _ => ⟨w, by simp [storeCells], by simpa [splice] using h, Chg.refl w, rfl⟩
  | v :: vs, i, off, cs, w, h, hl, h1 => by
    simp only [List.length_cons] at hl
    have hv := h1 v List.mem_cons_self
    have hc : w.cell? ⟨b, off + i, none⟩ = some cs[off + i] := by rw [h.cell]; exact List.getElem?_eq_getElem (by omega)
    have hr : (store ⟨b, off + i, none⟩ v).run P w = .ok () (w.setCell ⟨b, off + i, none⟩ v) := by
      rw [run_store P w _ _ _ hv]; simp [hc, h.frozen]
    obtain ⟨w', hr', hb', hch, hsz⟩ := run_storeCells_of vs (i + 1) off (cs.set (off + i) v) _ (setCell_blk h (off + i) v hv) (by simp; omega) (fun v hv => h1 v (List.mem_cons_of_mem _ hv))
    refine ⟨w', ?_, ?_, (setCell_chg w b _ v hv).trans hch, by rw [hsz]; simp [World.setCell]⟩
    · simp [storeCells, add_none, hr, hr']
    · have : splice (cs.set (off + i) v) (off + (i + 1)) vs = splice cs (off + i) (v :: vs) := by
        unfold splice
        apply List.ext_getElem?
        intro n
        simp only [List.getElem?_append, List.getElem?_take, List.getElem?_drop, List.getElem?_set, List.length_append, List.length_take, List.length_set, List.length_cons]
        grind
      rw [← this]; exact hb'

/-- one cell turned -/
def setK : List Value → Nat → Value → (List Value → Prop) → Prop
  | [], _, _, _ => False
  | _ :: l, 0, v, k => k (v :: l)
  | x :: l, n + 1, v, k => setK l n v fun r => k (x :: r)
theorem setK_ok {l : List Value} {n : Nat} {v : Value} {k : List Value → Prop} (h : setK l n v k) : n < l.length ∧ k (l.set n v) := by
  induction l generalizing n k with
  | nil => exact h.elim
  | cons x l ih =>
    cases n with
    | zero => exact ⟨by simp, h⟩
    | succ n =>
      obtain ⟨h1, h2⟩ := ih h
      exact ⟨by simpa using h1, h2⟩

/-- a store of one cell, the row as it is -/
theorem stR0 (TOK : T.Ok P) {e : Env} {x y : Operand} {t : TypeId} {b off : Nat} {E : TypeId} {cs : List Value} {v : Value} {w : World} {k : Value → World → Prop} {i : TypeInfo} {ds : TypeDesc} {fs : List (Nat × Nat × Bool)} {d ty pos af g}
    (hb : Blk w b E cs) (hl : off < cs.length) (hk : ∀ w', Blk w' b E (cs.set off v) → Chg (· = b) w w' → w'.heap.size = w.heap.size → k undef w')
    (hx : evo e x = .pointer (some ⟨b, off, none⟩) := by rfl) (hy : evo e y = v := by rfl) (ht : T.get t = some ⟨i, ds, false, fs⟩ := by rfl) (hs : i.size = 1 := by rfl) (h1 : v.oneCell' = true := by rfl) :
    OpR P (evo e) ⟨d, .store t x y, ty, pos, af, g⟩ w k := by
  obtain ⟨w', hr, hb', hc, hsz⟩ := run_storeCells_of (P := P) [v] 0 off cs w hb (by simp; omega) (by simpa using h1)
  have e1 : splice cs (off + 0) [v] = cs.set off v := by
    rw [Nat.add_zero, splice, List.set_eq_take_append_cons_drop, if_pos hl]; simp
  rw [e1] at hb'
  refine OpR.skip (w' := w') ?_ (hk w' hb' hc hsz)
  have h2 := run_size (P := P) (TOK.get ht).info w
  simp only at h2
  rw [hs] at h2
  have hcells : v.cells = #[v] := by cases v <;> simp_all [Value.cells, Value.oneCell']
  simp [execOp, Instr.storeAt, hx, hy, Instr.sureAddr, storeVar, h2, hcells, hr]

/-- a store of one cell of a block that is known whole -/
theorem st (TOK : T.Ok P) {e : Env} {x y : Operand} {t : TypeId} {b off : Nat} {E : TypeId} {cs : List Value} {w : World} {k : Value → World → Prop} {i : TypeInfo} {ds : TypeDesc} {fs : List (Nat × Nat × Bool)} {d ty pos af g}
    (hb : Blk w b E cs) (hk : frc (evo e y) fun v => match v.oneCell' with | true => setK cs off v fun cs' => ∀ w', Blk w' b E cs' → Chg (· = b) w w' → w'.heap.size = w.heap.size → k undef w' | false => False)
    (hx : evo e x = .pointer (some ⟨b, off, none⟩) := by rfl) (ht : T.get t = some ⟨i, ds, false, fs⟩ := by rfl) (hs : i.size = 1 := by rfl) :
    OpR P (evo e) ⟨d, .store t x y, ty, pos, af, g⟩ w k := by
  rw [frc_eq] at hk
  split at hk
  · rename_i h1
    obtain ⟨hl, hk⟩ := setK_ok hk
    exact stR0 TOK hb hl hk hx rfl ht hs h1
  · exact hk.elim

theorem stR (TOK : T.Ok P) {e : Env} {x y : Operand} {t : TypeId} {b off : Nat} {E : TypeId} {cs : List Value} {w : World} {k : Value → World → Prop} {i : TypeInfo} {ds : TypeDesc} {fs : List (Nat × Nat × Bool)} {d ty pos af g}
    (hb : Blk w b E cs) (hl : off < cs.length) (hk : frc (evo e y) fun v => match v.oneCell' with | true => ∀ w', Blk w' b E (cs.set off v) → Chg (· = b) w w' → w'.heap.size = w.heap.size → k undef w' | false => False)
    (hx : evo e x = .pointer (some ⟨b, off, none⟩) := by rfl) (ht : T.get t = some ⟨i, ds, false, fs⟩ := by rfl) (hs : i.size = 1 := by rfl) :
    OpR P (evo e) ⟨d, .store t x y, ty, pos, af, g⟩ w k := by
  rw [frc_eq] at hk
  split at hk
  · rename_i h1
    exact stR0 TOK hb hl hk hx rfl ht hs h1
  · exact hk.elim

/-- a store of several cells, the row as it is -/
theorem stAR (TOK : T.Ok P) {e : Env} {x y : Operand} {t : TypeId} {b off : Nat} {E : TypeId} {cs vs : List Value} {w : World} {k : Value → World → Prop} {i : TypeInfo} {ds : TypeDesc} {fs : List (Nat × Nat × Bool)} {d ty pos af g}
    (hb : Blk w b E cs) (hl : off + vs.length ≤ cs.length) (h1 : ∀ v ∈ vs, v.oneCell' = true) (hk : ∀ w', Blk w' b E (splice cs off vs) → Chg (· = b) w w' → w'.heap.size = w.heap.size → k undef w')
    (hx : evo e x = .pointer (some ⟨b, off, none⟩) := by rfl) (hy : evo e y = .agg ⟨vs⟩ := by rfl) (ht : T.get t = some ⟨i, ds, true, fs⟩ := by rfl) (hs : i.size = vs.length := by rfl) :
    OpR P (evo e) ⟨d, .store t x y, ty, pos, af, g⟩ w k := by
  obtain ⟨w', hr, hb', hc, hsz⟩ := run_storeCells_of (P := P) vs 0 off cs w hb (by omega) h1
  refine OpR.skip (w' := w') ?_ (hk w' hb' hc hsz)
  have h2 := run_size (P := P) (TOK.get ht).info w
  simp only at h2
  rw [hs] at h2
  simp [execOp, Instr.storeAt, hx, hy, Instr.sureAddr, storeVar, h2, Value.cells, hr]

/-- a store of several cells of a block that is known whole -/
theorem stA (TOK : T.Ok P) {e : Env} {x y : Operand} {t : TypeId} {b off : Nat} {E : TypeId} {cs : List Value} {w : World} {k : Value → World → Prop} {i : TypeInfo} {ds : TypeDesc} {fs : List (Nat × Nat × Bool)} {d ty pos af g}
    (hb : Blk w b E cs) (hk : frc (evo e y) fun v => match v, Nat.beq i.size (cellsL v).length, (cellsL v).all (·.oneCell') with
      | .agg _, true, true => putAt Value off cs (cellsL v) fun cs' => ∀ w', Blk w' b E cs' → Chg (· = b) w w' → w'.heap.size = w.heap.size → k undef w'
      | _, _, _ => False)
    (hx : evo e x = .pointer (some ⟨b, off, none⟩) := by rfl) (ht : T.get t = some ⟨i, ds, true, fs⟩ := by rfl) :
    OpR P (evo e) ⟨d, .store t x y, ty, pos, af, g⟩ w k := by
  rw [frc_eq] at hk
  split at hk
  · rename_i c hv hb1 h1
    have hs := Nat.eq_of_beq_eq_true hb1
    obtain ⟨hl, hk⟩ := putAt_ok hk
    refine stAR TOK (vs := cellsL (evo e y)) hb hl (List.all_eq_true.1 h1) hk hx ?_ ht hs
    rw [hv]; rfl
  · exact hk.elim

/-- &T{..}: a value laid into a new block -/
theorem bx {e : Env} {y : Operand} {t : TypeId} {w : World} {k : Value → World → Prop} {d ty pos af g}
    (hk : frc (evo e y) fun v => match (cellsL v).all (·.oneCell') with
      | true => takeK Value (cellsL v).length (cellsL v) fun cs => ∀ b w', Blk w' b t cs → w.heap.size = b → Ext w w' → w'.heap.size = b + 1 → k (.pointer (some ⟨b, 0, none⟩)) w'
      | false => False) : OpR P (evo e) ⟨d, .box t y, ty, pos, af, g⟩ w k := by
  rw [frc_eq] at hk
  split at hk
  case h_2 => exact hk.elim
  rename_i h1
  rw [takeK_eq, List.take_length] at hk
  have hy : evo e y = evo e y := rfl
  generalize hv : evo e y = v at *
  refine OpR.ok (v := .pointer (some ⟨w.heap.size, 0, none⟩)) (w' := w.alloc (.cells ⟨cellsL v⟩ t (0, 0))) ?_ (hk _ _ (push_blk _ _ _ (by simpa using h1)) rfl (push_ext _ _) (push_size _ _))
  have : (⟨cellsL v⟩ : Array Value) = v.cells := by rw [cellsL_eq]
  simp [execOp, Instr.box, newVar, newRow, hv, this]

/-- new(T), or a variable of its own -/
theorem al (TOK : T.Ok P) {e : Env} {t : TypeId} {v : Value} {w : World} {k : Value → World → Prop} {i : TypeInfo} {ds : TypeDesc} {a : Bool} {fs : List (Nat × Nat × Bool)} {d ty pos af g}
    (hk : takeK Value (cellsL v).length (cellsL v) fun cs => ∀ b w', Blk w' b t cs → w.heap.size = b → Ext w w' → w'.heap.size = b + 1 → k (.pointer (some ⟨b, 0, none⟩)) w')
    (ht : T.get t = some ⟨i, ds, a, fs⟩ := by rfl) (hz : i.zero = some v := by rfl) (h1 : ((cellsL v).all (·.oneCell')) = true := by rfl) : OpR P (evo e) ⟨d, .alloc t, ty, pos, af, g⟩ w k := by
  rw [takeK_eq, List.take_length] at hk
  refine OpR.ok (v := .pointer (some ⟨w.heap.size, 0, none⟩)) (w' := w.alloc (.cells ⟨cellsL v⟩ t (0, 0))) ?_ (hk _ _ (push_blk _ _ _ (by simpa using h1)) rfl (push_ext _ _) (push_size _ _))
  have : (⟨cellsL v⟩ : Array Value) = v.cells := by rw [cellsL_eq]
  simp [execOp, Instr.alloc, newVar, newRow, run_zero (TOK.get ht).info hz, this]

end
end Go.Pst

namespace Go.Pst
open Go

/-- function g of the program, called so, does that -/
structure Does (P : Program) (g : FuncId) (vs : List Value) (w : World) (R : Value → World → Prop) : Prop where
  enters : ∀ (args : Array Value) (w : World), (callFunc g args).run P w = .ok (.enter g args) w
  does : Calls P g ⟨vs⟩ w (Ret R)

theorem Does.mono {P : Program} {g : FuncId} {vs : List Value} {w : World} {R R' : Value → World → Prop} (h : Does P g vs w R) (hr : ∀ v w', R v w' → R' v w') : Does P g vs w R' :=
  ⟨h.enters, h.does.mono fun e w' he => by cases e <;> first | exact hr _ _ he | exact he⟩

section
variable {P : Program} {T : Tab}

theorem does1 (TOK : T.Ok P) {f : FuncId} {fn : Func} {c : Code} {N : Nat} {args : List Value} {w : World} {R : Value → World → Prop} {t : Tmp}
    (hf : P.funcs[f]? = some fn) (he : ∀ (args : Array Value) (w : World), (callFunc f args).run P w = .ok (.enter f args) w) (hn : fn.ntmps = N) (hr : fn.results = #[.tmp t])
    (h : go P T N c (end1 t R) (initE args) w) (hb : fn.body = some c := by rfl) (hl : Nat.ble args.length N = true := by rfl) : Does P f args w R :=
  ⟨he, calls1 TOK hf hb hn hr hl h⟩
theorem does0 (TOK : T.Ok P) {f : FuncId} {fn : Func} {c : Code} {N : Nat} {args : List Value} {w : World} {R : Value → World → Prop}
    (hf : P.funcs[f]? = some fn) (he : ∀ (args : Array Value) (w : World), (callFunc f args).run P w = .ok (.enter f args) w) (hn : fn.ntmps = N) (hr : fn.results = #[])
    (h : go P T N c (end0 R) (initE args) w) (hb : fn.body = some c := by rfl) (hl : Nat.ble args.length N = true := by rfl) : Does P f args w R :=
  ⟨he, calls0 TOK hf hb hn hr hl h⟩
theorem does2 (TOK : T.Ok P) {f : FuncId} {fn : Func} {c : Code} {N : Nat} {args : List Value} {w : World} {R : Value → World → Prop} {t u : Tmp}
    (hf : P.funcs[f]? = some fn) (he : ∀ (args : Array Value) (w : World), (callFunc f args).run P w = .ok (.enter f args) w) (hn : fn.ntmps = N) (hr : fn.results = #[.tmp t, .tmp u])
    (h : go P T N c (endL [t, u] R) (initE args) w) (hb : fn.body = some c := by rfl) (hl : Nat.ble args.length N = true := by rfl) : Does P f args w R :=
  ⟨he, callsL TOK hf hb hn (res2 hr) hl h⟩
theorem does3 (TOK : T.Ok P) {f : FuncId} {fn : Func} {c : Code} {N : Nat} {args : List Value} {w : World} {R : Value → World → Prop} {t u v : Tmp}
    (hf : P.funcs[f]? = some fn) (he : ∀ (args : Array Value) (w : World), (callFunc f args).run P w = .ok (.enter f args) w) (hn : fn.ntmps = N) (hr : fn.results = #[.tmp t, .tmp u, .tmp v])
    (h : go P T N c (endL [t, u, v] R) (initE args) w) (hb : fn.body = some c := by rfl) (hl : Nat.ble args.length N = true := by rfl) : Does P f args w R :=
  ⟨he, callsL TOK hf hb hn (res3 hr) hl h⟩
theorem does4 (TOK : T.Ok P) {f : FuncId} {fn : Func} {c : Code} {N : Nat} {args : List Value} {w : World} {R : Value → World → Prop} {t u v x : Tmp}
    (hf : P.funcs[f]? = some fn) (he : ∀ (args : Array Value) (w : World), (callFunc f args).run P w = .ok (.enter f args) w) (hn : fn.ntmps = N) (hr : fn.results = #[.tmp t, .tmp u, .tmp v, .tmp x])
    (h : go P T N c (endL [t, u, v, x] R) (initE args) w) (hb : fn.body = some c := by rfl) (hl : Nat.ble args.length N = true := by rfl) : Does P f args w R :=
  ⟨he, callsL TOK hf hb hn (res4 hr) hl h⟩

/-- a call of a function by its name -/
theorem cl {e : Env} {g : FuncId} {as : List Operand} {vs : List Value} {w : World} {R k : Value → World → Prop} {ts d ty pos af gd}
    (hc : Does P g vs w R) (hk : ∀ v w', R v w' → k v w') (ha : as.map (evo e) = vs := by rfl) :
    OpR P (evo e) ⟨d, .call ⟨.value (.func g), ⟨as⟩, ts⟩, ty, pos, af, gd⟩ w k := by
  refine OpR.enter (f := g) (args := ⟨vs⟩) (w' := w) ?_ ((hc.mono hk).does.mono fun e w' h => by cases e <;> exact h)
  simp [execOp, resolve, evo, Deferred.ofValue, invoke, hc.enters, ha]

/-- a call of a function value -/
theorem clv {e : Env} {g : FuncId} {x : Operand} {as : List Operand} {vs cap : List Value} {w : World} {R k : Value → World → Prop} {ts d ty pos af gd}
    (hc : Does P g vs w R) (hk : ∀ v w', R v w' → k v w') (hx : evo e x = .func (.func g) #[] ⟨cap⟩ := by rfl) (ha : as.map (evo e) ++ cap = vs := by rfl) :
    OpR P (evo e) ⟨d, .call ⟨.value x, ⟨as⟩, ts⟩, ty, pos, af, gd⟩ w k := by
  refine OpR.enter (f := g) (args := ⟨vs⟩) (w' := w) ?_ ((hc.mono hk).does.mono fun e w' h => by cases e <;> exact h)
  simp [execOp, resolve, hx, Deferred.ofValue, invoke, hc.enters, ← ha]

/- arithmetic -/
theorem bn {e : Env} {op : BinOp} {x y : Operand} {t u : TypeId} {j j' : IntKind} {a b : Int} {v : Value} {k : Value → Prop} {d ty pos af g}
    (hx : evo e x = .int j a) (hy : evo e y = .int j' b) (hr : ∀ w, (binOp op t (.int j a) (.int j' b)).run P w = .ok v w) (hk : k v) :
    OpP P (evo e) ⟨d, .binOp op t x y u, ty, pos, af, g⟩ k := by
  refine OpP.ok (v) (fun w => ?_) hk
  have hg : (eqGuard op t x y (.int j a) (.int j' b)).run P w = .ok () w := by unfold eqGuard; split <;> rfl
  simp only [execOp, hx, hy, Sem.run_bind, hg, hr, Result.andThen_ok, Sem.run_pure]

/-- a / b of ints that are not below 0 -/
theorem quo {e : Env} {x y : Operand} {t u : TypeId} {a b : Int} {k : Value → Prop} {d ty pos af g}
    (h : 0 ≤ a ∧ a < 9223372036854775808 ∧ 0 < b) (hk : k (.int .i64 (a / b))) (hx : evo e x = .int .i64 a := by rfl) (hy : evo e y = .int .i64 b := by rfl) :
    OpP P (evo e) ⟨d, .binOp .quo t x y u, ty, pos, af, g⟩ k := by
  refine bn hx hy (fun w => ?_) hk
  have h0 : ¬ b = 0 := by omega
  have : IntKind.i64.wrap (a.tdiv b) = a / b := by
    rw [Int.tdiv_eq_ediv_of_nonneg h.1]
    have h1 : 0 ≤ a / b := Int.ediv_nonneg h.1 (by omega)
    have h2 : a / b ≤ a := Int.ediv_le_self b h.1
    exact wrap_i64 _ ⟨by omega, by omega⟩
  simp [binOp, Op.intDiv, h0, this]
theorem rem {e : Env} {x y : Operand} {t u : TypeId} {a b : Int} {k : Value → Prop} {d ty pos af g}
    (h : 0 ≤ a ∧ 0 < b) (hk : k (.int .i64 (a % b))) (hx : evo e x = .int .i64 a := by rfl) (hy : evo e y = .int .i64 b := by rfl) :
    OpP P (evo e) ⟨d, .binOp .rem t x y u, ty, pos, af, g⟩ k := by
  refine bn hx hy (fun w => ?_) hk
  have h0 : ¬ b = 0 := by omega
  simp [binOp, Op.intDiv, h0, Int.tmod_eq_emod_of_nonneg h.1]
/-- any other of two whole numbers, by its run -/
theorem bitop {e : Env} {op : BinOp} {x y : Operand} {t u : TypeId} {j : IntKind} {a b : Int} {k : Value → Prop} {d ty pos af g}
    (v : Value) (hr : ∀ w, (Op.intBits op j a b).run P w = .ok v w) (hk : k v) (hop : op = .and ∨ op = .or ∨ op = .xor ∨ op = .andNot) (hx : evo e x = .int j a := by rfl) (hy : evo e y = .int j b := by rfl) :
    OpP P (evo e) ⟨d, .binOp op t x y u, ty, pos, af, g⟩ k := by
  refine bn hx hy (fun w => ?_) hk
  rcases hop with rfl | rfl | rfl | rfl <;> simp [binOp, hr]
theorem shl {e : Env} {x y : Operand} {t u : TypeId} {j j' : IntKind} {a b : Int} {k : Value → Prop} {d ty pos af g}
    (h : 0 ≤ b) (hk : k (.int j (j.wrap (a * 2 ^ (min b.toNat j.bits))))) (hx : evo e x = .int j a := by rfl) (hy : evo e y = .int j' b := by rfl) :
    OpP P (evo e) ⟨d, .binOp .shl t x y u, ty, pos, af, g⟩ k := by
  refine bn hx hy (fun w => ?_) hk
  have h0 : ¬ b < 0 := by omega
  simp [binOp, Op.shift, h0]
theorem shr {e : Env} {x y : Operand} {t u : TypeId} {j j' : IntKind} {a b : Int} {k : Value → Prop} {d ty pos af g}
    (h : 0 ≤ b) (hk : k (.int j (a.fdiv (2 ^ (min b.toNat j.bits))))) (hx : evo e x = .int j a := by rfl) (hy : evo e y = .int j' b := by rfl) :
    OpP P (evo e) ⟨d, .binOp .shr t x y u, ty, pos, af, g⟩ k := by
  refine bn hx hy (fun w => ?_) hk
  have h0 : ¬ b < 0 := by omega
  simp [binOp, Op.shift, h0]

theorem ng {e : Env} {x : Operand} {t : TypeId} {n m : Int} {k : Value → Prop} {d ty pos af g}
    (hk : k (.int .i64 m)) (hm : IntKind.i64.wrap (0 - n) = m) (hx : evo e x = .int .i64 n := by rfl) :
    OpP P (evo e) ⟨d, .unOp .neg t x, ty, pos, af, g⟩ k := by
  refine OpP.ok (.int .i64 m) (fun w => ?_) hk
  have hm' : IntKind.i64.wrap (-n) = m := by rw [← hm]; congr 1; omega
  simp [execOp, hx, Op.unary, Op.intArith, hm']

/-- a whole number as one of another kind -/
theorem cv (TOK : T.Ok P) {e : Env} {x : Operand} {s t : TypeId} {j j' : IntKind} {n : Int} {k : Value → Prop} {i i' : TypeInfo} {ds : TypeDesc} {ag ag' : Bool} {fs fs' : List (Nat × Nat × Bool)} {d ty pos af g}
    (hk : k (.int j' (j'.wrap n))) (hx : evo e x = .int j n := by rfl) (hs : T.get s = some ⟨i', ds, ag', fs'⟩ := by rfl) (ht : T.get t = some ⟨i, .int j', ag, fs⟩ := by rfl) :
    OpP P (evo e) ⟨d, .convert s t x, ty, pos, af, g⟩ k := by
  refine OpP.ok (.int j' (j'.wrap n)) (fun w => ?_) hk
  have h1 := (TOK.get hs).und
  have h2 := (TOK.get ht).und
  simp only at h1 h2
  simp [execOp, convert, hx, run_und h1, run_und h2, Conv.intToInt]

end

/-- v is a slice of n elements of size sz and type E; its cells are cs -/
def Sl (w : World) (v : Value) (E sz n : Nat) (cs : List Value) : Prop :=
  cs.length = n * sz ∧ ((∃ c, v = .slice none n c ∧ n = 0) ∨ ∃ b off c full, v = .slice (some ⟨b, off, none⟩) n c ∧ n ≤ c ∧ Blk w b E full ∧ cs <+: full.drop off)

theorem Sl.isSlice {w : World} {v : Value} {E sz n : Nat} {cs : List Value} (h : Sl w v E sz n cs) : ∃ a c, v = .slice a n c := by
  rcases h.2 with ⟨c, hv, _⟩ | ⟨b, off, c, full, hv, _, _⟩
  · exact ⟨_, _, hv⟩
  · exact ⟨_, _, hv⟩

theorem Sl.one {w : World} {v : Value} {E sz n : Nat} {cs : List Value} (h : Sl w v E sz n cs) : ∀ u ∈ cs, u.oneCell' = true := by
  rcases h.2 with ⟨c, hv, h0⟩ | ⟨b, off, c, full, hv, hnc, hb, hp⟩
  · have : cs = [] := List.eq_nil_of_length_eq_zero (by rw [h.1, h0]; simp)
    rw [this]; intro u hu; cases hu
  · exact fun u hu => hb.one u (List.mem_of_mem_drop (hp.subset hu))

theorem Sl.nil (w : World) (E sz c : Nat) : Sl w (.slice none 0 c) E sz 0 [] := ⟨by simp, .inl ⟨c, rfl, rfl⟩⟩

/-- all blocks of elements of type E stay -/
def Kp (E : Nat) (w w' : World) : Prop := ∀ b cs, Blk w b E cs → Blk w' b E cs
theorem Chg.kp {w w' : World} (h : Ext w w') (E : Nat) : Kp E w w' := fun _ _ hb => hb.ext h
theorem Sl.kp {w w' : World} {v : Value} {E sz n : Nat} {cs : List Value} (h : Sl w v E sz n cs) (hk : Kp E w w') : Sl w' v E sz n cs :=
  ⟨h.1, h.2.imp id fun ⟨b, off, c, full, hv, hnc, hb, hp⟩ => ⟨b, off, c, full, hv, hnc, hk _ _ hb, hp⟩⟩
theorem Sl.ext {w w' : World} {v : Value} {E sz n : Nat} {cs : List Value} (h : Sl w v E sz n cs) (hk : Ext w w') : Sl w' v E sz n cs := h.kp (hk.kp E)

/-- the cells of element i -/
theorem Sl.elem {w : World} {b off n c E sz : Nat} {cs : List Value} (h : Sl w (.slice (some ⟨b, off, none⟩) n c) E sz n cs) (i : Nat) (hi : i < n) :
    Cells w b (off + i * sz) ((cs.drop (i * sz)).take sz) := by
  rcases h.2 with ⟨c, hv, h0⟩ | ⟨b', off', c', full, hv, hnc, hb, hp⟩
  · cases hv
  · cases hv
    refine hb.cells ?_
    obtain ⟨t, ht⟩ := hp
    have : full.drop (off + i * sz) = (cs.drop (i * sz)) ++ t := by
      rw [← List.drop_drop, ← ht, List.drop_append_of_le_length]
      rw [h.1]
      exact Nat.mul_le_mul_right _ (Nat.le_of_lt hi)
    rw [this]
    exact List.IsPrefix.trans (List.take_prefix _ _) (List.prefix_append _ _)

theorem Sl.some {w : World} {v : Value} {E sz n : Nat} {cs : List Value} (h : Sl w v E sz n cs) (hn : 0 < n) : ∃ b off c, v = .slice (some ⟨b, off, none⟩) n c := by
  rcases h.2 with ⟨c, hv, h0⟩ | ⟨b', off', c', full, hv, hnc, hb, hp⟩
  · omega
  · exact ⟨_, _, _, hv⟩

/-- a slice of the call's own: nil, or at the head of a block of its own whose cells are cs and then spare ones -/
def Own (w : World) (v : Value) (E sz n : Nat) (cs : List Value) : Prop :=
  cs.length = n * sz ∧ ((v = .slice none 0 0 ∧ n = 0) ∨ ∃ b c rest, v = .slice (some ⟨b, 0, none⟩) n c ∧ n ≤ c ∧ Blk w b E (cs ++ rest) ∧ (cs ++ rest).length = c * sz)

/-- the block that a slice lies in -/
def blkOf (v : Value) (b : Nat) : Prop := ∃ a n c, v = .slice (some a) n c ∧ a.block = b

@[simp] theorem blkOf_some (a : Addr) (n c b : Nat) : blkOf (.slice (some a) n c) b ↔ b = a.block := by
  constructor
  · rintro ⟨a, n, c, h, rfl⟩; cases h; rfl
  · rintro rfl; exact ⟨_, _, _, rfl, rfl⟩
@[simp] theorem blkOf_none (n c b : Nat) : ¬ blkOf (.slice none n c) b := by rintro ⟨a, n, c, h, rfl⟩; cases h

theorem Own.sl {w : World} {v : Value} {E sz n : Nat} {cs : List Value} (h : Own w v E sz n cs) : Sl w v E sz n cs := by
  refine ⟨h.1, ?_⟩
  rcases h.2 with ⟨hv, h0⟩ | ⟨b, c, rest, hv, hnc, hb, _⟩
  · exact .inl ⟨0, by rw [hv, h0], h0⟩
  · exact .inr ⟨b, 0, c, _, hv, hnc, hb, by simp⟩
theorem Own.nil (w : World) (E sz : Nat) : Own w (.slice none 0 0) E sz 0 [] := ⟨by simp, .inl ⟨rfl, rfl⟩⟩
theorem Own.chg {M : Nat → Prop} {w w' : World} {v : Value} {E sz n : Nat} {cs : List Value} (h : Own w v E sz n cs) (hc : Chg M w w') (hm : ∀ b, blkOf v b → ¬ M b) : Own w' v E sz n cs := by
  refine ⟨h.1, h.2.imp id ?_⟩
  rintro ⟨b, c, rest, hv, hnc, hb, hl⟩
  exact ⟨b, c, rest, hv, hnc, hb.chg hc (hm b ⟨_, _, _, hv, rfl⟩), hl⟩
theorem Own.ext {w w' : World} {v : Value} {E sz n : Nat} {cs : List Value} (h : Own w v E sz n cs) (hc : Ext w w') : Own w' v E sz n cs := h.chg hc fun _ _ h => h
theorem Own.isSlice {w : World} {v : Value} {E sz n : Nat} {cs : List Value} (h : Own w v E sz n cs) : ∃ a c, v = .slice a n c := h.sl.isSlice

theorem growBy_le (newLen : Nat) : ∀ (r c : Nat), 256 ≤ c → c < newLen → Builtin.growBy newLen r c ≤ 2 * newLen
  | 0, c, _, h => by simp [Builtin.growBy]; omega
  | r + 1, c, hc, h => by
    unfold Builtin.growBy
    split
    · omega
    · by_cases hlt : c + (c + 768) / 4 < newLen
      · exact growBy_le newLen r _ (by omega) hlt
      · cases r with
        | zero => simp [Builtin.growBy]; omega
        | succ r => unfold Builtin.growBy; rw [if_pos (by omega)]; omega

theorem nextcap_le {need cap : Nat} (h : cap < need) : Builtin.nextslicecap need cap ≤ 2 * need := by
  unfold Builtin.nextslicecap
  split
  · omega
  · split
    · omega
    · exact growBy_le _ _ _ (by omega) h

end Go.Pst

namespace Go.Pst
open Go

section
variable {P : Program} {T : Tab}

theorem zeroCells_len (zero : Array Value) (n : Nat) : (Builtin.zeroCells zero n).size = n * zero.size := by
  simp [Builtin.zeroCells]

theorem run_firstCells_sl {w : World} {v : Value} {E sz n : Nat} {cs : List Value} (h : Sl w v E sz n cs) : (Builtin.firstCells sz n v).run P w = .ok ⟨cs⟩ w := by
  rcases h.2 with ⟨c, hv, h0⟩ | ⟨b, off, c, full, hv, hnc, hb, hp⟩
  · have : cs = [] := List.eq_nil_of_length_eq_zero (by rw [h.1, h0]; simp)
    simp [Builtin.firstCells, hv, this]
  · have h1 := run_loadCells_of (P := P) (hb.cells hp)
    rw [h.1] at h1
    simp [Builtin.firstCells, hv, h1]

theorem zeroCells_one {zero : Array Value} (h : ∀ v ∈ zero.toList, v.oneCell' = true) (n : Nat) : ∀ v ∈ (Builtin.zeroCells zero n).toList, v.oneCell' = true := by
  intro v hv
  simp only [Builtin.zeroCells, Array.toList_map, Array.toList_range, List.mem_map, List.mem_range] at hv
  obtain ⟨j, hj, rfl⟩ := hv
  have hpos : 0 < zero.size := by
    rcases Nat.eq_zero_or_pos zero.size with h | h
    · rw [h] at hj; omega
    · exact h
  have hlt := Nat.mod_lt j hpos
  apply h
  simp [hlt]

theorem drew_ext' (w : World) : Ext w w.drew := ⟨Nat.le_refl _, fun _ _ _ => rfl, rfl, rfl, Shp.of fun _ _ => rfl, fun _ => rfl⟩

theorem Src.ofSl {w : World} {v : Value} {E sz n : Nat} {cs : List Value} {tx e' : TypeId} (h : Sl w v E sz n cs) (hk : P.underlying tx = some (.slice e')) : Src P sz tx v n cs w := by
  obtain ⟨a, c, hv⟩ := h.isSlice
  have hd := h.ext (drew_ext' w)
  exact ⟨.inl ⟨e', hk⟩, fun _ => by rw [hv]; rfl, run_firstCells_sl h, run_firstCells_sl hd, h.1, h.one⟩

/-- what is known behind an append to a slice of one's own -/
structure Apd (w : World) (vs : Value) (E sz n m : Nat) (cs : List Value) (v' : Value) (w' : World) : Prop where
  own : Own w' v' E sz (n + m) cs
  chg : Chg (blkOf vs) w w'
  at_ : ∀ b, blkOf v' b → blkOf vs b ∨ w.heap.size ≤ b

theorem run_append {w : World} {vs vx : Value} {ts tx : TypeId} {E n m : Nat} {cs new : List Value} {i : TypeInfo} {z : Value} (ty : TypeId)
    (hts : P.underlying ts = some (.slice E)) (hi : P.types[E]? = some i) (hz : i.zero = some z) (hzs : z.cells.size = i.size) (hz1 : ∀ v ∈ z.cells.toList, v.oneCell' = true)
    (ho : Own w vs E i.size n cs) (hs : Src P i.size tx vx m new w) (hb : 2 * (n + m) * i.bytes ≤ 281474976710656) (h63 : n + m ≤ 9223372036854775807) :
    ∃ a c w', (Builtin.append_ #[ts, tx] ty #[vs, vx]).run P w = .ok (.slice a (n + m) c) w' ∧ Apd w vs E i.size n m (cs ++ new) (.slice a (n + m) c) w' := by
  have hi' := info_of hi
  by_cases hfit : ∃ b c0, vs = .slice (some ⟨b, 0, none⟩) n c0 ∧ n + m ≤ c0
  · -- there is room
    obtain ⟨b, c0, hvs, hfit⟩ := hfit
    rcases ho.2 with ⟨hv, h0⟩ | ⟨b', c, rest, hv, hnc, hblk, hcl⟩
    · rw [hvs] at hv; cases hv
    · rw [hvs] at hv; cases hv
      have hcs := ho.1
      have hroom : n * i.size + new.length ≤ (cs ++ rest).length := by
        rw [hcl, hs.newsLen, ← Nat.add_mul]; exact Nat.mul_le_mul_right _ hfit
      have hr := run_append_room_src (P := P) w ts tx ty E i hts hi' b 0 n c0 vx m new hs hfit
        (fun j hj => by rw [Nat.zero_add, hblk.cell]; simp only [List.length_append] at hroom; rw [List.getElem?_eq_getElem (by simp; omega)]; rfl)
        (fun j hj => hblk.frozen _ _)
      have hst := run_storeCells_of (P := P) (b := b) new 0 (n * i.size) (cs ++ rest) w hblk (by omega) hs.one
      obtain ⟨w', hst, hblk', hch, _⟩ := hst
      have hst2 := run_storeCells_cells (P := P) b (n * i.size) new 0 w
        (fun j hj => by rw [hblk.cell]; simp only [List.length_append] at hroom; rw [List.getElem?_eq_getElem (by simp; omega)]; rfl)
        (fun j hj => hblk.frozen _ _) hs.one
      rw [hst] at hst2
      simp only [Result.ok.injEq, Nat.add_zero, true_and] at hst2
      rw [Nat.zero_add] at hr
      rw [hst2] at hblk' hch
      refine ⟨some ⟨b, 0, none⟩, c0, _, by rw [hvs]; exact hr, ⟨⟨?_, .inr ⟨b, c0, rest.drop (m * i.size), rfl, hfit, ?_, ?_⟩⟩, ?_, fun b' hb' => .inl ?_⟩⟩
      · simp [hcs, hs.newsLen, Nat.add_mul]
      · have e1 : splice (cs ++ rest) (n * i.size + 0) new = (cs ++ new) ++ rest.drop (m * i.size) := by
          unfold splice
          rw [Nat.add_zero, ← hcs, List.take_left', hs.newsLen, List.drop_length_add_append]
          rfl
        rw [← e1]; exact hblk'
      · simp only [List.length_append, List.length_drop] at hcl hroom ⊢
        have : (n + m) * i.size ≤ c0 * i.size := Nat.mul_le_mul_right _ hfit
        have := hs.newsLen
        rw [Nat.add_mul] at *
        omega
      · rw [hvs]; exact hch.mono fun b' _ h => ⟨_, _, _, rfl, h.symm⟩
      · obtain ⟨a, n', c', hv', hbb⟩ := hb'
        cases hv'; exact ⟨_, _, _, hvs, hbb⟩
  · obtain ⟨a0, c0, hv⟩ := ho.isSlice
    by_cases hm : n + m ≤ c0
    · -- nil, and nothing is appended
      rcases ho.2 with ⟨hv', h0⟩ | ⟨b', c, rest, hv', hnc, hblk, hcl⟩
      · rw [hv] at hv'
        cases hv'
        have hm0 : m = 0 := by omega
        subst hm0
        have hnew : new = [] := List.eq_nil_of_length_eq_zero (by rw [hs.newsLen]; simp)
        have hcs : cs = [] := List.eq_nil_of_length_eq_zero (by rw [ho.1]; simp)
        subst hnew hcs
        refine ⟨none, 0, w, ?_, ⟨Own.nil _ _ _, Chg.refl w, fun b hb => ?_⟩⟩
        · rw [hv]
          rcases hs.kind with ⟨e', hk⟩ | hk <;> simp [Builtin.append_, run_underlying hts, run_underlying hk, sizeOf, typeInfo, hi', hs.len, hs.cells]
        · obtain ⟨a, n', c', hv', hbb⟩ := hb; cases hv'
      · rw [hv] at hv'; cases hv'
        exact absurd ⟨_, _, hv, hm⟩ hfit
    · have hcap : Builtin.nextslicecap (n + m) c0 ≤ 2 * (n + m) := nextcap_le (by omega)
      have hcap' : Builtin.nextslicecap (n + m) c0 * i.bytes ≤ 281474976710656 := Nat.le_trans (Nat.mul_le_mul_right i.bytes hcap) hb
      have hold := run_firstCells_sl (P := P) (ho.sl.ext (drew_ext' w))
      rw [hv] at hold
      have hr := run_append_grow_src (P := P) w ts tx ty E i z hts hi' hz a0 n c0 cs hold vx m new hs (by omega) (by omega) hcap'
      have hg : n + m ≤ grownCap w (n + m) c0 E := by simp only [grownCap, Question.cut]; omega
      rw [hv]
      refine ⟨_, _, _, hr, ⟨⟨by simp [ho.1, hs.newsLen, Nat.add_mul], .inr ⟨_, _, (Builtin.zeroCells z.cells (grownCap w (n + m) c0 E - (n + m))).toList, rfl, hg, ?_, ?_⟩⟩, ((drew_ext' w).trans (push_ext _ _)).up, fun b hb => .inr ?_⟩⟩
      · have e : (cs ++ new).toArray ++ Builtin.zeroCells z.cells (grownCap w (n + m) c0 E - (n + m)) = ⟨cs ++ new ++ (Builtin.zeroCells z.cells (grownCap w (n + m) c0 E - (n + m))).toList⟩ := by
          apply Array.ext'; simp
        rw [e]; refine push_blk w.drew E _ fun u hu => ?_
        simp only [List.mem_append] at hu
        rcases hu with (hu | hu) | hu
        · exact ho.sl.one u hu
        · exact hs.one u hu
        · exact zeroCells_one hz1 _ u hu
      · simp only [List.length_append, Array.length_toList, zeroCells_len, hzs, ho.1, hs.newsLen]
        rw [← Nat.add_mul, ← Nat.add_mul]; congr 1; omega
      · obtain ⟨a, n', c', hv', hbb⟩ := hb
        cases hv'; rw [← hbb]; exact Nat.le_refl _

/-- append(s, x...) onto a slice of one's own -/
theorem ap (TOK : T.Ok P) {e : Env} {s x : Operand} {ts tx : TypeId} {vs vx : Value} {E n m sz : Nat} {cs new : List Value} {w : World} {k : Value → World → Prop} {i i' ix : TypeInfo} {ex : Nat} {ag ag' agx : Bool} {fs fs' fsx : List (Nat × Nat × Bool)} {z : Value} {dsE : TypeDesc} {d ty pos af g}
    (ho : Own w vs E sz n cs) (hsl : Sl w vx ex sz m new) (hb : n + m ≤ 274877906944)
    (hk : ∀ a c w', Apd w vs E sz n m (cs ++ new) (.slice a (n + m) c) w' → k (.slice a (n + m) c) w')
    (hs : evo e s = vs := by rfl) (hx : evo e x = vx := by rfl)
    (ht : T.get ts = some ⟨i', .slice E, ag', fs'⟩ := by rfl) (htx : T.get tx = some ⟨ix, .slice ex, agx, fsx⟩ := by rfl) (hE : T.get E = some ⟨i, dsE, ag, fs⟩ := by rfl) (hz : i.zero = some z := by rfl) (hsz : i.size = sz := by rfl) (hzs : z.cells.size = i.size := by rfl) (hz1 : z.cells.toList.all (·.oneCell') = true := by rfl)
    (hby : Nat.ble i.bytes 512 = true := by rfl) :
    OpR P (evo e) ⟨d, .call ⟨.builtin .append, ⟨[s, x]⟩, ⟨[ts, tx]⟩⟩, ty, pos, af, g⟩ w k := by
  subst hsz
  have h2 := (TOK.get ht).und
  have h3 := (TOK.get htx).und
  have h4 := (TOK.get hE).info
  have hby' : i.bytes ≤ 512 := Nat.le_of_ble_eq_true hby
  obtain ⟨a, c, w', hr, hapd⟩ := run_append (P := P) ty h2 h4 hz hzs (List.all_eq_true.1 hz1) ho (Src.ofSl hsl h3) (by
    have : 2 * (n + m) * i.bytes ≤ 2 * (n + m) * 512 := Nat.mul_le_mul_left _ hby'
    simp only at this ⊢; omega) (by omega)
  refine OpR.ok ?_ (hk a c w' hapd)
  simp [execOp, resolve, invoke, builtin, hs, hx, hr]

/-- append(s, text...) -/
theorem apS (TOK : T.Ok P) {e : Env} {s x : Operand} {ts tx : TypeId} {vs : Value} {t : ByteArray} {E n : Nat} {cs : List Value} {w : World} {k : Value → World → Prop} {i i' ix : TypeInfo} {ag ag' agx : Bool} {fs fs' fsx : List (Nat × Nat × Bool)} {z : Value} {dsE : TypeDesc} {d ty pos af g}
    (ho : Own w vs E 1 n cs) (hb : n + t.size ≤ 274877906944)
    (hk : ∀ a c w', Apd w vs E 1 n t.size (cs ++ byteCells t) (.slice a (n + t.size : Nat) c) w' → k (.slice a (n + t.size : Nat) c) w')
    (hs : evo e s = vs := by rfl) (hx : evo e x = .string t := by rfl)
    (ht : T.get ts = some ⟨i', .slice E, ag', fs'⟩ := by rfl) (htx : T.get tx = some ⟨ix, .string, agx, fsx⟩ := by rfl) (hE : T.get E = some ⟨i, dsE, ag, fs⟩ := by rfl) (hz : i.zero = some z := by rfl) (hzs : z.cells.size = i.size := by rfl) (hsz : i.size = 1 := by rfl) (hz1 : z.cells.toList.all (·.oneCell') = true := by rfl)
    (hby : Nat.ble i.bytes 512 = true := by rfl) :
    OpR P (evo e) ⟨d, .call ⟨.builtin .append, ⟨[s, x]⟩, ⟨[ts, tx]⟩⟩, ty, pos, af, g⟩ w k := by
  have h2 := (TOK.get ht).und
  have h3 := (TOK.get htx).und
  have h4 := (TOK.get hE).info
  have hby' : i.bytes ≤ 512 := Nat.le_of_ble_eq_true hby
  have hsrc : Src P i.size tx (.string t) t.size (byteCells t) w := by rw [hsz]; exact Src.ofString w h3 t
  rw [← hsz] at ho hk
  obtain ⟨a, c, w', hr, hapd⟩ := run_append (P := P) ty h2 h4 hz hzs (List.all_eq_true.1 hz1) ho hsrc (by
    have : 2 * (n + t.size) * i.bytes ≤ 2 * (n + t.size) * 512 := Nat.mul_le_mul_left _ hby'
    simp only at this ⊢; omega) (by omega)
  refine OpR.ok ?_ (hk a c w' hapd)
  simp [execOp, resolve, invoke, builtin, hs, hx, hr]

theorem zeroRow_len (zero : Array Value) (n : Nat) : ((Array.range n).map (zero[· % zero.size]!)).toList.length = n := by simp

/-- make([]E, len, cap): len and cap of one number -/
theorem mk (TOK : T.Ok P) {e : Env} {x y : Operand} {t : TypeId} {E sz : Nat} {n : Int} {w : World} {k : Value → World → Prop} {i i' : TypeInfo} {ag ag' : Bool} {fs fs' : List (Nat × Nat × Bool)} {z : Value} {dsE : TypeDesc} {d ty pos af g}
    (h0 : 0 ≤ n ∧ n ≤ 274877906944)
    (hk : ∀ b w', Own w' (.slice (some ⟨b, 0, none⟩) n.toNat n.toNat) E sz n.toNat (List.replicate n.toNat z.cells.toList).flatten → w.heap.size = b → Ext w w' → k (.slice (some ⟨b, 0, none⟩) n.toNat n.toNat) w')
    (hx : evo e x = .int .i64 n := by rfl) (hy : evo e y = .int .i64 n := by rfl)
    (ht : T.get t = some ⟨i', .slice E, ag', fs'⟩ := by rfl) (hE : T.get E = some ⟨i, dsE, ag, fs⟩ := by rfl) (hz : i.zero = some z := by rfl) (hsz : i.size = sz := by rfl) (hzs : z.cells.size = i.size := by rfl) (hs0 : Nat.ble 1 i.size = true := by rfl) (hz1 : z.cells.toList.all (·.oneCell') = true := by rfl)
    (hby : Nat.ble i.bytes 512 = true := by rfl) :
    OpR P (evo e) ⟨d, .makeSlice t x y, ty, pos, af, g⟩ w k := by
  subst hsz
  have hby' : i.bytes ≤ 512 := Nat.le_of_ble_eq_true hby
  have h2 := (TOK.get ht).und
  have h4 := (TOK.get hE).info
  have hi := info_of h4
  have hs1 : 1 ≤ i.size := Nat.le_of_ble_eq_true hs0
  have hwrap := wrap_i64 n ⟨by omega, by omega⟩
  have hb1 : ¬ (281474976710656 < (i.bytes : Int) * n) := by
    have : (i.bytes : Int) * n ≤ 512 * n := Int.mul_le_mul_of_nonneg_right (by omega) h0.1
    omega
  have hn0 : ¬ n < 0 := by omega
  let rowA : Array Value := (Array.range (n.toNat * i.size)).map (z.cells[· % z.cells.size]!)
  let row : List Value := rowA.toList
  have hrow : row = (List.replicate n.toNat z.cells.toList).flatten := by
    have key : ∀ m : Nat, (List.range (m * i.size)).map (fun j => z.cells[j % z.cells.size]!) = (List.replicate m z.cells.toList).flatten := by
      intro m
      induction m with
      | zero => simp
      | succ m ih =>
        rw [Nat.add_mul, Nat.one_mul, List.range_add, List.map_append, ih, List.replicate_succ', List.flatten_append]
        congr 1
        simp only [List.map_map, List.flatten_cons, List.flatten_nil, List.append_nil]
        apply List.ext_getElem
        · simp [hzs]
        · intro j h1 h2
          simp only [List.length_map, List.length_range] at h1
          have hj : (m * i.size + j) % i.size = j := by rw [Nat.add_comm, Nat.add_mul_mod_self_right]; exact Nat.mod_eq_of_lt h1
          simp [hzs, hj, h1]
    simp only [row, rowA, Array.toList_map, Array.toList_range]
    exact key n.toNat
  have hone : ∀ v ∈ row, v.oneCell' = true := by
    rw [hrow]; intro v hv
    simp only [List.mem_flatten, List.mem_replicate] at hv
    obtain ⟨l, ⟨_, rfl⟩, hv⟩ := hv
    exact List.all_eq_true.1 hz1 v hv
  refine OpR.ok (v := .slice (some ⟨w.heap.size, 0, none⟩) n.toNat n.toNat) (w' := w.alloc (.cells rowA E (0, 0))) ?_ (hk _ _ ⟨?_, .inr ⟨_, _, [], rfl, Nat.le_refl _, ?_, ?_⟩⟩ rfl (push_ext _ _))
  · have hsize := run_size (P := P) h4
    have hzero := run_zero (P := P) h4 hz
    have hne : n.toNat * i.size = 0 ∨ ¬ n.toNat * i.size = 0 := by omega
    rcases hne with he | he
    · have hn : n.toNat = 0 := by
        rcases Nat.mul_eq_zero.1 he with h | h
        · exact h
        · omega
      have hrow0 : rowA = (Array.range 0).map fun x => (#[] : Array Value)[x % 0]! := by apply Array.ext'; simp [rowA, he]
      simp [execOp, Instr.makeSlice, run_und h2, hx, hy, asInt, asIntOf, typeInfo, hi, hwrap, hb1, hn0, hsize, he, newRow, hrow0]
    · simp [execOp, Instr.makeSlice, run_und h2, hx, hy, asInt, asIntOf, typeInfo, hi, hwrap, hb1, hn0, hsize, he, newRow, hzero, rowA]
  · rw [← hrow]; simp [row, rowA]
  · rw [← hrow, List.append_nil]; exact push_blk w E row hone
  · rw [← hrow]; simp [row, rowA]

end
end Go.Pst

namespace Go.Pst
open Go

/-- parts put into the cells of a row of elements of size sz -/
def gpartsA (e : Env) (sz : Nat) : List (Nat × Operand) → List Value → (List Value → Prop) → Prop
  | [], z, k => k z
  | (i, x) :: l, z, k => frc (evo e x) fun v =>
      match Nat.beq (cellsL v).length sz with
      | true => putAt Value (i * sz) z (cellsL v) fun z' => gpartsA e sz l z' k
      | false => False

def repK (z : List Value) : Nat → (List Value → Prop) → Prop
  | 0, k => k []
  | n + 1, k => repK z n fun r => k (z ++ r)
theorem repK_eq (z : List Value) (n : Nat) (k : List Value → Prop) : repK z n k = k (List.replicate n z).flatten := by
  induction n generalizing k with
  | zero => rfl
  | succ n ih => simp [repK, ih, List.replicate_succ]

section
variable {P : Program} {T : Tab}

theorem fillA_ok {e : Env} {sz : Nat} : ∀ (l : List (Nat × Operand)) (z : List Value) (k : List Value → Prop), gpartsA e sz l z k →
      ∃ z', Instr.fill (fun i => some (i * sz, sz)) z.toArray (l.map fun p => (p.1, evo e p.2)) = some z'.toArray ∧ k z' ∧ z'.length = z.length
  | [], z, k, h => ⟨z, rfl, h, rfl⟩
  | (i, x) :: l, z, k, h => by
    unfold gpartsA at h
    rw [frc_eq] at h
    split at h
    · rename_i hb
      have hlen := Nat.eq_of_beq_eq_true hb
      obtain ⟨h1, h2⟩ := putAt_ok h
      obtain ⟨z', hz, hk, hzl⟩ := fillA_ok l _ k h2
      refine ⟨z', ?_, hk, ?_⟩
      · rw [← hz]
        simp only [List.map_cons, Instr.fill]
        rw [cellsL_eq] at hlen h1
        simp only [Array.length_toList] at hlen h1
        rw [if_neg (by simp; omega)]
        congr 1
        have := foldl_put (evo e x).cells.toList 0 (i * sz) z (by simp; omega)
        simp only [Nat.add_zero, Array.length_toList] at this
        rw [cellsL_eq, Array.length_toList, ← this, ← Array.foldl_toList, Array.toList_zipIdx]
      · rw [hzl]; simp; omega
    · exact h.elim

/-- []E{..} -/
theorem bs (TOK : T.Ok P) {e : Env} {t : TypeId} {E n sz : Nat} {ps : List (Nat × Operand)} {w : World} {k : Value → World → Prop} {i i' : TypeInfo} {ag ag' : Bool} {fs fs' : List (Nat × Nat × Bool)} {z : Value} {dsE : TypeDesc} {d ty pos af g}
    (hk : repK (cellsL z) n fun zs => gpartsA e sz ps zs fun cs => cs.all (·.oneCell') = true ∧ ∀ b w', Own w' (.slice (some ⟨b, 0, none⟩) n n) E sz n cs → w.heap.size = b → Ext w w' → k (.slice (some ⟨b, 0, none⟩) n n) w')
    (ht : T.get t = some ⟨i', .slice E, ag', fs'⟩ := by rfl) (hE : T.get E = some ⟨i, dsE, ag, fs⟩ := by rfl) (hz : i.zero = some z := by rfl) (hsz : i.size = sz := by rfl) (hzs : z.cells.size = i.size := by rfl) (hs0 : Nat.ble 1 (n * i.size) = true := by rfl) (hs1 : Nat.ble (n * i.size) 10000 = true := by rfl) :
    OpR P (evo e) ⟨d, .buildSlice t n ⟨ps⟩, ty, pos, af, g⟩ w k := by
  subst hsz
  have h2 := (TOK.get ht).und
  have h4 := (TOK.get hE).info
  have hi := info_of h4
  have hs2 : 1 ≤ n * i.size := Nat.le_of_ble_eq_true hs0
  have hs3 : n * i.size ≤ 10000 := Nat.le_of_ble_eq_true hs1
  have hs4 : 1 ≤ i.size := by
    rcases Nat.eq_zero_or_pos i.size with h | h
    · rw [h] at hs2; omega
    · exact h
  rw [repK_eq] at hk
  obtain ⟨cs, hf, ⟨h1, hk⟩, hl⟩ := fillA_ok _ _ _ hk
  have hrow : (Array.range (n * i.size)).map (z.cells[· % z.cells.size]!) = ((List.replicate n (cellsL z)).flatten).toArray := by
    have key : ∀ m : Nat, (List.range (m * i.size)).map (fun j => z.cells[j % z.cells.size]!) = (List.replicate m z.cells.toList).flatten := by
      intro m
      induction m with
      | zero => simp
      | succ m ih =>
        rw [Nat.add_mul, Nat.one_mul, List.range_add, List.map_append, ih, List.replicate_succ', List.flatten_append]
        congr 1
        simp only [List.map_map, List.flatten_cons, List.flatten_nil, List.append_nil]
        apply List.ext_getElem
        · simp [hzs]
        · intro j h1 h2
          simp only [List.length_map, List.length_range] at h1
          have hj : (m * i.size + j) % i.size = j := by rw [Nat.add_comm, Nat.add_mul_mod_self_right]; exact Nat.mod_eq_of_lt h1
          simp [hzs, hj, h1]
    apply Array.ext'
    rw [cellsL_eq]
    simp only [Array.toList_map, Array.toList_range]
    exact key n
  have hlen : cs.length = n * i.size := by rw [hl, cellsL_eq]; simp [hzs]
  refine OpR.ok (v := .slice (some ⟨w.heap.size, 0, none⟩) n n) (w' := w.alloc (.cells ⟨cs⟩ E (0, 0))) ?_ (hk _ _ ⟨hlen, .inr ⟨_, _, [], rfl, Nat.le_refl _, by rw [List.append_nil]; exact push_blk w E cs (List.all_eq_true.1 h1), by simpa using hlen⟩⟩ rfl (push_ext _ _))
  have hsize := run_size (P := P) h4
  have hzero := run_zero (P := P) h4 hz
  have hne : ¬ n * i.size = 0 := by omega
  have hng : ¬ 16777216 < n * i.size := by omega
  simp only [execOp, Instr.buildSlice, run_und h2, Sem.run_bind, Result.andThen_ok, hsize, gt_iff_lt, show (2 : Nat) ^ 24 = 16777216 from rfl, hng, if_false, hne, Sem.run_pure]
  rw [hzero]
  simp only [Result.andThen_ok, hrow, Array.toList_map]
  simp only [hf, newRow, Sem.run_bind, run_newObj, Result.andThen_ok, Sem.run_pure]
  rfl

/-- []E{} -/
theorem bs0 (TOK : T.Ok P) {e : Env} {t : TypeId} {E sz : Nat} {w : World} {k : Value → World → Prop} {i i' : TypeInfo} {ag ag' : Bool} {fs fs' : List (Nat × Nat × Bool)} {dsE : TypeDesc} {d ty pos af g}
    (hk : ∀ b w', Own w' (.slice (some ⟨b, 0, none⟩) 0 0) E sz 0 [] → w.heap.size = b → Ext w w' → k (.slice (some ⟨b, 0, none⟩) 0 0) w')
    (ht : T.get t = some ⟨i', .slice E, ag', fs'⟩ := by rfl) (hE : T.get E = some ⟨i, dsE, ag, fs⟩ := by rfl) (hsz : i.size = sz := by rfl) :
    OpR P (evo e) ⟨d, .buildSlice t 0 ⟨[]⟩, ty, pos, af, g⟩ w k := by
  have h2 := (TOK.get ht).und
  subst hsz
  have hsize := run_size (P := P) (TOK.get hE).info
  refine OpR.ok (v := .slice (some ⟨w.heap.size, 0, none⟩) 0 0) (w' := w.alloc (.cells ⟨[]⟩ E (0, 0))) ?_ (hk _ _ ⟨by simp, .inr ⟨_, _, [], rfl, Nat.le_refl _, push_blk w E [] (fun _ h => nomatch h), by simp⟩⟩ rfl (push_ext _ _))
  have h0 : (Array.map (fun _ : Nat => (default : Value)) (Array.range 0)) = ⟨[]⟩ := by apply Array.ext'; simp
  simp [execOp, Instr.buildSlice, run_und h2, hsize, newRow, Instr.fill, h0]

theorem sbound {x : Value} {n y : Nat} (h : x = .int .i64 (n : Int)) (hn : n ≤ y) (c : BoundsCode) (w : World) : (Instr.sliceBound x y c).run P w = .ok n w := by
  have : (0 : Int) ≤ (n : Int) ∧ (n : Int) ≤ (y : Int) := by omega
  simp [Instr.sliceBound, h, asIntOf, this]

theorem cut_sl {w : World} {a : Option Addr} {c E sz n l h : Nat} {cs : List Value} (hs : Sl w (.slice a n c) E sz n cs) (hl : l ≤ h) (hh : h ≤ n) :
    Sl w (.slice (if c = l then a else a.map (·.add (l * sz))) (h - l) (c - l)) E sz (h - l) ((cs.drop (l * sz)).take ((h - l) * sz)) := by
  have hlen : ((cs.drop (l * sz)).take ((h - l) * sz)).length = (h - l) * sz := by
    rw [List.length_take, List.length_drop, hs.1, ← Nat.sub_mul, Nat.min_eq_left (Nat.mul_le_mul_right _ (by omega))]
  refine ⟨hlen, ?_⟩
  rcases hs.2 with ⟨c', hv, h0⟩ | ⟨b, off, c', full, hv, hnc, hb, hp⟩
  · cases hv
    refine .inl ⟨c - l, ?_, by omega⟩
    split <;> rfl
  · cases hv
    by_cases hc : c = l
    · rw [if_pos hc]
      refine .inr ⟨b, off, _, full, rfl, by omega, hb, ?_⟩
      have h0 : h - l = 0 := by omega
      rw [h0]; simp
    · rw [if_neg hc]
      simp only [Option.map_some, add_none]
      refine .inr ⟨b, off + l * sz, _, full, rfl, by omega, hb, ?_⟩
      obtain ⟨t, ht⟩ := hp
      rw [← List.drop_drop, ← ht, List.drop_append_of_le_length (by rw [hs.1]; exact Nat.mul_le_mul_right _ (by omega))]
      exact List.IsPrefix.trans (List.take_prefix _ _) (List.prefix_append _ _)

theorem Sl.cap {w : World} {a : Option Addr} {n c E sz : Nat} {cs : List Value} (h : Sl w (.slice a n c) E sz n cs) : n ≤ c := by
  rcases h.2 with ⟨c', hv, h0⟩ | ⟨b, off, c', full, hv, hnc, hb, hp⟩
  · cases hv; omega
  · cases hv; exact hnc

/-- s[l:h] of a slice -/
theorem slS (TOK : T.Ok P) {e : Env} {x : Operand} {lo hi : Option Operand} {t : TypeId} {E sz n l h : Nat} {vs : Value} {cs : List Value} {w : World} {k : Value → Prop} {i i' : TypeInfo} {ds : TypeDesc} {ag ag' : Bool} {fs fs' : List (Nat × Nat × Bool)} {d ty pos af g}
    (hs : Sl w vs E sz n cs) (hb : l ≤ h ∧ h ≤ n)
    (hk : ∀ a c, Sl w (.slice a (h - l) c) E sz (h - l) ((cs.drop (l * sz)).take ((h - l) * sz)) → k (.slice a (h - l) c))
    (hx : evo e x = vs := by rfl)
    (hlo : (match lo with | some y => evo e y = .int .i64 (l : Int) | none => l = 0) := by rfl)
    (hhi : (match hi with | some y => evo e y = .int .i64 (h : Int) | none => h = n) := by rfl)
    (ht : T.get t = some ⟨i', .slice E, ag', fs'⟩ := by rfl) (hE : T.get E = some ⟨i, ds, ag, fs⟩ := by rfl) (hsz : i.size = sz := by rfl) :
    OpP P (evo e) ⟨d, .slice t x lo hi none, ty, pos, af, g⟩ k := by
  have h2 := (TOK.get ht).und
  have h4 := run_size (P := P) (TOK.get hE).info
  simp only [hsz] at h4
  obtain ⟨a, c, rfl⟩ := hs.isSlice
  have hnc := hs.cap
  have hhc : h ≤ c := by omega
  have key : ∀ w, (Instr.sliceBounds true n c (lo.map (evo e)) (hi.map (evo e)) none).run P w = .ok (l, h, c) w := by
    intro w
    cases lo with
    | none =>
      simp only at hlo
      subst hlo
      cases hi with
      | none => simp only at hhi; subst hhi; simp [Instr.sliceBounds]
      | some y => simp only at hhi; simp [Instr.sliceBounds, sbound hhi hhc]
    | some yl =>
      simp only at hlo
      cases hi with
      | none => simp only at hhi; subst hhi; simp [Instr.sliceBounds, sbound hlo hb.1]
      | some y => simp only at hhi; simp [Instr.sliceBounds, sbound hhi hhc, sbound hlo hb.1]
  have := cut_sl hs hb.1 hb.2
  refine OpP.ok (.slice (if c = l then a else a.map (·.add (l * sz))) (h - l) (c - l)) (fun w => ?_) (hk _ _ this)
  simp only [execOp, Instr.sliceAt, Instr.slice, Sem.run_bind, run_und h2, Result.andThen_ok, hx, Option.map_none, key, h4, Sem.run_pure]

/-- s[l:h] of a text -/
theorem slT (TOK : T.Ok P) {e : Env} {x : Operand} {lo hi : Option Operand} {t : TypeId} {l h : Nat} {s : ByteArray} {k : Value → Prop} {i' : TypeInfo} {ag' : Bool} {fs' : List (Nat × Nat × Bool)} {d ty pos af g}
    (hb : l ≤ h ∧ h ≤ s.size) (hk : k (.string (s.extract l h)))
    (hx : evo e x = .string s := by rfl)
    (hlo : (match lo with | some y => evo e y = .int .i64 (l : Int) | none => l = 0) := by rfl)
    (hhi : (match hi with | some y => evo e y = .int .i64 (h : Int) | none => h = s.size) := by rfl)
    (ht : T.get t = some ⟨i', .string, ag', fs'⟩ := by rfl) :
    OpP P (evo e) ⟨d, .slice t x lo hi none, ty, pos, af, g⟩ k := by
  have h2 := (TOK.get ht).und
  have key : ∀ w, (Instr.sliceBounds false s.size s.size (lo.map (evo e)) (hi.map (evo e)) none).run P w = .ok (l, h, s.size) w := by
    intro w
    cases lo with
    | none =>
      simp only at hlo
      subst hlo
      cases hi with
      | none => simp only at hhi; subst hhi; simp [Instr.sliceBounds]
      | some y => simp only at hhi; simp [Instr.sliceBounds, sbound hhi hb.2]
    | some yl =>
      simp only at hlo
      cases hi with
      | none => simp only at hhi; subst hhi; simp [Instr.sliceBounds, sbound hlo hb.1]
      | some y => simp only at hhi; simp [Instr.sliceBounds, sbound hhi hb.2, sbound hlo hb.1]
  refine OpP.ok (.string (s.extract l h)) (fun w => ?_) hk
  simp only [execOp, Instr.sliceAt, Instr.slice, Sem.run_bind, run_und h2, Result.andThen_ok, hx, Option.map_none, key, Sem.run_pure, Option.isSome_none, Bool.false_eq_true, if_false]

/-- &s[i] -/
theorem ia (TOK : T.Ok P) {e : Env} {x y : Operand} {t : TypeId} {b off n c E sz : Nat} {j : Int} {k : Value → Prop} {i i' : TypeInfo} {ds : TypeDesc} {ag ag' : Bool} {fs fs' : List (Nat × Nat × Bool)} {d ty pos af g}
    (hj : 0 ≤ j ∧ j < (n : Int)) (hk : k (.pointer (some ⟨b, off + j.toNat * sz, none⟩)))
    (hx : evo e x = .slice (some ⟨b, off, none⟩) n c := by rfl) (hy : evo e y = .int .i64 j := by rfl)
    (ht : T.get t = some ⟨i', .slice E, ag', fs'⟩ := by rfl) (hE : T.get E = some ⟨i, ds, ag, fs⟩ := by rfl) (hsz : i.size = sz := by rfl) :
    OpP P (evo e) ⟨d, .indexAddr t x y, ty, pos, af, g⟩ k := by
  subst hsz
  have h2 := (TOK.get ht).und
  have h4 := run_size (P := P) (TOK.get hE).info
  simp only at h4
  refine OpP.ok (.pointer (some ⟨b, off + j.toNat * i.size, none⟩)) (fun w => ?_) hk
  simp [execOp, Instr.indexAt, run_und h2, hx, hy, asIntOf, hj, h4, add_none]

/-- &a[i] of an array in memory -/
theorem iaA (TOK : T.Ok P) {e : Env} {x y : Operand} {t : TypeId} {b off n E sz : Nat} {j : Int} {k : Value → Prop} {i i' : TypeInfo} {ds : TypeDesc} {ag ag' : Bool} {fs fs' : List (Nat × Nat × Bool)} {d ty pos af g}
    (hj : 0 ≤ j ∧ j < (n : Int)) (hk : k (.pointer (some ⟨b, off + j.toNat * sz, none⟩)))
    (hx : evo e x = .pointer (some ⟨b, off, none⟩) := by rfl) (hy : evo e y = .int .i64 j := by rfl)
    (ht : T.get t = some ⟨i', .array n E, ag', fs'⟩ := by rfl) (hE : T.get E = some ⟨i, ds, ag, fs⟩ := by rfl) (hsz : i.size = sz := by rfl) :
    OpP P (evo e) ⟨d, .indexAddr t x y, ty, pos, af, g⟩ k := by
  subst hsz
  have h2 := (TOK.get ht).und
  have h4 := run_size (P := P) (TOK.get hE).info
  simp only at h4
  refine OpP.ok (.pointer (some ⟨b, off + j.toNat * i.size, none⟩)) (fun w => ?_) hk
  simp [execOp, Instr.indexAt, run_und h2, hx, hy, asIntOf, hj, h4, add_none, Instr.sureAddr]

/-- s[i] of a text -/
theorem ixT (TOK : T.Ok P) {e : Env} {x y : Operand} {t : TypeId} {s : ByteArray} {j : Int} {c : UInt8} {k : Value → Prop} {i' : TypeInfo} {ag' : Bool} {fs' : List (Nat × Nat × Bool)} {d ty pos af g}
    (hj : 0 ≤ j) (hc : s.data.toList[j.toNat]? = some c) (hk : k (.int .u8 c.toNat))
    (hx : evo e x = .string s := by rfl) (hy : evo e y = .int .i64 j := by rfl)
    (ht : T.get t = some ⟨i', .string, ag', fs'⟩ := by rfl) :
    OpP P (evo e) ⟨d, .index t x y, ty, pos, af, g⟩ k := by
  have h2 := (TOK.get ht).und
  have hlt : j.toNat < s.size := by
    rcases Nat.lt_or_ge j.toNat s.data.toList.length with h | h
    · simpa using h
    · rw [List.getElem?_eq_none h] at hc; cases hc
  have hg : s[j.toNat]? = some c := by
    rw [ByteArray.getElem?_lt' s _ hlt]
    rw [List.getElem?_eq_getElem (by simpa using hlt)] at hc
    exact hc
  refine OpP.ok (.int .u8 c.toNat) (fun w => ?_) hk
  simp [execOp, Instr.index, run_und h2, hx, hy, asIntOf, hj, hg]

/-- texts put together -/
theorem cat {e : Env} {x y : Operand} {t u : TypeId} {a b : ByteArray} {k : Value → Prop} {d ty pos af g}
    (h : a.size + b.size ≤ 9223372036854775807) (hk : k (.string (a ++ b))) (hx : evo e x = .string a := by rfl) (hy : evo e y = .string b := by rfl) :
    OpP P (evo e) ⟨d, .binOp .add t x y u, ty, pos, af, g⟩ k := by
  refine OpP.ok (.string (a ++ b)) (fun w => ?_) hk
  have hg : (eqGuard .add t x y (.string a) (.string b)).run P w = .ok () w := by unfold eqGuard; rfl
  have hn : ¬ (9223372036854775807 : Int) < ((a.size : Int) + (b.size : Int)) := by omega
  have hm : IntKind.i64.max = 9223372036854775807 := rfl
  simp [execOp, hx, hy, binOp, hg, Op.stringOp, hm, hn]

def B (l : List UInt8) : List Value := l.map fun b => Value.int .u8 (b.toNat : Int)
theorem B_len (l : List UInt8) : (B l).length = l.length := by simp [B]

/-- string(b) -/
theorem bts (TOK : T.Ok P) {e : Env} {x : Operand} {s t : TypeId} {E : Nat} {vs : Value} {l : List UInt8} {w : World} {k : Value → World → Prop} {i i' i'' : TypeInfo} {ag ag' ag'' : Bool} {fs fs' fs'' : List (Nat × Nat × Bool)} {d ty pos af g}
    (hs : Sl w vs E 1 l.length (B l)) (hk : k (.string ⟨⟨l⟩⟩) w) (hx : evo e x = vs := by rfl)
    (h1 : T.get s = some ⟨i', .slice E, ag', fs'⟩ := by rfl) (h2 : T.get E = some ⟨i, .int .u8, ag, fs⟩ := by rfl) (h3 : T.get t = some ⟨i'', .string, ag'', fs''⟩ := by rfl) :
    OpR P (evo e) ⟨d, .convert s t x, ty, pos, af, g⟩ w k := by
  have h1 := (TOK.get h1).und
  have h2 := (TOK.get h2).und
  have h3 := (TOK.get h3).und
  refine OpR.ok (v := .string ⟨⟨l⟩⟩) (w' := w) ?_ hk
  rcases hs.2 with ⟨c', hv, h0⟩ | ⟨b, off, c', full, hv, hnc, hb, hp⟩
  · have : l = [] := List.eq_nil_of_length_eq_zero h0
    subst this
    have := run_convert_bytes_nil (P := P) w s E h1 h2 0 c' t h3
    simp only [execOp, hx, hv, Sem.run_bind, List.length_nil, this, Result.andThen_ok, Sem.run_pure]
    rfl
  · have := run_convert_bytes_back (P := P) w s t E ⟨b, off, none⟩ c' l h1 h2 h3 (fun j hj => by
      rw [add_none]; exact hb.cells hp j _ (by simp [B, hj]))
    simp only [execOp, hx, hv, Sem.run_bind, this, Result.andThen_ok, Sem.run_pure]

end
end Go.Pst

namespace Go.Pst
open Go

/-- those that wait for i, through others too -/
def dsc (i : Nat) : List Oper → Nat → List Nat → List Nat
  | [], _, acc => acc
  | o :: l, j, acc => dsc i l (j + 1) (if o.after.toList.any (fun e => Region.binds .any e && (Nat.beq e.on i || acc.contains e.on)) then j :: acc else acc)

def Closed (ops : Array Oper) (ls : Array Bool) : Prop := ∀ j o, ops[j]? = some o → ls.getD j true = true → j < ls.size → ∀ e ∈ o.after, Region.binds .any e = true → ls.getD e.on false = true

theorem dsc_waits {ops : Array Oper} {ls : Array Bool} {i : Nat} (hs : ls.size = ops.size) (hc : Closed ops ls) (hi : ls.getD i false = false) : ∀ (l : List Oper) (j : Nat) (acc : List Nat),
    (∀ k, l[k]? = ops[j + k]?) → (∀ x ∈ acc, ∃ o, ops[x]? = some o ∧ ∃ e ∈ o.after, Region.binds .any e = true ∧ ls.getD e.on false = false) →
    ∀ x ∈ dsc i l j acc, ∃ o, ops[x]? = some o ∧ ∃ e ∈ o.after, Region.binds .any e = true ∧ ls.getD e.on false = false
  | [], _, acc, _, h => h
  | o :: l, j, acc, hl, h => by
    unfold dsc
    refine dsc_waits hs hc hi l (j + 1) _ (fun k => by have := hl (k + 1); simpa [Nat.add_assoc, Nat.add_comm 1] using this) ?_
    split
    · rename_i hany
      intro x hx
      rcases List.mem_cons.1 hx with rfl | hx
      · obtain ⟨e, he, hb⟩ := List.any_eq_true.1 hany
        simp only [Bool.and_eq_true, Bool.or_eq_true] at hb
        refine ⟨o, by have := hl 0; simpa using this.symm, e, by simpa using he, hb.1, ?_⟩
        rcases hb.2 with h' | h'
        · rw [Nat.eq_of_beq_eq_true h']; exact hi
        · obtain ⟨o', ho', e', he', hb', hu'⟩ := h _ (List.contains_iff_mem.1 h')
          cases hg : ls.getD e.on false with
          | false => rfl
          | true =>
            have hlt : e.on < ls.size := by
              rcases Nat.lt_or_ge e.on ls.size with h | h
              · exact h
              · simp [Array.getElem?_eq_none h] at hg
            have hg' : ls.getD e.on true = true := by
              simp [hlt] at hg ⊢; exact hg
            have := hc _ _ ho' hg' hlt e' he' hb'
            rw [this] at hu'; cases hu'
      · exact h x hx
    · exact h

abbrev Pend := List (List Nat × (World → Prop))

/-- is what was taken still to be kept, behind those that acted? -/
def due (ex : List Nat) (D : List Nat) : Bool := D.all fun x => !ex.contains x

section
variable {P : Program} {ops : Array Oper} {Q : Exit → Act → World → Prop}

def wpG (P : Program) (ops : Array Oper) (Q : Exit → Act → World → Prop) : Nat → Array Bool → List Nat → Pend → Act → World → Prop
  | 0, ls, _, _, a, w => Region.ready .any ops ls = [] ∧ Q .normal a w
  | f + 1, ls, ex, pd, a, w =>
    (Region.ready .any ops ls = [] → Q .normal a w) ∧
    ∀ j ∈ Region.ready .any ops ls, wpOp P ops Q j (fun a' w' => (∀ p ∈ pd, due (j :: ex) p.1 = true → p.2 w') ∧ wpG P ops Q f (ls.setIfInBounds j true) (j :: ex) pd a' w') a w

theorem wpAny_of_G : ∀ (f : Nat) (ls : Array Bool) (ex : List Nat) (pd : Pend) (a : Act) (w : World), wpG P ops Q f ls ex pd a w → wpAny P .any ops Q f ls a w
  | 0, _, _, _, _, _, h => h
  | f + 1, _, _, _, _, _, h => ⟨h.1, fun i hi => wpOp_mono (fun a' w' h' => wpAny_of_G f _ _ _ a' w' h'.2) (h.2 i hi)⟩

theorem due_mono {ex ex' D : List Nat} (h : ∀ x ∈ ex, x ∈ ex') (hd : due ex' D = true) : due ex D = true := by
  unfold due at hd ⊢
  simp only [List.all_eq_true, Bool.not_eq_true', List.contains_eq_mem, decide_eq_false_iff_not] at hd ⊢
  exact fun x hx hm => hd x hx (h x hm)

theorem wpG_drop : ∀ (f : Nat) (ls : Array Bool) (ex ex' : List Nat) (pd pd' : Pend) (a : Act) (w : World), (∀ p ∈ pd', p ∈ pd) → (∀ x ∈ ex, x ∈ ex') → wpG P ops Q f ls ex pd a w → wpG P ops Q f ls ex' pd' a w
  | 0, _, _, _, _, _, _, _, _, _, h => h
  | f + 1, _, _, _, _, _, _, _, hs, he, h => ⟨h.1, fun i hi => wpOp_mono (fun a' w' h' =>
      have hx : ∀ x ∈ i :: _, x ∈ i :: _ := fun x hx => by
        rcases List.mem_cons.1 hx with rfl | hx
        · exact List.mem_cons_self
        · exact List.mem_cons_of_mem _ (he x hx)
      ⟨fun p hp hd => h'.1 p (hs p hp) (due_mono hx hd), wpG_drop f _ _ _ _ _ a' w' hs hx h'.2⟩) (h.2 i hi)⟩

theorem closed_set {ls : Array Bool} {j : Nat} (hc : Closed ops ls) (hj : j ∈ Region.ready .any ops ls) : Closed ops (ls.setIfInBounds j true) := by
  intro k o ho hk hlt e he hb
  by_cases hjk : j = k
  · subst hjk
    obtain ⟨_, o', ho', hall⟩ := mem_ready.1 hj
    rw [ho] at ho'; cases ho'
    exact getD_set_true (hall e he hb)
  · rw [getD_set_ne true hjk] at hk
    exact getD_set_true (hc k o ho hk (by simpa using hlt) e he hb)

theorem wpG_first {i : Nat} {oi : Oper} {v : Value} {S : World → Prop} (hi : ops[i]? = some oi) (hsel : ∀ (j : Nat) (o : Oper) cs b, ops[j]? = some o → o.op ≠ .select cs b)
    (hQ : ∀ c a w, Q (.panic c) (a.put oi.dst v) w → Q (.panic c) a w) :
    ∀ (f : Nat) (ls : Array Bool) (ex : List Nat) (pd : Pend) (a : Act) (w : World), ls.size = ops.size → Closed ops ls →
      (∀ x ∈ ex, ls.getD x false = true) → (∀ p ∈ pd, due ex p.1 = true → p.2 w) →
      (∀ j oj, ops[j]? = some oj → j ≠ i → ls.getD j true = false → (∀ e ∈ oj.after, Region.binds .any e = true → e.on ≠ i) → oi.apart ops oj = true) →
      i ∈ Region.ready .any ops ls → YieldsIf P ops S oi v a → S w →
      wpG P ops Q f (ls.setIfInBounds i true) ex ((dsc i ops.toList 0 [], S) :: pd) (a.put oi.dst v) w → wpG P ops Q (f + 1) ls ex pd a w := by
  intro f
  induction f with
  | zero =>
    intro ls ex pd a w hsz hcl hex hpd _ hr hy hS H
    refine ⟨fun h => (by rw [h] at hr; cases hr), fun j hj => ?_⟩
    by_cases hji : j = i
    · subst hji; exact hy.wpOp hi hS ⟨fun p hp hd => hpd p hp (due_mono (fun x hx => List.mem_cons_of_mem _ hx) hd), H⟩
    · have := ready_mono hj hji
      rw [H.1] at this
      cases this
  | succ f ih =>
    intro ls ex pd a w hsz hcl hex hpd hfree hr hy hS H
    refine ⟨fun h => (by rw [h] at hr; cases hr), fun j hj => ?_⟩
    by_cases hji : j = i
    · subst hji
      exact hy.wpOp hi hS ⟨fun p hp hd => hpd p hp (due_mono (fun x hx => List.mem_cons_of_mem _ hx) hd),
        wpG_drop _ _ _ _ _ _ _ _ (fun p hp => List.mem_cons_of_mem _ hp) (fun x hx => List.mem_cons_of_mem _ hx) H⟩
    · have h1 := H.2 j (ready_mono hj hji)
      obtain ⟨hjun, oj, hoj, hall⟩ := mem_ready.1 hj
      have hiun : ls.getD i false = false := by
        have h0 := (mem_ready.1 hr).1
        rcases Nat.lt_or_ge i ls.size with h' | h'
        · simp [h'] at h0 ⊢; exact h0
        · simp [Array.getElem?_eq_none h']
      have hnot : ∀ e ∈ oj.after, Region.binds .any e = true → e.on ≠ i := fun e he hb heq => by
        have h1 := hall e he hb
        rw [heq, hiun] at h1; cases h1
      have h2 := wpOp_putIf hoj (hfree j oj hoj hji hjun hnot) (fun cs b => hsel i oi cs b hi) (fun cs b => hsel j oj cs b hoj) hQ hy h1
      have hfree' : ∀ k ok, ops[k]? = some ok → k ≠ i → (ls.setIfInBounds j true).getD k true = false →
          (∀ e ∈ ok.after, Region.binds .any e = true → e.on ≠ i) → oi.apart ops ok = true := fun k ok hk hki hun hno => by
        refine hfree k ok hk hki ?_ hno
        by_cases hjk : j = k
        · subst hjk; exact hjun
        · rw [getD_set_ne true hjk] at hun; exact hun
      have hcl' := closed_set hcl hj
      have hsz' : (ls.setIfInBounds j true).size = ops.size := by simpa using hsz
      have hiun' : (ls.setIfInBounds j true).getD i false = false := by rw [getD_set_ne false hji]; exact hiun
      have hjlt : j < ls.size := by rw [hsz]; exact (Array.getElem?_eq_some_iff.1 hoj).1
      have hex' : ∀ x ∈ j :: ex, (ls.setIfInBounds j true).getD x false = true := by
        intro x hx
        rcases List.mem_cons.1 hx with rfl | hx
        · simp [hjlt]
        · exact getD_set_true (hex x hx)
      -- j does not wait for i, so what i yields is kept behind it
      have hdue : due (j :: ex) (dsc i ops.toList 0 []) = true := by
        have hw := dsc_waits (i := i) hsz' hcl' hiun' ops.toList 0 [] (by simp) (by simp)
        unfold due
        simp only [List.all_eq_true, Bool.not_eq_true', List.contains_eq_mem, decide_eq_false_iff_not]
        intro x hx hm
        obtain ⟨o, ho, e, he, hb, hu⟩ := hw x hx
        have hxl := hex' x hm
        have hlt : x < (ls.setIfInBounds j true).size := by rw [hsz']; exact (Array.getElem?_eq_some_iff.1 ho).1
        have hxl' : (ls.setIfInBounds j true).getD x true = true := by
          simp only [Array.getD_eq_getD_getElem?, Array.getElem?_eq_getElem hlt, Option.getD_some] at hxl ⊢; exact hxl
        have := hcl' x o ho hxl' hlt e he hb
        rw [this] at hu; cases hu
      refine wpOp_mono (fun a' w' h3 => ?_) h2
      obtain ⟨hyy, hob, hG⟩ := h3
      have hS' : S w' := hob _ List.mem_cons_self hdue
      have hpd' : ∀ p ∈ pd, due (j :: ex) p.1 = true → p.2 w' := fun p hp hd => hob p (List.mem_cons_of_mem _ hp) hd
      refine ⟨hpd', ih (ls.setIfInBounds j true) (j :: ex) pd a' w' hsz' hcl' hex' hpd' hfree' (ready_mono hr (Ne.symm hji)) hyy hS' ?_⟩
      rw [Array.setIfInBounds_comm _ _ hji]
      exact hG

end
end Go.Pst

namespace Go.Pst
open Go

def eb (e : Edge) : Bool :=
  match e.ground with
  | .textOnly _ => false
  | .gcOnly _ => false
  | _ => true
theorem eb_eq (e : Edge) : eb e = Region.binds .any e := by
  unfold eb Region.binds; split <;> simp_all

def gt : List Bool → Nat → Bool
  | [], _ => false
  | b :: _, 0 => b
  | _ :: l, n + 1 => gt l n
theorem gt_eq (l : List Bool) (n : Nat) : gt l n = l.toArray.getD n false := by
  induction l generalizing n with
  | nil => simp [gt]
  | cons b l ih =>
    cases n with
    | zero => simp [gt]
    | succ n => simpa [gt] using ih n

def setT : List Bool → Nat → List Bool
  | [], _ => []
  | _ :: l, 0 => true :: l
  | b :: l, n + 1 => b :: setT l n
theorem setT_eq (l : List Bool) (n : Nat) : (setT l n).toArray = l.toArray.setIfInBounds n true := by
  have : setT l n = l.set n true := by
    induction l generalizing n with
    | nil => simp [setT]
    | cons b l ih => cases n <;> simp [setT, ih]
  rw [this]; simp
theorem setT_len (l : List Bool) (n : Nat) : (setT l n).length = l.length := by
  have := congrArg Array.size (setT_eq l n)
  simpa using this

def depsOk : List Edge → List Bool → Bool
  | [], _ => true
  | e :: es, dn => bif eb e then (bif gt dn e.on then depsOk es dn else false) else depsOk es dn
theorem depsOk_iff (es : List Edge) (dn : List Bool) : depsOk es dn = true ↔ ∀ e ∈ es, Region.binds .any e = true → dn.toArray.getD e.on false = true := by
  induction es with
  | nil => simp [depsOk]
  | cons e es ih =>
    unfold depsOk
    rw [eb_eq, gt_eq]
    cases hb : Region.binds .any e with
    | false => simp only [cond_false, ih, List.mem_cons, forall_eq_or_imp, hb, Bool.false_eq_true, false_implies, true_and]
    | true =>
      cases hg : dn.toArray.getD e.on false with
      | false => simp only [cond_true, cond_false, Bool.false_eq_true, false_iff]; intro h; have := h e List.mem_cons_self hb; rw [hg] at this; cases this
      | true => simp only [cond_true, ih, List.mem_cons, forall_eq_or_imp, hb, hg, true_implies, true_and]

/-- an operation that reads memory: what it yields where S holds, and that S holds -/
structure OpL (P : Program) (ρ : Operand → Value) (o : Oper) (w : World) (k : Value → (World → Prop) → Prop) : Prop where
  out : ∃ v S, S w ∧ (∀ w', S w' → (execOp ρ o).run P w' = .ok (.value v) w') ∧ k v S
theorem OpL.ok {P : Program} {ρ : Operand → Value} {o : Oper} {w : World} {k : Value → (World → Prop) → Prop} (v : Value) (S : World → Prop) (h1 : S w) (h2 : ∀ w', S w' → (execOp ρ o).run P w' = .ok (.value v) w') (h3 : k v S) : OpL P ρ o w k := by
  exact ⟨v, S, h1, h2, h3⟩
theorem OpL.get {P : Program} {ρ : Operand → Value} {o : Oper} {w : World} {k : Value → (World → Prop) → Prop} (h : OpL P ρ o w k) : ∃ v S, S w ∧ (∀ w', S w' → (execOp ρ o).run P w' = .ok (.value v) w') ∧ k v S := by
  exact h.out

/-- 0: passed over; 1: looks at no memory; 2: reads; 3: acts; 4: not known -/
def gkind (T : Tab) (N : Nat) (ops : List Oper) (o : Oper) (e : Env) : Nat :=
  let run : Nat := match o.op with
    | .load _ _ => 2
    | _ => bif lightK T e o then 1 else 3
  match o.guard with
  | none => run
  | some (j, want) =>
    match (nth ops j).bind (·.dst) with
    | some d =>
      match Nat.blt d N with
      | true =>
        match e d, want with
        | .bool true, true => run
        | .bool false, false => run
        | .bool true, false => 0
        | .bool false, true => 0
        | .tuple _, _ => 0
        | _, _ => 4
      | false => 4
    | none => 4

def pobl (ex : List Nat) : Pend → World → Prop → Prop
  | [], _, k => k
  | (D, S) :: r, w, k =>
    match due ex D with
    | true => S w ∧ pobl ex r w k
    | false => pobl ex r w k
theorem pobl_iff {ex : List Nat} {pd : Pend} {w : World} {k : Prop} (h : pobl ex pd w k) : (∀ p ∈ pd, due ex p.1 = true → p.2 w) ∧ k := by
  revert h
  induction pd with
  | nil => intro h; exact ⟨fun p hp => (nomatch hp), h⟩
  | cons p pd ih =>
    intro h
    obtain ⟨D, S⟩ := p
    unfold pobl at h
    split at h
    · have h12 := ih h.2
      refine ⟨fun p hp hdp => ?_, h12.2⟩
      rcases List.mem_cons.1 hp with rfl | hp
      · exact h.1
      · exact h12.1 p hp hdp
    · rename_i hd
      have h12 := ih h
      refine ⟨fun p hp hdp => ?_, h12.2⟩
      rcases List.mem_cons.1 hp with rfl | hp
      · rw [hd] at hdp; cases hdp
      · exact h12.1 p hp hdp

section
variable (P : Program) (T : Tab) (N : Nat) (ops : List Oper) (K : Env → World → Prop)
abbrev Nx := List Bool → List Nat → Pend → Env → World → Prop

def galt (next : Nx) (dn : List Bool) (ex : List Nat) (pd : Pend) (e : Env) (w : World) (j : Nat) (o : Oper) : Prop :=
  OpR P (evo e) o w fun v w' => gput N o.dst e v fun e' => pobl (j :: ex) pd w' (next (setT dn j) (j :: ex) pd e' w')

def galts (next : Nx) (dn : List Bool) (ex : List Nat) (pd : Pend) (e : Env) (w : World) : List (Nat × Oper) → Prop
  | [] => True
  | [(j, o)] => galt P N next dn ex pd e w j o
  | (j, o) :: r => galts next dn ex pd e w r ∧ galt P N next dn ex pd e w j o

def gscan (next : Nx) (dn : List Bool) (ex : List Nat) (pd : Pend) (e : Env) (w : World) : List Oper → Nat → List (Nat × Oper) → Prop
  | [], _, acc =>
    match acc with
    | [] => K e w
    | a :: r => galts P N next dn ex pd e w (a :: r)
  | o :: l, i, acc =>
    match gt dn i with
    | true => gscan next dn ex pd e w l (i + 1) acc
    | false =>
      match depsOk o.after.toList dn with
      | false => gscan next dn ex pd e w l (i + 1) acc
      | true =>
        match gkind T N ops o e with
        | 0 => gput N o.dst e undef fun e' => next (setT dn i) ex pd e' w
        | 1 => gop P T e o w fun v w' => gput N o.dst e v fun e' => next (setT dn i) ex pd e' w'
        | 2 => OpL P (evo e) o w fun v S => gput N o.dst e v fun e' => next (setT dn i) ex ((dsc i ops 0 [], S) :: pd) e' w
        | 3 => gscan next dn ex pd e w l (i + 1) ((i, o) :: acc)
        | _ => False

def gdr : Nat → Nx
  | 0 => fun _ _ _ _ _ => False
  | f + 1 => fun dn ex pd e w => gscan P T N ops K (gdr f) dn ex pd e w ops 0 []
end

def falses : List Oper → List Bool
  | [] => []
  | _ :: l => false :: falses l
theorem falses_eq (l : List Oper) : falses l = List.replicate l.length false := by
  induction l with
  | nil => rfl
  | cons o l ih => simp [falses, ih, List.replicate_succ]

/-- no two operations that may come in either order touch one slot -/
def apartAll (ops : Array Oper) : Bool :=
  Region.noSelect ops &&
  (List.range ops.size).all fun i => (List.range ops.size).all fun j => i == j ||
    match ops[i]?, ops[j]? with
    | some oi, some oj => oj.after.any (fun e => Region.binds .any e && e.on == i) || oi.after.any (fun e => Region.binds .any e && e.on == j) || oi.apart ops oj
    | _, _ => true

def nK (K : Env → World → Prop) : EPost := fun x e w => match x with | .normal => K e w | _ => False

section
variable {P : Program} {T : Tab} {N : Nat} {ops : List Oper} {K : Env → World → Prop}

structure Val (ops : List Oper) (f : Nat) (dn : List Bool) (ex : List Nat) (pd : Pend) (w : World) : Prop where
  len : dn.length = ops.length
  cnt : dn.count false = f
  closed : Closed ops.toArray dn.toArray
  exl : ∀ x ∈ ex, dn.toArray.getD x false = true
  pend : ∀ p ∈ pd, due ex p.1 = true → p.2 w

theorem count_set {dn : List Bool} {i : Nat} (h : gt dn i = false) (hi : i < dn.length) : dn.count false = (setT dn i).count false + 1 := by
  induction dn generalizing i with
  | nil => simp at hi
  | cons b l ih =>
    cases i with
    | zero => simp only [gt] at h; subst h; simp [setT]
    | succ i =>
      simp only [gt] at h
      have := ih h (by simpa using hi)
      cases b <;> simp [setT, this]

theorem ready_of {dn : List Bool} {i : Nat} {o : Oper} (ho : ops[i]? = some o) (hl : dn.length = ops.length) (hg : gt dn i = false) (hd : depsOk o.after.toList dn = true) : i ∈ Region.ready .any ops.toArray dn.toArray := by
  rw [mem_ready]
  have hi : i < dn.length := by rw [hl]; exact (List.getElem?_eq_some_iff.1 ho).1
  refine ⟨?_, o, by simpa using ho, fun e he hb => ?_⟩
  · rw [gt_eq] at hg
    simp [hi] at hg ⊢; exact hg
  · rw [depsOk_iff] at hd
    exact hd e (by simpa using he) hb

theorem Val.step {f : Nat} {dn : List Bool} {ex : List Nat} {pd pd' : Pend} {w w' : World} {i : Nat} {o : Oper} (h : Val ops (f + 1) dn ex pd w) (ho : ops[i]? = some o) (hg : gt dn i = false) (hd : depsOk o.after.toList dn = true)
    (hp : ∀ p ∈ pd', due ex p.1 = true → p.2 w') : Val ops f (setT dn i) ex pd' w' := by
  have hi : i < dn.length := by rw [h.len]; exact (List.getElem?_eq_some_iff.1 ho).1
  refine ⟨by rw [setT_len]; exact h.len, ?_, ?_, fun x hx => ?_, hp⟩
  · have := count_set hg hi; have := h.cnt; omega
  · rw [setT_eq]; exact closed_set h.closed (ready_of ho h.len hg hd)
  · rw [setT_eq]; exact getD_set_true (h.exl x hx)

theorem Val.act {f : Nat} {dn : List Bool} {ex : List Nat} {pd : Pend} {w w' : World} {i : Nat} {o : Oper} (h : Val ops (f + 1) dn ex pd w) (ho : ops[i]? = some o) (hg : gt dn i = false) (hd : depsOk o.after.toList dn = true)
    (hp : ∀ p ∈ pd, due (i :: ex) p.1 = true → p.2 w') : Val ops f (setT dn i) (i :: ex) pd w' := by
  have hi : i < dn.length := by rw [h.len]; exact (List.getElem?_eq_some_iff.1 ho).1
  refine ⟨by rw [setT_len]; exact h.len, ?_, ?_, fun x hx => ?_, hp⟩
  · have := count_set hg hi; have := h.cnt; omega
  · rw [setT_eq]; exact closed_set h.closed (ready_of ho h.len hg hd)
  · rw [setT_eq]
    rcases List.mem_cons.1 hx with rfl | hx
    · simp [hi]
    · exact getD_set_true (h.exl x hx)

theorem gkind_run {o : Oper} {e : Env} {a : Act} (hf : Fr N e a) {n : Nat} (h : gkind T N ops o e = n) :
    (n = 0 → Region.wanted o (yielded ops.toArray a.tmps) = false) ∧ ((n = 1 ∨ n = 2 ∨ n = 3) → Region.wanted o (yielded ops.toArray a.tmps) = true) ∧
    (n = 1 → lightK T e o = true) ∧ (n = 2 → ∃ t x, o.op = .load t x) := by
  have hrun : ∀ r, (match o.op with | .load _ _ => 2 | _ => bif lightK T e o then 1 else 3) = r → (r = 1 → lightK T e o = true) ∧ (r = 2 → ∃ t x, o.op = .load t x) ∧ r ≠ 0 ∧ r ≠ 4 := by
    intro r hr
    split at hr
    · rename_i t x hop
      subst hr
      exact ⟨fun h => (nomatch h), fun _ => ⟨t, x, hop⟩, by simp, by simp⟩
    · cases hl : lightK T e o
      · rw [hl] at hr; simp only [cond_false] at hr; subst hr; simp
      · rw [hl] at hr; simp only [cond_true] at hr; subst hr; simp
  unfold gkind at h
  simp only at h
  split at h
  · rename_i hg
    have hw : Region.wanted o (yielded ops.toArray a.tmps) = true := by simp [Region.wanted, hg]
    obtain ⟨h1, h2, h3, h4⟩ := hrun n h
    exact ⟨fun h => absurd h h3, fun _ => hw, h1, h2⟩
  · rename_i j want hg
    split at h
    · rename_i d hd
      rw [nth_eq] at hd
      split at h
      · rename_i hb
        have hy : yielded ops.toArray a.tmps j = match e d with | .bool b => some b | _ => none := by
          unfold yielded
          simp only [List.getElem?_toArray, hd, Option.bind_some, hf.tmp hb]
          split <;> simp_all
        split at h
        · rename_i he
          obtain ⟨h1, h2, h3, h4⟩ := hrun n h
          exact ⟨fun h => absurd h h3, fun _ => by simp [Region.wanted, hg, hy, he], h1, h2⟩
        · rename_i he
          obtain ⟨h1, h2, h3, h4⟩ := hrun n h
          exact ⟨fun h => absurd h h3, fun _ => by simp [Region.wanted, hg, hy, he], h1, h2⟩
        · rename_i he
          subst h; exact ⟨fun _ => by simp [Region.wanted, hg, hy, he], by simp, by simp, by simp⟩
        · rename_i he
          subst h; exact ⟨fun _ => by simp [Region.wanted, hg, hy, he], by simp, by simp, by simp⟩
        · rename_i he
          subst h; exact ⟨fun _ => by simp [Region.wanted, hg, hy, he], by simp, by simp, by simp⟩
        · subst h; simp
      · subst h; simp
    · subst h; simp

theorem apartAll_spec {ops : Array Oper} (h : apartAll ops = true) : Region.noSelect ops = true ∧ ∀ i j oi oj, ops[i]? = some oi → ops[j]? = some oj → i ≠ j →
    (∃ e ∈ oj.after, Region.binds .any e = true ∧ e.on = i) ∨ (∃ e ∈ oi.after, Region.binds .any e = true ∧ e.on = j) ∨ oi.apart ops oj = true := by
  unfold apartAll at h
  simp only [Bool.and_eq_true, List.all_eq_true, List.mem_range] at h
  refine ⟨h.1, fun i j oi oj hi hj hne => ?_⟩
  have := h.2 i (Array.getElem?_eq_some_iff.1 hi).1 j (Array.getElem?_eq_some_iff.1 hj).1
  simp only [hi, hj, Bool.or_eq_true, beq_iff_eq, hne, false_or] at this
  rcases this with (h | h) | h
  · obtain ⟨e, he, hb⟩ := Array.any_eq_true'.1 h
    simp only [Bool.and_eq_true, beq_iff_eq] at hb
    exact .inl ⟨e, he, hb⟩
  · obtain ⟨e, he, hb⟩ := Array.any_eq_true'.1 h
    simp only [Bool.and_eq_true, beq_iff_eq] at hb
    exact .inr (.inl ⟨e, he, hb⟩)
  · exact .inr (.inr h)

theorem wpG_triv {Q : Exit → Act → World → Prop} {ops : Array Oper} {D : List Nat} {S : World → Prop} (hS : ∀ w, S w) : ∀ (f : Nat) (ls : Array Bool) (ex : List Nat) (pd : Pend) (a : Act) (w : World), wpG P ops Q f ls ex pd a w → wpG P ops Q f ls ex ((D, S) :: pd) a w
  | 0, _, _, _, _, _, h => h
  | f + 1, _, _, _, _, _, h => ⟨h.1, fun i hi => wpOp_mono (fun a' w' h' => ⟨fun p hp hd => by
      rcases List.mem_cons.1 hp with rfl | hp
      · exact hS w'
      · exact h'.1 p hp hd, wpG_triv hS f _ _ _ a' w' h'.2⟩) (h.2 i hi)⟩

theorem gscan_sound (TOK : T.Ok P) (hap : apartAll ops.toArray = true) {f : Nat} {next : Nx} {dn : List Bool} {ex : List Nat} {pd : Pend} {e : Env} {w : World} {a : Act} (hv : Val ops (f + 1) dn ex pd w) (hf : Fr N e a)
    (hnext : ∀ dn ex pd e w, next dn ex pd e w → Val ops f dn ex pd w → ∀ a, Fr N e a → wpG P ops.toArray (lift N (nK K)) f dn.toArray ex pd a w) :
    ∀ (l : List Oper) (i : Nat) (acc : List (Nat × Oper)), (∀ k, l[k]? = ops[i + k]?) →
      (∀ j o, j < i → ops[j]? = some o → gt dn j = false → depsOk o.after.toList dn = true → (j, o) ∈ acc ∧ gkind T N ops o e = 3) → (∀ p ∈ acc, ops[p.1]? = some p.2 ∧ gt dn p.1 = false ∧ depsOk p.2.after.toList dn = true) →
      gscan P T N ops K next dn ex pd e w l i acc → wpG P ops.toArray (lift N (nK K)) (f + 1) dn.toArray ex pd a w
  | [], i, acc, hl, hacc, haccs, h => by
    have hall : ∀ j ∈ Region.ready .any ops.toArray dn.toArray, ∃ o, (j, o) ∈ acc ∧ ops[j]? = some o ∧ gt dn j = false ∧ depsOk o.after.toList dn = true ∧ gkind T N ops o e = 3 := by
      intro j hj
      obtain ⟨h0, o, ho, hd⟩ := mem_ready.1 hj
      have ho' : ops[j]? = some o := by simpa using ho
      have hlt : j < i := by
        have h1 : j < ops.length := (List.getElem?_eq_some_iff.1 ho').1
        have h2 := hl 0
        simp at h2
        omega
      have hg : gt dn j = false := by
        rw [gt_eq]
        have : j < dn.length := by rw [hv.len]; exact (List.getElem?_eq_some_iff.1 ho').1
        simp [this] at h0 ⊢; exact h0
      have hd' : depsOk o.after.toList dn = true := by rw [depsOk_iff]; exact fun e he hb => hd e (by simpa using he) hb
      obtain ⟨h1, h2⟩ := hacc j o hlt ho' hg hd'
      exact ⟨o, h1, ho', hg, hd', h2⟩
    unfold gscan at h
    refine ⟨fun hr => ?_, fun j hj => ?_⟩
    · cases acc with
      | nil => exact ⟨e, hf, h⟩
      | cons p acc =>
        exfalso
        obtain ⟨h1, h2, h3⟩ := haccs p List.mem_cons_self
        have := ready_of h1 hv.len h2 h3
        rw [hr] at this; cases this
    · obtain ⟨o, hm, ho, hg, hd, hk⟩ := hall j hj
      have hga : ∀ acc : List (Nat × Oper), (j, o) ∈ acc → galts P N next dn ex pd e w acc → galt P N next dn ex pd e w j o := by
        intro acc
        induction acc with
        | nil => intro h; cases h
        | cons p acc ih =>
          intro hm h
          cases acc with
          | nil =>
            simp only [List.mem_singleton] at hm
            subst hm
            exact h
          | cons q acc =>
            obtain ⟨h1, h2⟩ := h
            rcases List.mem_cons.1 hm with rfl | hm
            · exact h2
            · exact ih hm h1
      have hgalt : galt P N next dn ex pd e w j o := by
        cases acc with
        | nil => cases hm
        | cons p acc => exact hga _ hm h
      obtain ⟨_, hw, _, _⟩ := gkind_run (T := T) (ops := ops) hf hk
      unfold wpOp
      simp only [List.getElem?_toArray, ho]
      rw [if_pos (hw (by simp))]
      refine .inl (OpR.wp hf hgalt fun v w' hv' => ?_)
      obtain ⟨e', hf', hx⟩ := gput_ok hv' hf
      obtain ⟨h1, h2⟩ := pobl_iff hx
      refine ⟨h1, ?_⟩
      have := hnext _ _ _ _ _ h2 (hv.act ho hg hd h1) _ hf'
      rw [setT_eq] at this
      exact this
  | o :: l, i, acc, hl, hacc, haccs, h => by
    have ho : ops[i]? = some o := by have := hl 0; simpa using this.symm
    have hl' : ∀ k, l[k]? = ops[i + 1 + k]? := fun k => by have := hl (k + 1); simpa [Nat.add_assoc, Nat.add_comm 1] using this
    have more : ∀ acc' : List (Nat × Oper), (∀ p ∈ acc, p ∈ acc') → (gt dn i = false → depsOk o.after.toList dn = true → (i, o) ∈ acc' ∧ gkind T N ops o e = 3) →
        ∀ j o', j < i + 1 → ops[j]? = some o' → gt dn j = false → depsOk o'.after.toList dn = true → (j, o') ∈ acc' ∧ gkind T N ops o' e = 3 := by
      intro acc' hsub hi j o' hj hoj hg hd
      rcases Nat.lt_succ_iff_lt_or_eq.1 hj with hj | rfl
      · obtain ⟨h1, h2⟩ := hacc j o' hj hoj hg hd; exact ⟨hsub _ h1, h2⟩
      · rw [ho] at hoj; cases hoj; exact hi hg hd
    unfold gscan at h
    split at h
    · rename_i hg
      exact gscan_sound TOK hap hv hf hnext l (i + 1) acc hl' (more acc (fun (p : Nat × Oper) h => h) (fun h => by rw [hg] at h; cases h)) haccs h
    · rename_i hg
      split at h
      · rename_i hd
        exact gscan_sound TOK hap hv hf hnext l (i + 1) acc hl' (more acc (fun (p : Nat × Oper) h => h) (fun _ h => by rw [hd] at h; cases h)) haccs h
      · rename_i hd
        have hr := ready_of ho hv.len hg hd
        obtain ⟨hns, hapart⟩ := apartAll_spec hap
        have first : ∀ (v : Value) (S : World → Prop), YieldsIf P ops.toArray S o v a → S w →
            wpG P ops.toArray (lift N (nK K)) f (dn.toArray.setIfInBounds i true) ex ((dsc i ops 0 [], S) :: pd) (a.put o.dst v) w → wpG P ops.toArray (lift N (nK K)) (f + 1) dn.toArray ex pd a w := by
          intro v S hy hS hG
          refine wpG_first (by simpa using ho) (Region.noSelect_spec hns) (fun c a w ⟨_, _, h⟩ => h.elim) f _ ex pd a w (by simpa using hv.len) hv.closed hv.exl hv.pend ?_ hr hy hS hG
          intro j oj hj hji hun hno
          rcases hapart i j o oj (by simpa using ho) hj (Ne.symm hji) with ⟨e', he', hb, hon⟩ | ⟨e', he', hb, hon⟩ | h
          · exact absurd hon (hno e' he' hb)
          · exfalso
            obtain ⟨_, o2, ho2, hall⟩ := mem_ready.1 hr
            have h2 : some o2 = some o := by rw [← ho2]; simpa using ho
            cases h2
            have := hall e' he' hb
            rw [hon] at this
            have hjl : j < dn.length := by rw [hv.len]; have := (Array.getElem?_eq_some_iff.1 hj).1; simpa using this
            simp [hjl] at this hun
            rw [hun] at this; cases this
          · exact h
        split at h
        · rename_i hk
          obtain ⟨hw, _, _, _⟩ := gkind_run (T := T) (ops := ops) hf hk
          obtain ⟨e', hf', hx⟩ := gput_ok h hf
          have := hnext _ _ _ _ _ hx (hv.step ho hg hd hv.pend) _ hf'
          rw [setT_eq] at this
          exact first undef (fun _ => True) (.inr ⟨hw rfl, rfl⟩) trivial (wpG_triv (fun _ => trivial) _ _ _ _ _ _ this)
        · rename_i hk
          obtain ⟨_, hw, hlt, _⟩ := gkind_run (T := T) (ops := ops) hf hk
          rcases gop_cases TOK h with ⟨v, h1, h2⟩ | ⟨h1, _⟩
          · obtain ⟨e', hf', hx⟩ := gput_ok h2 hf
            have := hnext _ _ _ _ _ hx (hv.step ho hg hd hv.pend) _ hf'
            rw [setT_eq] at this
            exact first v (fun _ => True) (.inl ⟨hw (by simp), fun w _ => by rw [hf.eval]; exact h1 w⟩) trivial (wpG_triv (fun _ => trivial) _ _ _ _ _ _ this)
          · rw [hlt rfl] at h1; cases h1
        · rename_i hk
          obtain ⟨_, hw, _, _⟩ := gkind_run (T := T) (ops := ops) hf hk
          obtain ⟨v, S, hS, h1, h2⟩ := h.get
          obtain ⟨e', hf', hx⟩ := gput_ok h2 hf
          have := hnext _ _ _ _ _ hx (hv.step ho hg hd (by
            intro p hp hdp
            rcases List.mem_cons.1 hp with rfl | hp
            · exact hS
            · exact hv.pend p hp hdp)) _ hf'
          rw [setT_eq] at this
          exact first v S (.inl ⟨hw (by simp), fun w hS => by rw [hf.eval]; exact h1 w hS⟩) hS this
        · rename_i hk
          refine gscan_sound TOK hap hv hf hnext l (i + 1) ((i, o) :: acc) hl' (more ((i, o) :: acc) (fun (p : Nat × Oper) h => List.mem_cons_of_mem _ h) (fun _ _ => ⟨List.mem_cons_self, hk⟩)) ?_ h
          intro p hp
          rcases List.mem_cons.1 hp with rfl | hp
          · exact ⟨ho, hg, hd⟩
          · exact haccs p hp
        · exact h.elim

theorem gdr_sound (TOK : T.Ok P) (hap : apartAll ops.toArray = true) : ∀ (f : Nat) (dn : List Bool) (ex : List Nat) (pd : Pend) (e : Env) (w : World), gdr P T N ops K (f + 1) dn ex pd e w → Val ops f dn ex pd w →
    ∀ a, Fr N e a → wpG P ops.toArray (lift N (nK K)) f dn.toArray ex pd a w
  | 0, dn, ex, pd, e, w, h, hv, a, hf => by
    have hall : ∀ i, i < dn.length → gt dn i = true := by
      intro i hi
      cases hg : gt dn i with
      | true => rfl
      | false => have := count_set hg hi; have := hv.cnt; omega
    refine ⟨?_, ?_⟩
    · cases hr : Region.ready .any ops.toArray dn.toArray with
      | nil => rfl
      | cons j r =>
        exfalso
        have hj : j ∈ Region.ready .any ops.toArray dn.toArray := by rw [hr]; exact List.mem_cons_self
        obtain ⟨h0, o, ho, _⟩ := mem_ready.1 hj
        have hlt : j < dn.length := by rw [hv.len]; have := (Array.getElem?_eq_some_iff.1 ho).1; simpa using this
        have := hall j hlt
        rw [gt_eq] at this
        simp [hlt] at this h0
        rw [this] at h0; cases h0
    · have key : ∀ (l : List Oper) (i : Nat), i + l.length = ops.length → gscan P T N ops K (gdr P T N ops K 0) dn ex pd e w l i [] → K e w := by
        intro l
        induction l with
        | nil => intro i _ h; exact h
        | cons o l ih =>
          intro i hi h
          unfold gscan at h
          simp only [List.length_cons] at hi
          rw [hall i (by rw [hv.len]; omega)] at h
          exact ih (i + 1) (by omega) h
      exact ⟨e, hf, key ops 0 (by simp) h⟩
  | f + 1, dn, ex, pd, e, w, h, hv, a, hf =>
    gscan_sound TOK hap hv hf (fun dn ex pd e w h hv a hf => gdr_sound TOK hap f dn ex pd e w h hv a hf) ops 0 [] (fun k => by simp) (fun j o hj => absurd hj (Nat.not_lt_zero _)) (fun p hp => by cases hp) h

def lenL {α : Type} : List α → Nat
  | [] => 0
  | _ :: l => lenL l + 1
theorem lenL_eq {α : Type} (l : List α) : lenL l = l.length := by induction l <;> simp_all [lenL]

/-- a region whose order is open -/
theorem draw (TOK : T.Ok P) (hm : P.follows .mixedOrders = true) {id : Nat} {K : EPost} {e : Env} {w : World}
    (h : ∀ w', Ext w w' → w'.heap = w.heap → gdr P T N ops (K .normal) (lenL ops + 1) (falses ops) [] [] e w') (hap : apartAll ops.toArray = true := by decide +kernel) : Cw P N (.region id ⟨ops⟩ true) K e w := by
  refine ⟨fun a hf => ?_⟩
  have hv : Val ops ops.length (falses ops) [] [] { w with drawn := w.drawn + 1 } := by
    refine ⟨by simp [falses_eq], by simp [falses_eq], ?_, by simp, by simp⟩
    intro j o ho hj hlt
    exfalso
    simp [falses_eq] at hj hlt
    simp [hlt] at hj
  have := gdr_sound (N := N) (K := K .normal) TOK hap ops.length (falses ops) [] [] e { w with drawn := w.drawn + 1 } (by rw [← lenL_eq]; exact h _ (drew_ext w _) rfl) hv a hf
  have e1 : (falses ops).toArray = Array.replicate ops.toArray.size false := by simp [falses_eq]
  rw [e1] at this
  refine wp_mono (wp_region_any hm (wpAny_of_G _ _ [] [] _ _ this)) ?_
  rintro x a w ⟨e, hf, hx⟩
  cases x <;> first | exact ⟨e, hf, hx⟩ | exact hx.elim

end
end Go.Pst

namespace Go.Pst
open Go

section
variable {P : Program} {T : Tab}
theorem ldL (TOK : T.Ok P) {e : Env} {x : Operand} {t : TypeId} {b off : Nat} {E : TypeId} {cs : List Value} {v : Value} {w : World} {k : Value → (World → Prop) → Prop} {i : TypeInfo} {ds : TypeDesc} {fs : List (Nat × Nat × Bool)} {d ty pos af g}
    (hb : Blk w b E cs) (hk : k v (fun w' => w'.cell? ⟨b, off, none⟩ = some v)) (hx : evo e x = .pointer (some ⟨b, off, none⟩) := by rfl) (ht : T.get t = some ⟨i, ds, false, fs⟩ := by rfl) (hv : nth cs off = some v := by rfl) :
    OpL P (evo e) ⟨d, .load t x, ty, pos, af, g⟩ w k :=
  OpL.ok v (fun w' => w'.cell? ⟨b, off, none⟩ = some v) (by rw [hb.cell, ← nth_eq]; exact hv)
    (fun w' h => by simp [execOp, Instr.loadAt, hx, Instr.sureAddr, loadVar, (TOK.get ht).agg, h]) hk
theorem ldLC (TOK : T.Ok P) {e : Env} {x : Operand} {t : TypeId} {b off : Nat} {v : Value} {w : World} {k : Value → (World → Prop) → Prop} {i : TypeInfo} {ds : TypeDesc} {fs : List (Nat × Nat × Bool)} {d ty pos af g}
    (hc : w.cell? ⟨b, off, none⟩ = some v) (hk : k v (fun w' => w'.cell? ⟨b, off, none⟩ = some v)) (hx : evo e x = .pointer (some ⟨b, off, none⟩) := by rfl) (ht : T.get t = some ⟨i, ds, false, fs⟩ := by rfl) :
    OpL P (evo e) ⟨d, .load t x, ty, pos, af, g⟩ w k :=
  OpL.ok v (fun w' => w'.cell? ⟨b, off, none⟩ = some v) hc
    (fun w' h => by simp [execOp, Instr.loadAt, hx, Instr.sureAddr, loadVar, (TOK.get ht).agg, h]) hk
theorem ldLA (TOK : T.Ok P) {e : Env} {x : Operand} {t : TypeId} {b off : Nat} {vs : List Value} {w : World} {k : Value → (World → Prop) → Prop} {i : TypeInfo} {ds : TypeDesc} {fs : List (Nat × Nat × Bool)} {d ty pos af g}
    (hc : Cells w b off vs) (hk : k (.agg ⟨vs⟩) (fun w' => Cells w' b off vs)) (hx : evo e x = .pointer (some ⟨b, off, none⟩) := by rfl) (ht : T.get t = some ⟨i, ds, true, fs⟩ := by rfl) (hn : i.size = vs.length := by rfl) :
    OpL P (evo e) ⟨d, .load t x, ty, pos, af, g⟩ w k :=
  OpL.ok (.agg ⟨vs⟩) (fun w' => Cells w' b off vs) hc (fun w' h => by
    have h1 := run_loadCells_of (P := P) h
    have h2 := run_size (P := P) (TOK.get ht).info w'
    simp only at h2
    rw [hn] at h2
    simp [execOp, Instr.loadAt, hx, Instr.sureAddr, loadVar, (TOK.get ht).agg, h1, h2]) hk
end

/-- cells cs are the things l, sz cells each -/
def Rep {α : Type} (sz : Nat) (R : List Value → α → Prop) : List Value → List α → Prop
  | cs, [] => cs = []
  | cs, x :: l => (cs.take sz).length = sz ∧ R (cs.take sz) x ∧ Rep sz R (cs.drop sz) l

namespace Rep
variable {α β : Type} {sz : Nat} {R R' : List Value → α → Prop}

theorem len {cs : List Value} {l : List α} (h : Rep sz R cs l) : cs.length = l.length * sz := by
  induction l generalizing cs with
  | nil => simp only [Rep] at h; simp [h]
  | cons x l ih =>
    obtain ⟨h1, _, h3⟩ := h
    have := ih h3
    simp only [List.length_take, List.length_drop, List.length_cons, Nat.add_mul] at *
    omega

theorem mono {cs : List Value} {l : List α} (h : Rep sz R cs l) (hr : ∀ c x, x ∈ l → R c x → R' c x) : Rep sz R' cs l := by
  induction l generalizing cs with
  | nil => exact h
  | cons x l ih => exact ⟨h.1, hr _ _ List.mem_cons_self h.2.1, ih h.2.2 fun c x hx => hr c x (List.mem_cons_of_mem _ hx)⟩

theorem get {cs : List Value} {l : List α} (h : Rep sz R cs l) {i : Nat} {x : α} (hi : l[i]? = some x) : R ((cs.drop (i * sz)).take sz) x ∧ ((cs.drop (i * sz)).take sz).length = sz := by
  induction l generalizing cs i with
  | nil => simp at hi
  | cons y l ih =>
    obtain ⟨h1, h2, h3⟩ := h
    cases i with
    | zero => simp at hi; subst hi; simpa using ⟨h2, by simpa using h1⟩
    | succ i =>
      have := ih h3 (by simpa using hi)
      rw [List.drop_drop] at this
      rwa [show (i + 1) * sz = sz + i * sz from by rw [Nat.add_mul]; omega]

theorem nil : Rep sz R [] [] := rfl
theorem one {c : List Value} {x : α} (hc : c.length = sz) (h : R c x) : Rep sz R c [x] :=
  ⟨by rw [List.take_of_length_le (by omega)]; exact hc, by rw [List.take_of_length_le (by omega)]; exact h, by rw [List.drop_of_length_le (by omega)]; rfl⟩
theorem append {cs cs' : List Value} {l l' : List α} (h : Rep sz R cs l) (h' : Rep sz R cs' l') : Rep sz R (cs ++ cs') (l ++ l') := by
  induction l generalizing cs with
  | nil => simp only [Rep] at h; subst h; simpa using h'
  | cons x l ih =>
    obtain ⟨h1, h2, h3⟩ := h
    have hle : sz ≤ cs.length := by simp only [List.length_take] at h1; omega
    refine ⟨?_, ?_, ?_⟩
    · rw [List.take_append_of_le_length hle]; exact h1
    · rw [List.take_append_of_le_length hle]; exact h2
    · rw [List.drop_append_of_le_length hle]; exact ih h3
theorem take {cs : List Value} {l : List α} (h : Rep sz R cs l) (n : Nat) : Rep sz R (cs.take (n * sz)) (l.take n) := by
  induction n generalizing cs l with
  | zero => simp [Rep]
  | succ n ih =>
    cases l with
    | nil => simp only [Rep] at h; subst h; simp [Rep]
    | cons x l =>
      obtain ⟨h1, h2, h3⟩ := h
      have hle : sz ≤ cs.length := by simp only [List.length_take] at h1; omega
      refine ⟨?_, ?_, ?_⟩
      · rw [List.take_take, Nat.min_eq_left (by rw [Nat.add_mul]; omega)]; exact h1
      · rw [List.take_take, Nat.min_eq_left (by rw [Nat.add_mul]; omega)]; exact h2
      · have := ih h3
        rw [List.take_drop] at this
        rwa [show (n + 1) * sz = sz + n * sz from by rw [Nat.add_mul]; omega]
theorem drop {cs : List Value} {l : List α} (h : Rep sz R cs l) (n : Nat) : Rep sz R (cs.drop (n * sz)) (l.drop n) := by
  induction n generalizing cs l with
  | zero => simpa using h
  | succ n ih =>
    cases l with
    | nil => simp only [Rep] at h; subst h; simp [Rep]
    | cons x l =>
      have := ih h.2.2
      rw [List.drop_drop] at this
      rwa [show (n + 1) * sz = sz + n * sz from by rw [Nat.add_mul]; omega]
theorem set {cs c : List Value} {l : List α} {x : α} (h : Rep sz R cs l) (i : Nat) (hi : i < l.length) (hc : c.length = sz) (hx : R c x) : Rep sz R (splice cs (i * sz) c) (l.set i x) := by
  have h1 := (h.take i).append ((Rep.one hc hx).append (h.drop (i + 1)))
  have e1 : splice cs (i * sz) c = cs.take (i * sz) ++ (c ++ cs.drop ((i + 1) * sz)) := by
    unfold splice
    rw [hc, List.append_assoc, Nat.add_mul, Nat.one_mul]
  rw [e1, List.set_eq_take_append_cons_drop, if_pos hi]
  simpa using h1

theorem flat {enc : α → List Value} {l : List α} (he : ∀ x, (enc x).length = sz) : Rep sz (fun c x => c = enc x) (l.flatMap enc) l := by
  induction l with
  | nil => rfl
  | cons x l ih =>
    have h1 : (enc x ++ l.flatMap enc).take sz = enc x := by rw [List.take_append_of_le_length (by rw [he]; exact Nat.le_refl _), List.take_of_length_le (by rw [he]; exact Nat.le_refl _)]
    have h2 : (enc x ++ l.flatMap enc).drop sz = l.flatMap enc := by rw [List.drop_append_of_le_length (by rw [he]; exact Nat.le_refl _), List.drop_of_length_le (by rw [he]; exact Nat.le_refl _)]; simp
    exact ⟨by simp only [List.flatMap_cons]; rw [h1, he], by simp only [List.flatMap_cons]; exact h1, by simp only [List.flatMap_cons]; rw [h2]; exact ih⟩
theorem toFlat {enc : α → List Value} {cs : List Value} {l : List α} (h : Rep sz (fun c x => c = enc x) cs l) : cs = l.flatMap enc := by
  induction l generalizing cs with
  | nil => exact h
  | cons x l ih =>
    obtain ⟨h1, h2, h3⟩ := h
    rw [List.flatMap_cons, ← ih h3, ← h2, List.take_append_drop]
end Rep

/-- the blocks of F whose elements are of one of these types -/
def MB (F : Nat → Prop) (S : List Nat) (w : World) : Nat → Prop := fun b => F b ∧ ∃ E cs, Blk w b E cs ∧ E ∈ S

/-- w' is w, but for blocks of F of these types, and new blocks -/
def Mod (F : Nat → Prop) (S : List Nat) (w w' : World) : Prop := Chg (MB F S w) w w'

theorem Mod.refl (B : Nat → Prop) (S : List Nat) (w : World) : Mod B S w w := Chg.refl w
theorem Mod.trans {B : Nat → Prop} {S : List Nat} {w w1 w2 : World} (h : Mod B S w w1) (h' : Mod B S w1 w2) : Mod B S w w2 := by
  refine ⟨Nat.le_trans h.size h'.size, fun b hb hn => ?_, h'.os.trans h.os, h'.out.trans h.out, h.shp.trans h'.shp, fun a => (h'.fz a).trans (h.fz a)⟩
  have h1 := h.keep b hb hn
  rw [h'.keep b (Nat.lt_of_lt_of_le hb h.size) ?_, h1]
  rintro ⟨hB, E, cs, hbk, hE⟩
  exact hn ⟨hB, E, cs, ⟨h1 ▸ hbk.here, hbk.one⟩, hE⟩
theorem Chg.mod {B : Nat → Prop} {S : List Nat} {w w' : World} (h : Ext w w') : Mod B S w w' := h.up
theorem Chg.modB {B : Nat → Prop} {b : Nat} {S : List Nat} {w w' : World} {E : TypeId} {cs : List Value} (h : Chg (· = b) w w') (hb : Blk w b E cs) (hB : B b) (hE : E ∈ S) : Mod B S w w' :=
  h.mono fun c _ hc => by subst hc; exact ⟨hB, E, cs, hb, hE⟩
theorem Mod.kp {B : Nat → Prop} {S : List Nat} {w w' : World} (h : Mod B S w w') {E : Nat} (hE : ¬ E ∈ S) : Kp E w w' := fun b cs hb =>
  hb.chg h fun ⟨_, E', cs', hb', hE'⟩ => hE ((hb.inj hb').1 ▸ hE')
theorem Mod.ext {B : Nat → Prop} {S : List Nat} {w0 w w' : World} (h0 : Ext w0 w) (h : Mod B S w w') (hB : ∀ b, B b → w0.heap.size ≤ b) : Ext w0 w' :=
  h0.then h fun b hb => hB b hb.1
theorem Mod.mono {B B' : Nat → Prop} {S S' : List Nat} {w w' : World} (h : Mod B S w w') (hB : ∀ b, B b → B' b) (hS : ∀ E ∈ S, E ∈ S') : Mod B' S' w w' :=
  Chg.mono h fun b _ ⟨h1, E, cs, h2, h3⟩ => ⟨hB b h1, E, cs, h2, hS E h3⟩

theorem Blk.ne {w : World} {b b' : Nat} {E E' : TypeId} {cs cs' : List Value} (h : Blk w b E cs) (h' : Blk w b' E' cs') (hE : E ≠ E') : b ≠ b' := by
  rintro rfl; exact hE (h.inj h').1
theorem Blk.kp {w w' : World} {b : Nat} {E : TypeId} {cs : List Value} (h : Blk w b E cs) (hk : Kp E w w') : Blk w' b E cs := hk b cs h
theorem Own.kp {w w' : World} {v : Value} {E sz n : Nat} {cs : List Value} (h : Own w v E sz n cs) (hk : Kp E w w') : Own w' v E sz n cs :=
  ⟨h.1, h.2.imp id fun ⟨b, c, rest, h1, h2, h3, h4⟩ => ⟨b, c, rest, h1, h2, hk _ _ h3, h4⟩⟩
theorem Own.blk {w : World} {v : Value} {E sz n : Nat} {cs : List Value} (h : Own w v E sz n cs) {b : Nat} (hb : blkOf v b) : ∃ cs, Blk w b E cs := by
  rcases h.2 with ⟨hv, _⟩ | ⟨b', c, rest, hv, _, hk, _⟩
  · rw [hv] at hb; simp at hb
  · rw [hv] at hb; simp at hb; subst hb; exact ⟨_, hk⟩

end Go.Pst

namespace Go.Pst
open Go
theorem Chg.kpb {w w' : World} {b : Nat} {E E' : TypeId} {cs : List Value} (h : Chg (· = b) w w') (hb : Blk w b E cs) (hE : E' ≠ E) : Kp E' w w' := fun c cs' hc =>
  hc.chg h fun he => by subst he; exact hE (hc.inj hb).1
theorem Kp.refl (E : Nat) (w : World) : Kp E w w := fun _ _ h => h
theorem Kp.trans {E : Nat} {w w1 w2 : World} (h : Kp E w w1) (h' : Kp E w1 w2) : Kp E w w2 := fun b cs hb => h' b cs (h b cs hb)
theorem Apd.kp {w : World} {vs : Value} {E sz n m : Nat} {cs cs0 : List Value} {v' : Value} {w' : World} (h : Apd w vs E sz n m cs v' w') (ho : Own w vs E sz n cs0) {E' : Nat} (hE : E' ≠ E) : Kp E' w w' := fun b c hb =>
  hb.chg h.chg fun hbo => by obtain ⟨c2, h2⟩ := ho.blk hbo; exact hE (hb.inj h2).1
end Go.Pst

namespace Go.Pst
open Go
/-- a slice of one's own stays one, whatever was laid into it -/
theorem Own.shp {w w' : World} {v : Value} {E sz n : Nat} {cs : List Value} (h : Own w v E sz n cs) (hs : Shp w w') : ∃ cs', Own w' v E sz n cs' := by
  obtain ⟨h1, h2⟩ := h
  rcases h2 with ⟨hv, h0⟩ | ⟨b, c, rest, hv, hnc, hb, hl⟩
  · exact ⟨cs, h1, .inl ⟨hv, h0⟩⟩
  · obtain ⟨cs', hb', hl'⟩ := hs _ _ _ hb
    have hle : n * sz ≤ cs'.length := by rw [hl', List.length_append]; omega
    exact ⟨cs'.take (n * sz), by simp; omega, .inr ⟨b, c, cs'.drop (n * sz), hv, hnc, by rw [List.take_append_drop]; exact hb', by rw [List.take_append_drop, hl', hl]⟩⟩

/-- a frame of which some slots are known -/
def fr (g : Env) : List (Nat × Value) → Env
  | [] => g
  | (i, v) :: l => fun n => bif Nat.beq n i then v else fr g l n
def allE (e : Env) : List (Nat × Value) → Prop
  | [] => True
  | (i, v) :: l => e i = v ∧ allE e l
theorem mkfr {e : Env} (l : List (Nat × Value)) (h : allE e l) : ∃ g, e = fr g l := by
  refine ⟨e, ?_⟩
  induction l with
  | nil => rfl
  | cons p l ih =>
    obtain ⟨i, v⟩ := p
    obtain ⟨h1, h2⟩ := h
    funext n
    unfold fr
    cases hb : Nat.beq n i with
    | true => rw [Nat.eq_of_beq_eq_true hb, h1]; rfl
    | false => rw [← ih h2]; rfl

def jK (J : Env → World → Prop) (K : EPost) : EPost := fun x e w => match x with | .normal => J e w | x => K x e w
def ctake : Nat → Code → Code
  | 0, .seq a _ => a
  | n + 1, .seq a b => .seq a (ctake n b)
  | _, c => c
def cdrop : Nat → Code → Code
  | 0, .seq _ b => b
  | n + 1, .seq _ b => cdrop n b
  | _, _ => .skip
/-- a row of statements cut in two: J holds between -/
theorem go_cut {P : Program} {T : Tab} {N : Nat} (J : Env → World → Prop) : ∀ (n : Nat) (c : Code) (K : EPost) (e : Env) (w : World),
    go P T N (ctake n c) (jK J K) e w → (∀ e w, J e w → go P T N (cdrop n c) K e w) → go P T N c K e w
  | 0, c, K, e, w, h1, h2 => by
    cases c with
    | seq a b => exact go_mono (c := a) h1 fun x e w hx => by cases x <;> first | exact h2 _ _ hx | exact hx
    | _ => exact go_mono h1 fun x e w hx => by cases x <;> first | exact h2 _ _ hx | exact hx
  | n + 1, c, K, e, w, h1, h2 => by
    cases c with
    | seq a b =>
      refine go_mono (c := a) h1 fun x e w hx => ?_
      cases x with
      | normal => exact go_cut J n b K e w hx h2
      | _ => exact hx
    | _ => exact go_mono h1 fun x e w hx => by cases x <;> first | exact h2 _ _ hx | exact hx
end Go.Pst

namespace Go.Pst
open Go
theorem Own.opens {w : World} {b o n c E sz : Nat} {cs : List Value} (h : Own w (.slice (some ⟨b, o, none⟩) n c) E sz n cs) : o = 0 ∧ ∃ rest, n ≤ c ∧ Blk w b E (cs ++ rest) ∧ (cs ++ rest).length = c * sz := by
  rcases h.2 with ⟨hv, _⟩ | ⟨b', c', rest, hv, h1, h2, h3⟩
  · cases hv
  · cases hv; exact ⟨rfl, rest, h1, h2, h3⟩
theorem Own.set {w w' : World} {b n c E sz : Nat} {cs rest : List Value} {j : Nat} {v : Value} (h : Own w (.slice (some ⟨b, 0, none⟩) n c) E sz n cs) (hnc : n ≤ c) (hl : (cs ++ rest).length = c * sz) (hb : Blk w' b E ((cs ++ rest).set j v)) (hj : j < cs.length) :
    Own w' (.slice (some ⟨b, 0, none⟩) n c) E sz n (cs.set j v) := by
  refine ⟨by simpa using h.1, .inr ⟨b, c, rest, rfl, hnc, ?_, by simpa using hl⟩⟩
  rw [List.set_append_left _ _ hj] at hb; exact hb
theorem Own.splice {w w' : World} {b n c E sz : Nat} {cs rest vs : List Value} {j : Nat} (h : Own w (.slice (some ⟨b, 0, none⟩) n c) E sz n cs) (hnc : n ≤ c) (hl : (cs ++ rest).length = c * sz) (hb : Blk w' b E (splice (cs ++ rest) j vs)) (hj : j + vs.length ≤ cs.length) :
    Own w' (.slice (some ⟨b, 0, none⟩) n c) E sz n (splice cs j vs) := by
  have e : Go.Pst.splice (cs ++ rest) j vs = Go.Pst.splice cs j vs ++ rest := by
    unfold Go.Pst.splice
    rw [List.take_append_of_le_length (by omega), List.drop_append_of_le_length (by omega), List.append_assoc, List.append_assoc]
    simp [List.append_assoc]
  rw [e] at hb
  have hlen : (Go.Pst.splice cs j vs).length = cs.length := by unfold Go.Pst.splice; simp; omega
  exact ⟨by rw [hlen]; exact h.1, .inr ⟨b, c, rest, rfl, hnc, hb, by rw [List.length_append, hlen, ← List.length_append]; exact hl⟩⟩
theorem Rep.set1 {α : Type} {R : List Value → α → Prop} {cs : List Value} {l : List α} {v : Value} {x : α} (h : Rep 1 R cs l) (i : Nat) (hi : i < l.length) (hx : R [v] x) : Rep 1 R (cs.set i v) (l.set i x) := by
  have := h.set i hi (c := [v]) rfl hx
  have hl := h.len
  have e : splice cs (i * 1) [v] = cs.set i v := by
    unfold splice
    rw [Nat.mul_one, List.set_eq_take_append_cons_drop, if_pos (by omega)]
    simp
  rwa [e] at this
end Go.Pst

namespace Go.Pst
open Go Go.RowKit

theorem Chg.grown {w w' : World} (h : Ext w w') : Grown w w' := by
  refine ⟨⟨h.os, h.out, fun i hi => ?_⟩, h.fz, h.size⟩
  rw [h.keep i hi fun h => h]
  cases w.heap[i]? with
  | none => rfl
  | some o =>
    cases o with
    | cells c t fr => exact ⟨rfl, rfl, rfl, fun _ _ => rfl⟩
    | map es c => exact .inr ⟨rfl, rfl⟩
    | _ => rfl
theorem Chg.sameAt {w w' : World} (h : Ext w w') {p : MemPlace} (hb : p.block < w.heap.size) : w.sameAt w' p := by
  cases p with
  | cell b off =>
    show w'.cell? _ = w.cell? _
    unfold World.cell?
    rw [h.keep b hb fun h => h]
  | map b => exact h.keep b hb fun h => h
theorem Does.yes {P : Program} {g : FuncId} {vs : List Value} {w : World} (h : Does P g vs w fun v w' => v = .bool true ∧ Ext w w') :
    Calls P g ⟨vs⟩ w fun e w' => e = .returned (.bool true) ∧ Ext w w' :=
  h.does.mono fun e w' he => by
    cases e with
    | returned v => exact ⟨by rw [he.1], he.2⟩
    | _ => exact he.elim
theorem Does.grown {P : Program} {g : FuncId} {vs : List Value} {w : World} (h : Does P g vs w fun v w' => v = .bool true ∧ Ext w w') :
    Calls P g ⟨vs⟩ w fun e w' => e = .returned (.bool true) ∧ Grown w w' :=
  h.does.mono fun e w' he => by
    cases e with
    | returned v => exact ⟨by rw [he.1], he.2.grown⟩
    | _ => exact he.elim
end Go.Pst

namespace Go.Pst
open Go

section
variable {P : Program} {T : Tab}

theorem run_firstCells_take {w : World} {v : Value} {E sz n m : Nat} {cs : List Value} (h : Sl w v E sz n cs) (hm : m ≤ n) : (Builtin.firstCells sz m v).run P w = .ok ⟨cs.take (m * sz)⟩ w := by
  rcases h.2 with ⟨c, hv, h0⟩ | ⟨b, off, c, full, hv, hnc, hb, hp⟩
  · have : m = 0 := by omega
    subst this
    simp [Builtin.firstCells, hv]
  · have hl : (cs.take (m * sz)).length = m * sz := by
      rw [List.length_take, h.1, Nat.min_eq_left (Nat.mul_le_mul_right _ hm)]
    have h1 := run_loadCells_of (P := P) (hb.cells ((List.take_prefix (m * sz) cs).trans hp))
    rw [hl] at h1
    simp [Builtin.firstCells, hv, h1]

/-- copy(d, s), d in a block that is known -/
theorem cp (TOK : T.Ok P) {e : Env} {x y : Operand} {t tx : TypeId} {b off dn dc E E' sz m : Nat} {vx : Value} {full new : List Value} {w : World} {k : Value → World → Prop} {i i' : TypeInfo} {ds : TypeDesc} {ag ag' : Bool} {fs fs' : List (Nat × Nat × Bool)} {d ty pos af g}
    (hb : Blk w b E full) (hl : off + dn * sz ≤ full.length) (hs : Sl w vx E' sz m new)
    (hk : ∀ w', Blk w' b E (splice full off (new.take (min m dn * sz))) → Chg (· = b) w w' → w'.heap.size = w.heap.size → k (.int .i64 ((min m dn : Nat) : Int)) w')
    (hx : evo e x = .slice (some ⟨b, off, none⟩) dn dc := by rfl) (hy : evo e y = vx := by rfl)
    (ht : T.get t = some ⟨i', .slice E, ag', fs'⟩ := by rfl) (hE : T.get E = some ⟨i, ds, ag, fs⟩ := by rfl) (hsz : i.size = sz := by rfl) :
    OpR P (evo e) ⟨d, .call ⟨.builtin .copy, ⟨[x, y]⟩, ⟨[t, tx]⟩⟩, ty, pos, af, g⟩ w k := by
  subst hsz
  have h2 := (TOK.get ht).und
  have h4 := run_size (P := P) (TOK.get hE).info
  simp only at h4
  have hlen : (new.take (min m dn * i.size)).length = min m dn * i.size := by
    rw [List.length_take, hs.1, Nat.min_eq_left (Nat.mul_le_mul_right _ (Nat.min_le_left _ _))]
  have hle : min m dn * i.size ≤ dn * i.size := Nat.mul_le_mul_right _ (Nat.min_le_right _ _)
  have hfc := run_firstCells_take (P := P) hs (Nat.min_le_left m dn)
  obtain ⟨w', hr, hb', hc, hsz⟩ := run_storeCells_of (P := P) (new.take (min m dn * i.size)) 0 off full w hb (by omega) (fun v hv => hs.one v (List.mem_of_mem_take hv))
  rw [Nat.add_zero] at hb'
  refine OpR.ok (w' := w') ?_ (hk w' hb' hc hsz)
  obtain ⟨a, c, rfl⟩ := hs.isSlice
  have hlo : (Builtin.lenOf (.slice a m c)).run P w = .ok m w := by simp [Builtin.lenOf]
  simp only [execOp, resolve, invoke, builtin, hx, hy, Builtin.copy_, List.map_toArray, List.map_cons, List.map_nil, Sem.run_bind, Result.andThen_ok, Sem.run_pure, run_und h2, hlo, h4, hfc, hr, List.getElem?_toArray, List.getElem?_cons_zero, List.getElem?_cons_succ, goInt]

/-- s[l:h] of a slice, told with its length and its cells -/
theorem slN (TOK : T.Ok P) {e : Env} {x : Operand} {lo hi : Option Operand} {t : TypeId} {E sz n : Nat} {vs : Value} {cs : List Value} {w : World} {k : Value → Prop} {i i' : TypeInfo} {ds : TypeDesc} {ag ag' : Bool} {fs fs' : List (Nat × Nat × Bool)} {d ty pos af g} (l h n' : Nat) (cs' : List Value)
    (hs : Sl w vs E sz n cs) (hb : l ≤ h ∧ h ≤ n ∧ h - l = n') (hcs : (cs.drop (l * sz)).take ((h - l) * sz) = cs')
    (hk : ∀ a c, Sl w (.slice a n' c) E sz n' cs' → k (.slice a n' c))
    (hx : evo e x = vs := by rfl)
    (hlo : (match lo with | some y => evo e y = .int .i64 (l : Int) | none => l = 0) := by rfl)
    (hhi : (match hi with | some y => evo e y = .int .i64 (h : Int) | none => h = n) := by rfl)
    (ht : T.get t = some ⟨i', .slice E, ag', fs'⟩ := by rfl) (hE : T.get E = some ⟨i, ds, ag, fs⟩ := by rfl) (hsz : i.size = sz := by rfl) :
    OpP P (evo e) ⟨d, .slice t x lo hi none, ty, pos, af, g⟩ k := by
  obtain ⟨h1, h2, rfl⟩ := hb
  subst hcs
  exact slS TOK hs ⟨h1, h2⟩ hk hx hlo hhi ht hE hsz

/-- new set -/
theorem mkMap {e : Env} {t : TypeId} {w : World} {k : Value → World → Prop} {d ty pos af g}
    (hk : ∀ r w', w'.heap[r]? = some (.map #[] 0) → w.heap.size = r → Ext w w' → k (.map (some r)) w') :
    OpR P (evo e) ⟨d, .makeMap t none, ty, pos, af, g⟩ w k := by
  refine OpR.ok (v := .map (some w.heap.size)) (w' := w.alloc (.map #[] 0)) ?_ (hk _ _ (by unfold World.alloc; simp) rfl (push_ext _ _))
  simp [execOp, Instr.makeMap]

/-- block r is a map with these keys, all true -/
def MapS (w : World) (r : Nat) (l : List Int) : Prop := ∃ es clock, w.heap[r]? = some (.map es clock) ∧ es.toList.map (·.key) = l.map (Value.int .i64) ∧ ∀ x ∈ es.toList, x.val = .bool true

theorem MapS.lt {w : World} {r : Nat} {l : List Int} (h : MapS w r l) : r < w.heap.size := by
  obtain ⟨es, c, h, _⟩ := h
  rcases Nat.lt_or_ge r w.heap.size with h' | h'
  · exact h'
  · rw [Array.getElem?_eq_none h'] at h; cases h
theorem MapS.chg {M : Nat → Prop} {w w' : World} {r : Nat} {l : List Int} (h : MapS w r l) (hc : Chg M w w') (hm : ¬ M r) : MapS w' r l := by
  have hlt := h.lt
  obtain ⟨es, c, h1, h2⟩ := h
  exact ⟨es, c, (hc.keep r hlt hm).trans h1, h2⟩
theorem MapS.ne {w : World} {r b : Nat} {l : List Int} {E : Nat} {cs : List Value} (h : MapS w r l) (hb : Blk w b E cs) : r ≠ b := by
  rintro rfl
  obtain ⟨es, c, h1, _⟩ := h
  rw [hb.here] at h1; cases h1

theorem findNow_ok (n : Int) (es : List MapEntry) (l : List Int) (hk : es.map (·.key) = l.map (Value.int .i64)) (hv : ∀ x ∈ es, x.val = .bool true) (i : Nat) :
    (n ∈ l → ∃ j, Instr.findNow (.int .i64) (.int .i64 n) es i = some (some (j, .bool true))) ∧ (n ∉ l → Instr.findNow (.int .i64) (.int .i64 n) es i = some none) := by
  induction es generalizing l i with
  | nil =>
    have : l = [] := by cases l with | nil => rfl | cons => cases hk
    subst this
    refine ⟨?_, fun _ => rfl⟩
    intro h; cases h
  | cons e es ih =>
    cases l with
    | nil => cases hk
    | cons m l =>
      simp only [List.map_cons, List.cons.injEq] at hk
      have hr := ih l hk.2 (fun x hx => hv x (List.mem_cons_of_mem _ hx)) (i + 1)
      unfold Instr.findNow
      rw [hk.1]
      simp only [Instr.sameNow, if_true]
      by_cases hm : n = m
      · subst hm
        refine ⟨fun _ => ⟨i, ?_⟩, fun h => absurd List.mem_cons_self h⟩
        simp [hv e List.mem_cons_self]
      · have hb : (n == m) = false := by simpa using hm
        rw [hb]
        refine ⟨fun h => ?_, fun h => ?_⟩
        · exact hr.1 ((List.mem_cons.1 h).resolve_left hm)
        · exact hr.2 fun h' => h (List.mem_cons_of_mem _ h')

/-- m[n] -/
theorem lkS (TOK : T.Ok P) {e : Env} {x y : Operand} {t K V r : Nat} {n : Int} {l : List Int} {w : World} {k : Value → World → Prop} {i i' i'' : TypeInfo} {ag ag' ag'' : Bool} {fs fs' fs'' : List (Nat × Nat × Bool)} {d ty pos af g}
    (hm : MapS w r l) (hk : k (.bool (decide (n ∈ l))) w) (hx : evo e x = .map (some r) := by rfl) (hy : evo e y = .int .i64 n := by rfl)
    (ht : T.get t = some ⟨i', .map K V, ag', fs'⟩ := by rfl) (hK : T.get K = some ⟨i, .int .i64, ag, fs⟩ := by rfl) (hV : T.get V = some ⟨i'', .bool, ag'', fs''⟩ := by rfl) (hz : i''.zero = some (.bool false) := by rfl) :
    OpR P (evo e) ⟨d, .lookup t x y false, ty, pos, af, g⟩ w k := by
  have h1 := (TOK.get ht).und
  have h2 := (TOK.get hK).und
  have h3 := run_zero (P := P) (TOK.get hV).info hz
  simp only at h1 h2
  obtain ⟨es, c, hb, hkeys, hvals⟩ := hm
  have hgo : (getObj r).run P w = .ok (.map es c) w := by simp [getObj, Sem.run, hb]
  have hck : ∀ b, (Instr.checkKey b 10000 K (.int .i64 n)).run P w = .ok () w := by
    intro b; unfold Instr.checkKey; simp [run_und h2]
  have hf := findNow_ok n es.toList l hkeys hvals 0
  refine OpR.ok (w' := w) ?_ hk
  by_cases hn : n ∈ l
  · obtain ⟨j, hj⟩ := hf.1 hn
    simp [execOp, hx, hy, Instr.lookup, run_und h1, hgo, hck, Instr.findKey, run_und h2, hj, hn]
  · have hj := hf.2 hn
    simp [execOp, hx, hy, Instr.lookup, run_und h1, hgo, hck, Instr.findKey, run_und h2, hj, hn, h3]

/-- m[n] = true, n not yet there -/
theorem muS (TOK : T.Ok P) {e : Env} {x y z : Operand} {t K V r : Nat} {n : Int} {l : List Int} {w : World} {k : Value → World → Prop} {i i' : TypeInfo} {ag ag' : Bool} {fs fs' : List (Nat × Nat × Bool)} {d ty pos af g}
    (hm : MapS w r l) (hn : n ∉ l) (hk : ∀ w', MapS w' r (l ++ [n]) → Chg (· = r) w w' → w'.heap.size = w.heap.size → k undef w') (hx : evo e x = .map (some r) := by rfl) (hy : evo e y = .int .i64 n := by rfl) (hz : evo e z = .bool true := by rfl)
    (ht : T.get t = some ⟨i', .map K V, ag', fs'⟩ := by rfl) (hK : T.get K = some ⟨i, .int .i64, ag, fs⟩ := by rfl) :
    OpR P (evo e) ⟨d, .mapUpdate t x y z, ty, pos, af, g⟩ w k := by
  have h1 := (TOK.get ht).und
  have h2 := (TOK.get hK).und
  simp only at h1 h2
  have hlt := hm.lt
  obtain ⟨es, c, hb, hkeys, hvals⟩ := hm
  have hgo : (getObj r).run P w = .ok (.map es c) w := by simp [getObj, Sem.run, hb]
  have hck : ∀ b, (Instr.checkKey b 10000 K (.int .i64 n)).run P w = .ok () w := by
    intro b; unfold Instr.checkKey; simp [run_und h2]
  have hj := (findNow_ok n es.toList l hkeys hvals 0).2 hn
  refine OpR.skip (w' := { w with heap := w.heap.setIfInBounds r (.map (es.push { key := .int .i64 n, val := .bool true, born := c }) (c + 1)) }) ?_ (hk _ ⟨es.push { key := .int .i64 n, val := .bool true, born := c }, c + 1, ?_, ?_, ?_⟩ ?_ ?_)
  · simp [execOp, hx, hy, hz, Instr.mapUpdate, run_und h1, hgo, hck, Instr.findKey, run_und h2, hj, setObj, Sem.run, hb]
  · simp [hlt]
  · simp [hkeys]
  · intro x hx
    simp only [Array.toList_push, List.mem_append, List.mem_singleton] at hx
    rcases hx with hx | rfl
    · exact hvals x hx
    · rfl
  · refine ⟨by simp, fun b _ hb => by simp [Array.getElem?_setIfInBounds]; intro h; exact absurd h.symm hb, rfl, rfl, fun b E cs hc => ⟨cs, ⟨?_, hc.one⟩, rfl⟩, fun a => ?_⟩
    · have hne : r ≠ b := by rintro rfl; have := hc.here; rw [hb] at this; cases this
      simp only [Array.getElem?_setIfInBounds]; rw [if_neg hne]; exact hc.here
    · unfold World.frozen?
      simp only [Array.getElem?_setIfInBounds]
      by_cases ha : r = a.block
      · rw [if_pos ha, if_pos hlt, ← ha, hb]
      · rw [if_neg ha]
  · simp
end

/-- behind a body whose result stands in a variable; and such a one and another -/
def endC1 (a n : Nat) (R : Value → World → Prop) : EPost := fun x e w =>
  match x with
  | .ret => match e a with
    | .pointer (some ⟨b, off, none⟩) => ∃ vs, Cells w b off vs ∧ vs.length = n ∧ R (.agg ⟨vs⟩) w
    | _ => False
  | _ => False
def endC2 (a n t : Nat) (R : Value → World → Prop) : EPost := fun x e w =>
  match x with
  | .ret => match e a with
    | .pointer (some ⟨b, off, none⟩) => ∃ vs, Cells w b off vs ∧ vs.length = n ∧ frc (e t) fun v => R (.tuple ⟨[.agg ⟨vs⟩, v]⟩) w
    | _ => False
  | _ => False

section
variable {P : Program} {T : Tab}
theorem doesC1 (TOK : T.Ok P) {f : FuncId} {fn : Func} {c : Code} {N : Nat} {args : List Value} {w : World} {R : Value → World → Prop} {a n : Nat} {ty : TypeId} {i : TypeInfo} {ds : TypeDesc} {fs : List (Nat × Nat × Bool)}
    (hf : P.funcs[f]? = some fn) (he : ∀ (args : Array Value) (w : World), (callFunc f args).run P w = .ok (.enter f args) w) (hn : fn.ntmps = N) (hr : fn.results = #[.cell a ty])
    (h : go P T N c (endC1 a n R) (initE args) w) (ht : T.get ty = some ⟨i, ds, true, fs⟩ := by rfl) (hs : i.size = n := by rfl) (hb : fn.body = some c := by rfl) (hl : Nat.ble args.length N = true := by rfl) : Does P f args w R := by
  refine ⟨he, calls_of TOK hf hb hn hl h ?_⟩
  rintro x ac w ⟨e, hfr, hx⟩
  cases x <;> simp only [endC1] at hx
  split at hx
  · rename_i b off ha
    obtain ⟨vs, hc, hlen, hR⟩ := hx
    refine ⟨hfr.dfr, .agg ⟨vs⟩, ?_, hR⟩
    have h1 := run_loadCells_of (P := P) hc
    have h2 := run_size (P := P) (TOK.get ht).info w
    simp only at h2
    rw [hs, ← hlen] at h2
    have ha' := hfr.get a
    rw [ha] at ha'
    simp [-Array.getD_eq_getD_getElem?, results, hr, ha', loadVar, (TOK.get ht).agg, h1, h2, asAddr]
  · exact hx.elim
theorem doesC2 (TOK : T.Ok P) {f : FuncId} {fn : Func} {c : Code} {N : Nat} {args : List Value} {w : World} {R : Value → World → Prop} {a n t : Nat} {ty : TypeId} {i : TypeInfo} {ds : TypeDesc} {fs : List (Nat × Nat × Bool)}
    (hf : P.funcs[f]? = some fn) (he : ∀ (args : Array Value) (w : World), (callFunc f args).run P w = .ok (.enter f args) w) (hn : fn.ntmps = N) (hr : fn.results = #[.cell a ty, .tmp t])
    (h : go P T N c (endC2 a n t R) (initE args) w) (ht : T.get ty = some ⟨i, ds, true, fs⟩ := by rfl) (hs : i.size = n := by rfl) (hb : fn.body = some c := by rfl) (hl : Nat.ble args.length N = true := by rfl) : Does P f args w R := by
  refine ⟨he, calls_of TOK hf hb hn hl h ?_⟩
  rintro x ac w ⟨e, hfr, hx⟩
  cases x <;> simp only [endC2] at hx
  split at hx
  · rename_i b off ha
    obtain ⟨vs, hc, hlen, hR⟩ := hx
    rw [frc_eq] at hR
    refine ⟨hfr.dfr, .tuple ⟨[.agg ⟨vs⟩, e t]⟩, ?_, hR⟩
    have h1 := run_loadCells_of (P := P) hc
    have h2 := run_size (P := P) (TOK.get ht).info w
    simp only at h2
    rw [hs, ← hlen] at h2
    have ha' := hfr.get a
    rw [ha] at ha'
    have ht' := hfr.get t
    simp [-Array.getD_eq_getD_getElem?, results, hr, ha', ht', loadVar, (TOK.get ht).agg, h1, h2, asAddr]
  · exact hx.elim
end
end Go.Pst

namespace Go.Pst
open Go

/-- the lowest k bytes of a number, the lowest first -/
def le (n : Nat) : Nat → List UInt8
  | 0 => []
  | k + 1 => le n k ++ [UInt8.ofNat (n / 2 ^ (8 * k))]
@[simp] theorem le_len (n k : Nat) : (le n k).length = k := by induction k with | zero => rfl | succ k ih => simp [le, ih]

/-- the number that bytes are, the lowest first -/
def unle : List UInt8 → Nat
  | [] => 0
  | b :: l => b.toNat + 256 * unle l

theorem unle_append (l : List UInt8) (b : UInt8) : unle (l ++ [b]) = unle l + 2 ^ (8 * l.length) * b.toNat := by
  induction l with
  | nil => simp [unle]
  | cons x l ih =>
    simp only [List.cons_append, unle, ih, List.length_cons]
    rw [show 8 * (l.length + 1) = 8 * l.length + 8 from by omega, Nat.pow_add]
    have : 2 ^ (8 * l.length) * 2 ^ 8 * b.toNat = 256 * (2 ^ (8 * l.length) * b.toNat) := by
      rw [Nat.mul_comm (2 ^ (8 * l.length)) (2 ^ 8), Nat.mul_assoc]
    omega

theorem unle_lt (l : List UInt8) : unle l < 2 ^ (8 * l.length) := by
  induction l with
  | nil => simp [unle]
  | cons x l ih =>
    simp only [unle, List.length_cons]
    rw [show 8 * (l.length + 1) = 8 * l.length + 8 from by omega, Nat.pow_add]
    have := x.toNat_lt
    omega

theorem unle_le (n k : Nat) : unle (le n k) = n % 2 ^ (8 * k) := by
  induction k with
  | zero => simp [le, unle, Nat.mod_one]
  | succ k ih =>
    rw [le, unle_append, ih, le_len]
    have h1 : (UInt8.ofNat (n / 2 ^ (8 * k))).toNat = n / 2 ^ (8 * k) % 256 := by simp
    rw [h1, show 8 * (k + 1) = 8 * k + 8 from by omega, Nat.pow_add, Nat.mod_mul]

/-- an int as a number of 64 bits, and back -/
def u64 (n : Int) : Nat := (n % 18446744073709551616).toNat
theorem u64_lt (n : Int) : u64 n < 18446744073709551616 := by unfold u64; omega
theorem wrap_u64 (n : Int) : IntKind.u64.wrap n = (u64 n : Int) := by
  unfold IntKind.wrap u64
  simp [IntKind.bits, IntKind.signed]
  omega
def i64 (n : Nat) : Int := IntKind.i64.wrap n
theorem i64_u64 (n : Int) (h : -9223372036854775808 ≤ n ∧ n < 9223372036854775808) : i64 (u64 n) = n := by
  unfold i64 u64 IntKind.wrap
  simp [IntKind.bits, IntKind.signed]
  omega

/-- Int and Text, as bytes -/
def encI (n : Int) : List UInt8 := le (u64 n) 8
def encT (s : ByteArray) : List UInt8 := le (min s.size 65535) 2 ++ s.data.toList.take 65535
def encF (b : Bool) : List UInt8 := if b then [1] else [0]
@[simp] theorem encI_len (n : Int) : (encI n).length = 8 := by simp [encI]
theorem encT_len (s : ByteArray) : (encT s).length = 2 + min s.size 65535 := by simp [encT]; omega
@[simp] theorem encF_len (b : Bool) : (encF b).length = 1 := by cases b <;> rfl

/-- what is left to read; none: it has failed -/
abbrev Rd := Option (List UInt8)
def rdTake (r : Rd) (n : Nat) : Option (List UInt8 × List UInt8) := match r with
  | none => none
  | some l => if l.length < n then none else some (l.take n, l.drop n)
def rdNum (r : Rd) (k : Nat) : Nat × Rd := match rdTake r k with
  | none => (0, none)
  | some (a, b) => (unle a, some b)
def rdInt (r : Rd) : Int × Rd := let x := rdNum r 8; (i64 x.1, x.2)
def rdText (r : Rd) : ByteArray × Rd := let x := rdNum r 2
  match rdTake x.2 x.1 with
  | none => (⟨#[]⟩, none)
  | some (a, b) => (⟨⟨a⟩⟩, some b)
def rdFlag (r : Rd) : Bool × Rd := match rdTake r 1 with
  | none => (false, none)
  | some (a, b) => if 1 < (a.headD 0).toNat then (false, none) else ((a.headD 0).toNat == 1, some b)

theorem rdTake_append (a b : List UInt8) : rdTake (some (a ++ b)) a.length = some (a, b) := by
  simp [rdTake]
theorem rdNum_append (n k : Nat) (b : List UInt8) (h : n < 2 ^ (8 * k)) : rdNum (some (le n k ++ b)) k = (n, some b) := by
  have := rdTake_append (le n k) b
  rw [le_len] at this
  simp [rdNum, this, unle_le, Nat.mod_eq_of_lt h]
theorem rdInt_enc (n : Int) (b : List UInt8) (h : -9223372036854775808 ≤ n ∧ n < 9223372036854775808) : rdInt (some (encI n ++ b)) = (n, some b) := by
  simp only [rdInt, encI]
  rw [rdNum_append _ _ _ (by have := u64_lt n; omega)]
  simp [i64_u64 n h]
theorem rdText_enc (s : ByteArray) (b : List UInt8) (h : s.size ≤ 65535) : rdText (some (encT s ++ b)) = (s, some b) := by
  have hs : s.data.toList.length = s.size := by simp
  simp only [rdText, encT]
  rw [List.append_assoc, rdNum_append _ _ _ (by omega)]
  have h1 : s.data.toList.take 65535 = s.data.toList := List.take_of_length_le (by omega)
  have h2 : min s.size 65535 = s.data.toList.length := by omega
  simp only [h1]
  rw [h2, rdTake_append]
theorem rdFlag_enc (f : Bool) (b : List UInt8) : rdFlag (some (encF f ++ b)) = (f, some b) := by
  have := rdTake_append (encF f) b
  rw [encF_len] at this
  rw [rdFlag, this]
  cases f <;> simp [encF]
end Go.Pst

namespace Go.Pst
open Go

inductive LK where
  | i (k : IntKind)
  | s
  | b
def fitK : LK → Value → Bool
  | .i k, .int k' _ => sameK k k'
  | .s, .string _ => true
  | .b, .bool _ => true
  | _, _ => false
def fits : List LK → List Value → Bool
  | [], [] => true
  | k :: ks, v :: vs => fitK k v && fits ks vs
  | _, _ => false
/-- are these cells the same? -/
def eqC : List Value → List Value → Bool
  | .int _ a :: l, .int _ b :: m => decide (a = b) && eqC l m
  | .string a :: l, .string b :: m => decide (a = b) && eqC l m
  | .bool a :: l, .bool b :: m => decide (a = b) && eqC l m
  | _, _ => true

def dsAg : TypeDesc → Bool
  | .struct _ => true
  | .array _ _ => true
  | _ => false
def eqFs (P : Program) (rec : TypeId → Option (List LK)) : List Field → Nat → Option (List LK)
  | [], _ => some []
  | f :: fs, n =>
    match rec f.type, P.types[f.type]?, P.underlying f.type with
    | some ks, some i, some ds =>
      if (f.name == "_") = false ∧ f.offset = n ∧ i.size = ks.length ∧ ks.length ≠ 0 ∧ (dsAg ds = true ∨ ks.length = 1) then
        match eqFs P rec fs (n + ks.length) with
        | some r => some (ks ++ r)
        | none => none
      else none
    | _, _, _ => none
def eqKs (P : Program) : Nat → TypeId → Option (List LK)
  | 0, _ => none
  | d + 1, t =>
    match P.underlying t with
    | some (.int k) => some [.i k]
    | some .string => some [.s]
    | some .bool => some [.b]
    | some (.struct fs) => if P.stoodInHeld t then none else eqFs P (eqKs P d) fs.toList 0
    | _ => none

def isAg (P : Program) (t : TypeId) : Bool := (P.underlying t).any dsAg
def ofC (ag : Bool) (xs : List Value) : Value := if ag then .agg ⟨xs⟩ else xs.headD undef

theorem fits_len {ks : List LK} {xs : List Value} (h : fits ks xs = true) : xs.length = ks.length := by
  induction ks generalizing xs with
  | nil => cases xs with | nil => rfl | cons => simp [fits] at h
  | cons k ks ih => cases xs with
    | nil => simp [fits] at h
    | cons x xs => simp only [fits, Bool.and_eq_true] at h; simp [ih h.2]
theorem fits_append {ks ks' : List LK} {xs : List Value} (h : fits (ks ++ ks') xs = true) : fits ks (xs.take ks.length) = true ∧ fits ks' (xs.drop ks.length) = true := by
  induction ks generalizing xs with
  | nil => simpa [fits] using h
  | cons k ks ih => cases xs with
    | nil => simp [fits] at h
    | cons x xs =>
      simp only [List.cons_append, fits, Bool.and_eq_true] at h
      have := ih h.2
      simp only [List.length_cons, List.take_succ_cons, List.drop_succ_cons, fits, Bool.and_eq_true]
      exact ⟨⟨h.1, this.1⟩, this.2⟩
theorem eqC_append {ks ks' : List LK} {xs ys : List Value} (hx : fits (ks ++ ks') xs = true) (hy : fits (ks ++ ks') ys = true) :
    eqC xs ys = (eqC (xs.take ks.length) (ys.take ks.length) && eqC (xs.drop ks.length) (ys.drop ks.length)) := by
  induction ks generalizing xs ys with
  | nil => simp [eqC]
  | cons k ks ih =>
    cases xs with
    | nil => simp [fits] at hx
    | cons x xs =>
    cases ys with
    | nil => simp [fits] at hy
    | cons y ys =>
      simp only [List.cons_append, fits, Bool.and_eq_true] at hx hy
      have := ih hx.2 hy.2
      simp only [List.length_cons, List.take_succ_cons, List.drop_succ_cons]
      cases k <;> cases x <;> simp [fitK] at hx <;> cases y <;> simp [fitK] at hy <;> simp only [eqC, this, Bool.and_assoc]

theorem eqC_one {k : LK} {x y : Value} (hx : fitK k x = true) (hy : fitK k y = true) : ∃ r, eqC [x] [y] = r := ⟨_, rfl⟩

section
variable {P : Program} {T : Tab}

theorem part_ok {f : TypeId} {i : TypeInfo} {xs : List Value} {off n : Nat} (hi : P.types[f]? = some i) (hs : i.size = n) (hn : n ≠ 0) (hu : (P.underlying f).isSome) (ha : isAg P f = true ∨ n = 1) (hl : off + n ≤ xs.length) (w : World) :
    (part f ⟨xs⟩ off).run P w = .ok (ofC (isAg P f) ((xs.drop off).take n)) w := by
  unfold part
  have hag : (isAgg f).run P w = .ok (isAg P f) w := by
    apply run_agg
    unfold isAg
    cases h : P.underlying f with
    | none => rw [h] at hu; cases hu
    | some d => cases d <;> simp [dsAg]
  simp only [Sem.run_bind, hag, Result.andThen_ok]
  cases h : isAg P f with
  | true =>
    have := run_size (P := P) hi w
    simp only [if_true, Sem.run_bind, this, hs, Result.andThen_ok, Sem.run_pure, ofC]
    congr 2
    apply Array.ext'
    simp
  | false =>
    rw [h] at ha
    have h1 : n = 1 := by simpa using ha
    subst h1
    have hlt : off < xs.length := by omega
    have e1 : (⟨xs⟩ : Array Value)[off]? = some xs[off] := by simp [hlt]
    have e2 : (xs.drop off).take 1 = [xs[off]] := by rw [List.drop_eq_getElem_cons hlt]; rfl
    simp only [Bool.false_eq_true, if_false, ofC, e1, e2, Sem.run_pure, List.headD_cons]

theorem eqFs_ok {rec : TypeId → Option (List LK)} {d : Nat} (hrec : ∀ t ks, rec t = some ks → ∀ xs ys, fits ks xs = true → fits ks ys = true → ∀ w, (Op.equalIn d t (ofC (isAg P t) xs) (ofC (isAg P t) ys)).run P w = .ok (eqC xs ys) w) :
    ∀ (fs : List Field) (n : Nat) (ks : List LK), eqFs P rec fs n = some ks → ∀ xs ys : List Value, fits ks (xs.drop n) = true → fits ks (ys.drop n) = true → n ≤ xs.length → n ≤ ys.length → ∀ w,
      (Op.eqFields d ⟨xs⟩ ⟨ys⟩ fs).run P w = .ok (eqC (xs.drop n) (ys.drop n)) w
  | [], n, ks, h, xs, ys, hx, hy, _, _, w => by
    simp only [eqFs, Option.some.injEq] at h
    subst h
    have hx := fits_len hx; have hy := fits_len hy
    simp only [List.length_nil] at hx hy
    rw [List.eq_nil_of_length_eq_zero hx, List.eq_nil_of_length_eq_zero hy]
    simp [Op.eqFields, eqC]
  | f :: fs, n, ks, h, xs, ys, hx, hy, hnx, hny, w => by
    unfold eqFs at h
    split at h
    · rename_i k1 i ds hk hi hd
      split at h
      · rename_i hc
        obtain ⟨h1, h2, h3, h4, h5⟩ := hc
        split at h
        · rename_i r hr
          simp only [Option.some.injEq] at h
          subst h
          have ax := fits_append hx; have ay := fits_append hy
          have lx := fits_len ax.1; have ly := fits_len ay.1
          simp only [List.length_take, List.length_drop] at lx ly
          have hag : isAg P f.type = true ∨ k1.length = 1 := by
            unfold isAg; rw [hd]; exact h5
          have px := part_ok (P := P) (xs := xs) (off := n) hi h3 h4 (by rw [hd]; rfl) hag (by omega) w
          have py := part_ok (P := P) (xs := ys) (off := n) hi h3 h4 (by rw [hd]; rfl) hag (by omega) w
          have he := hrec _ _ hk _ _ ax.1 ay.1 w
          have ih := eqFs_ok hrec fs _ _ hr xs ys (by rw [← List.drop_drop]; exact ax.2) (by rw [← List.drop_drop]; exact ay.2) (by omega) (by omega) w
          have hn' : f.name ≠ "_" := by simpa using h1
          rw [eqC_append hx hy, List.drop_drop, List.drop_drop]
          rw [Op.eqFields]
          simp only [if_pos hn', Sem.run_bind, h2, px, py, he, Result.andThen_ok]
          generalize eqC _ _ = a at *
          cases a
          · simp
          · simpa using ih
        · cases h
      · cases h
    · cases h

theorem eqKs_ok : ∀ (d : Nat) (t : TypeId) (ks : List LK), eqKs P d t = some ks → ∀ xs ys, fits ks xs = true → fits ks ys = true → ∀ w, (Op.equalIn d t (ofC (isAg P t) xs) (ofC (isAg P t) ys)).run P w = .ok (eqC xs ys) w
  | 0, t, ks, h => by cases h
  | d + 1, t, ks, h => by
    intro xs ys hx hy w
    unfold eqKs at h
    split at h
    · rename_i k hu
      simp only [Option.some.injEq] at h; subst h
      match xs, ys, hx, hy with
      | [x], [y], hx, hy =>
        simp only [fits, Bool.and_true] at hx hy
        cases x <;> simp [fitK] at hx
        cases y <;> simp [fitK] at hy
        have e1 := sameK_eq hx; have e2 := sameK_eq hy
        subst e1; subst e2
        have : isAg P t = false := by unfold isAg; rw [hu]; rfl
        rw [this]
        simp [ofC, Op.equalIn, run_underlying hu, eqC]
        rw [Bool.eq_iff_iff]; simp
      | x :: y :: l, _, hx, _ => simp [fits] at hx
      | [_], [], _, hy => simp [fits] at hy
      | [_], _ :: _ :: _, _, hy => simp [fits] at hy
      | [], _, hx, _ => simp [fits] at hx
    · rename_i hu
      simp only [Option.some.injEq] at h; subst h
      match xs, ys, hx, hy with
      | [x], [y], hx, hy =>
        simp only [fits, Bool.and_true] at hx hy
        cases x <;> simp [fitK] at hx
        cases y <;> simp [fitK] at hy
        have : isAg P t = false := by unfold isAg; rw [hu]; rfl
        rw [this]
        simp only [ofC, Op.equalIn, run_underlying hu, eqC, Bool.false_eq_true, if_false, List.headD_cons, Sem.run_bind, Result.andThen_ok, Sem.run_pure, beq_toListBytes, bytes_eq, Bool.and_true]
      | x :: y :: l, _, hx, _ => simp [fits] at hx
      | [_], [], _, hy => simp [fits] at hy
      | [_], _ :: _ :: _, _, hy => simp [fits] at hy
      | [], _, hx, _ => simp [fits] at hx
    · rename_i hu
      simp only [Option.some.injEq] at h; subst h
      match xs, ys, hx, hy with
      | [x], [y], hx, hy =>
        simp only [fits, Bool.and_true] at hx hy
        cases x <;> simp [fitK] at hx
        cases y <;> simp [fitK] at hy
        have : isAg P t = false := by unfold isAg; rw [hu]; rfl
        rw [this]
        simp [ofC, Op.equalIn, run_underlying hu, eqC]
        rw [Bool.eq_iff_iff]; simp
      | x :: y :: l, _, hx, _ => simp [fits] at hx
      | [_], [], _, hy => simp [fits] at hy
      | [_], _ :: _ :: _, _, hy => simp [fits] at hy
      | [], _, hx, _ => simp [fits] at hx
    · rename_i fs hu
      split at h
      · cases h
      · rename_i hst
        have hf : P.fieldsOf t = fs := by simp [Program.fieldsOf, hu]
        have : isAg P t = true := by unfold isAg; rw [hu]; rfl
        rw [this]
        simp only [ofC, if_true]
        rw [run_equalIn_struct (P := P) w d t ⟨xs⟩ ⟨ys⟩ (by rw [hf]; exact hu) (by simpa using hst), hf]
        have := eqFs_ok (P := P) (eqKs_ok d) fs.toList 0 ks h xs ys (by simpa using hx) (by simpa using hy) (Nat.zero_le _) (Nat.zero_le _) w
        simpa using this
    · cases h

theorem eqS_run {t : TypeId} {ks : List LK} {xs ys : List Value} (h : eqKs P 6 t = some ks) (ha : isAg P t = true) (hx : fits ks xs = true) (hy : fits ks ys = true) (w : World) :
    (Op.equal t (.agg ⟨xs⟩) (.agg ⟨ys⟩)).run P w = .ok (eqC xs ys) w := by
  have mono : ∀ d, ∀ t ks, eqKs P d t = some ks → eqKs P (d + 1) t = some ks := by
    have fs : ∀ (r r' : TypeId → Option (List LK)), (∀ t ks, r t = some ks → r' t = some ks) → ∀ l n ks, eqFs P r l n = some ks → eqFs P r' l n = some ks := by
      intro r r' hr l
      induction l with
      | nil => intro n ks h; exact h
      | cons f l ih =>
        intro n ks h
        unfold eqFs at h ⊢
        split at h
        · rename_i k1 i ds hk hi hd
          rw [hr _ _ hk, hi, hd]
          simp only at h ⊢
          split at h
          · rename_i hc
            rw [if_pos hc]
            split at h
            · rename_i r0 hr0
              rw [ih _ _ hr0]; exact h
            · cases h
          · cases h
        · cases h
    intro d
    induction d with
    | zero => intro t ks h; cases h
    | succ d ih =>
      intro t ks h
      unfold eqKs at h ⊢
      split at h
      · exact h
      · exact h
      · exact h
      · rename_i fl hu
        split at h
        · cases h
        · rename_i hst
          rw [if_neg hst]
          exact fs _ _ ih _ _ _ h
      · cases h
  have up : ∀ m, eqKs P (6 + m) t = some ks := by
    intro m
    induction m with
    | zero => exact h
    | succ m ih => exact mono _ _ _ ih
  have := eqKs_ok (P := P) 10000 t ks (up 9994) xs ys hx hy w
  rw [ha] at this
  exact this

/-- two structs, compared -/
theorem eqS {e : Env} {x y : Operand} {t u : TypeId} {ks : List LK} {xs ys : List Value} {k : Value → Prop} {d ty pos af g}
    (hk : Cmp (eqC xs ys) fun r => k (.bool r)) (h : eqKs P 6 t = some ks) (ha : isAg P t = true) (hgt : P.eqGuardType P.depth t = false)
    (hx : evo e x = .agg ⟨xs⟩ := by rfl) (hy : evo e y = .agg ⟨ys⟩ := by rfl) (hfx : fits ks xs = true := by rfl) (hfy : fits ks ys = true := by rfl) :
    OpP P (evo e) ⟨d, .binOp .eql t x y u, ty, pos, af, g⟩ k := by
  refine OpP.ok (.bool (eqC xs ys)) (fun w => ?_) hk.out
  have hg : ∀ op w, (eqGuard op t x y (.agg ⟨xs⟩) (.agg ⟨ys⟩)).run P w = .ok () w := by
    intro op w; unfold eqGuard; simp [hgt]
  have h1 := eqS_run h ha hfx hfy w
  simp [execOp, hx, hy, binOp, hg, h1]
theorem neS {e : Env} {x y : Operand} {t u : TypeId} {ks : List LK} {xs ys : List Value} {k : Value → Prop} {d ty pos af g}
    (hk : Cmp (!eqC xs ys) fun r => k (.bool r)) (h : eqKs P 6 t = some ks) (ha : isAg P t = true) (hgt : P.eqGuardType P.depth t = false)
    (hx : evo e x = .agg ⟨xs⟩ := by rfl) (hy : evo e y = .agg ⟨ys⟩ := by rfl) (hfx : fits ks xs = true := by rfl) (hfy : fits ks ys = true := by rfl) :
    OpP P (evo e) ⟨d, .binOp .neq t x y u, ty, pos, af, g⟩ k := by
  refine OpP.ok (.bool (!eqC xs ys)) (fun w => ?_) hk.out
  have hg : ∀ op w, (eqGuard op t x y (.agg ⟨xs⟩) (.agg ⟨ys⟩)).run P w = .ok () w := by
    intro op w; unfold eqGuard; simp [hgt]
  have h1 := eqS_run h ha hfx hfy w
  simp [execOp, hx, hy, binOp, hg, h1]

theorem equalIn_bool {t : TypeId} (hu : P.underlying t = some .bool) (a b : Bool) (d : Nat) (w : World) :
    (Op.equalIn (d + 1) t (.bool a) (.bool b)).run P w = .ok (decide (a = b)) w := by
  have : (a == b) = decide (a = b) := by cases a <;> cases b <;> rfl
  unfold Op.equalIn
  simp only [Sem.run_bind, run_und hu, Result.andThen_ok, Sem.run_pure, this]

/-- two bools, compared -/
theorem eqB (TOK : T.Ok P) {e : Env} {x y : Operand} {t u : TypeId} {a b : Bool} {k : Value → Prop} {i' : TypeInfo} {ag' : Bool} {fs' : List (Nat × Nat × Bool)} {d ty pos af g}
    (hk : Cmp (decide (a = b)) fun r => k (.bool r)) (hx : evo e x = .bool a := by rfl) (hy : evo e y = .bool b := by rfl) (ht : T.get t = some ⟨i', .bool, ag', fs'⟩ := by rfl) :
    OpP P (evo e) ⟨d, .binOp .eql t x y u, ty, pos, af, g⟩ k := by
  refine OpP.ok (.bool (decide (a = b))) (fun w => ?_) hk.out
  have hu := (TOK.get ht).und
  simp only at hu
  have hg : ∀ op w, (eqGuard op t x y (.bool a) (.bool b)).run P w = .ok () w := by
    intro op w; unfold eqGuard; split <;> rfl
  have h1 : (Op.equal t (.bool a) (.bool b)).run P w = .ok (decide (a = b)) w := by
    exact equalIn_bool hu a b 9999 w
  simp [execOp, hx, hy, binOp, hg, h1]
theorem neB (TOK : T.Ok P) {e : Env} {x y : Operand} {t u : TypeId} {a b : Bool} {k : Value → Prop} {i' : TypeInfo} {ag' : Bool} {fs' : List (Nat × Nat × Bool)} {d ty pos af g}
    (hk : Cmp (!decide (a = b)) fun r => k (.bool r)) (hx : evo e x = .bool a := by rfl) (hy : evo e y = .bool b := by rfl) (ht : T.get t = some ⟨i', .bool, ag', fs'⟩ := by rfl) :
    OpP P (evo e) ⟨d, .binOp .neq t x y u, ty, pos, af, g⟩ k := by
  refine OpP.ok (.bool (!decide (a = b))) (fun w => ?_) hk.out
  have hu := (TOK.get ht).und
  simp only at hu
  have hg : ∀ op w, (eqGuard op t x y (.bool a) (.bool b)).run P w = .ok () w := by
    intro op w; unfold eqGuard; split <;> rfl
  have h1 : (Op.equal t (.bool a) (.bool b)).run P w = .ok (decide (a = b)) w := by
    exact equalIn_bool hu a b 9999 w
  simp [execOp, hx, hy, binOp, hg, h1]

/-- a call of a function without a body -/
theorem clx {e : Env} {g : FuncId} {as : List Operand} {vs : List Value} {w w' : World} {v : Value} {k : Value → World → Prop} {ts d ty pos af gd}
    (hr : (callFunc g ⟨vs⟩).run P w = .ok (.value v) w') (hk : k v w') (ha : as.map (evo e) = vs := by rfl) :
    OpR P (evo e) ⟨d, .call ⟨.value (.func g), ⟨as⟩, ts⟩, ty, pos, af, gd⟩ w k := by
  refine OpR.ok (v := v) (w' := w') ?_ hk
  simp [execOp, resolve, evo, Deferred.ofValue, invoke, hr, ha]

/-- cap(s) -/
theorem cap_ (TOK : T.Ok P) {e : Env} {x : Operand} {t : TypeId} {a : Option Addr} {n c E : Nat} {w : World} {k : Value → World → Prop} {i' : TypeInfo} {ag' : Bool} {fs' : List (Nat × Nat × Bool)} {d ty pos af g}
    (hk : k (.int .i64 (c : Int)) w) (hx : evo e x = .slice a n c := by rfl) (ht : T.get t = some ⟨i', .slice E, ag', fs'⟩ := by rfl) :
    OpR P (evo e) ⟨d, .call ⟨.builtin .cap, ⟨[x]⟩, ⟨[t]⟩⟩, ty, pos, af, g⟩ w k := by
  refine OpR.ok (w' := w) ?_ hk
  have hu := (TOK.get ht).und
  simp [execOp, resolve, invoke, builtin, Builtin.cap_, hx, run_und hu, goInt]

/-- clear(s) of a slice of one's own block -/
theorem clr (TOK : T.Ok P) {e : Env} {x : Operand} {t : TypeId} {b off n c E sz : Nat} {cs : List Value} {w : World} {k : Value → World → Prop} {i i' : TypeInfo} {ds : TypeDesc} {ag ag' : Bool} {fs fs' : List (Nat × Nat × Bool)} {z : Value} {d ty pos af g}
    (hb : Blk w b E cs) (hl : off + n * sz ≤ cs.length)
    (hk : ∀ w', Blk w' b E (splice cs off (Builtin.zeroCells z.cells n).toList) → Chg (· = b) w w' → w'.heap.size = w.heap.size → k (.tuple #[]) w')
    (hx : evo e x = .slice (some ⟨b, off, none⟩) n c := by rfl) (ht : T.get t = some ⟨i', .slice E, ag', fs'⟩ := by rfl) (hE : T.get E = some ⟨i, ds, ag, fs⟩ := by rfl) (hz : i.zero = some z := by rfl) (hzs : z.cells.size = sz := by rfl) (hz1 : z.cells.toList.all (·.oneCell') = true := by rfl) :
    OpR P (evo e) ⟨d, .call ⟨.builtin .clear, ⟨[x]⟩, ⟨[t]⟩⟩, ty, pos, af, g⟩ w k := by
  have hu := (TOK.get ht).und
  have hzr := run_zero (P := P) (TOK.get hE).info hz
  have hlen : (Builtin.zeroCells z.cells n).toList.length = n * sz := by simp [zeroCells_len, hzs]
  cases n with
  | zero =>
    refine OpR.ok (w' := w) (v := .tuple #[]) ?_ (hk w ?_ (Chg.refl w) rfl)
    · simp [execOp, resolve, invoke, builtin, Builtin.clear_, hx, run_und hu]
    · have : (Builtin.zeroCells z.cells 0).toList = [] := List.eq_nil_of_length_eq_zero (by rw [hlen]; simp)
      rw [this]; simpa [splice] using hb
  | succ n =>
    obtain ⟨w', hr, hb', hc, hsz⟩ := run_storeCells_of (P := P) (Builtin.zeroCells z.cells (n + 1)).toList 0 off cs w hb (by omega) (zeroCells_one (List.all_eq_true.1 hz1) _)
    rw [Nat.add_zero] at hb'
    refine OpR.ok (w' := w') (v := .tuple #[]) ?_ (hk w' hb' hc hsz)
    simp [execOp, resolve, invoke, builtin, Builtin.clear_, hx, run_und hu, hzr, hr]

/-- s[l:h:m]: nothing of it is looked at -/
theorem sl3 (TOK : T.Ok P) {e : Env} {x y z u : Operand} {t : TypeId} {a : Option Addr} {E n c l h m : Nat} {k : Value → Prop} {i i' : TypeInfo} {ds : TypeDesc} {ag ag' : Bool} {fs fs' : List (Nat × Nat × Bool)} {d ty pos af g}
    (hb : l ≤ h ∧ h ≤ m ∧ m ≤ c)
    (hk : ∀ v, k v)
    (hx : evo e x = .slice a n c := by rfl) (hy : evo e y = .int .i64 (l : Int) := by rfl) (hz : evo e z = .int .i64 (h : Int) := by rfl) (hu : evo e u = .int .i64 (m : Int) := by rfl)
    (ht : T.get t = some ⟨i', .slice E, ag', fs'⟩ := by rfl) (hE : T.get E = some ⟨i, ds, ag, fs⟩ := by rfl) :
    OpP P (evo e) ⟨d, .slice t x (some y) (some z) (some u), ty, pos, af, g⟩ k := by
  have h2 := (TOK.get ht).und
  have h4 := run_size (P := P) (TOK.get hE).info
  have key : ∀ w, (Instr.sliceBounds true n c (some (evo e y)) (some (evo e z)) (some (evo e u))).run P w = .ok (l, h, m) w := by
    intro w
    simp [Instr.sliceBounds, sbound hu hb.2.2, sbound hz hb.2.1, sbound hy hb.1]
  refine OpP.ok (.slice (if m = l then a else a.map (·.add (l * i.size))) (h - l) (m - l)) (fun w => ?_) (hk _)
  simp only [execOp, Instr.sliceAt, Instr.slice, Sem.run_bind, run_und h2, Result.andThen_ok, hx, Option.map_some, key, h4, Sem.run_pure]

/-- s[l:h] of a slice whose place is known, told to the sign; h up to the capacity -/
theorem slX (TOK : T.Ok P) {e : Env} {x : Operand} {lo hi : Option Operand} {t : TypeId} {b off n c E sz : Nat} {k : Value → Prop} {i i' : TypeInfo} {ds : TypeDesc} {ag ag' : Bool} {fs fs' : List (Nat × Nat × Bool)} {d ty pos af g} (l h : Nat)
    (hb : l ≤ h ∧ h ≤ c ∧ l < c)
    (hk : k (.slice (some ⟨b, off + l * sz, none⟩) (h - l) (c - l)))
    (hx : evo e x = .slice (some ⟨b, off, none⟩) n c := by rfl)
    (hlo : (match lo with | some y => evo e y = .int .i64 (l : Int) | none => l = 0) := by rfl)
    (hhi : (match hi with | some y => evo e y = .int .i64 (h : Int) | none => h = n) := by rfl)
    (ht : T.get t = some ⟨i', .slice E, ag', fs'⟩ := by rfl) (hE : T.get E = some ⟨i, ds, ag, fs⟩ := by rfl) (hsz : i.size = sz := by rfl) :
    OpP P (evo e) ⟨d, .slice t x lo hi none, ty, pos, af, g⟩ k := by
  have h2 := (TOK.get ht).und
  have h4 := run_size (P := P) (TOK.get hE).info
  simp only [hsz] at h4
  have key : ∀ w, (Instr.sliceBounds true n c (lo.map (evo e)) (hi.map (evo e)) none).run P w = .ok (l, h, c) w := by
    intro w
    cases lo with
    | none =>
      simp only at hlo
      subst hlo
      cases hi with
      | none => simp only at hhi; subst hhi; simp [Instr.sliceBounds]
      | some y => simp only at hhi; simp [Instr.sliceBounds, sbound hhi hb.2.1]
    | some yl =>
      simp only at hlo
      cases hi with
      | none => simp only at hhi; subst hhi; simp [Instr.sliceBounds, sbound hlo hb.1]
      | some y => simp only at hhi; simp [Instr.sliceBounds, sbound hhi hb.2.1, sbound hlo hb.1]
  refine OpP.ok (.slice (some ⟨b, off + l * sz, none⟩) (h - l) (c - l)) (fun w => ?_) hk
  have hne : ¬ c = l := by omega
  simp only [execOp, Instr.sliceAt, Instr.slice, Sem.run_bind, run_und h2, Result.andThen_ok, hx, Option.map_none, key, h4, Sem.run_pure, if_neg hne, Option.map_some, add_none]
/-- s[:h] told to the sign, nil too; h up to the capacity -/
theorem slP (TOK : T.Ok P) {e : Env} {x y : Operand} {t : TypeId} {a : Option Addr} {n c E : Nat} {k : Value → Prop} {i i' : TypeInfo} {ds : TypeDesc} {ag ag' : Bool} {fs fs' : List (Nat × Nat × Bool)} {d ty pos af g} (h : Nat)
    (hb : h ≤ c) (ha : ∀ p, a = some p → p.spot = none)
    (hk : k (.slice a h c))
    (hx : evo e x = .slice a n c := by rfl)
    (hhi : evo e y = .int .i64 (h : Int) := by rfl)
    (ht : T.get t = some ⟨i', .slice E, ag', fs'⟩ := by rfl) (hE : T.get E = some ⟨i, ds, ag, fs⟩ := by rfl) :
    OpP P (evo e) ⟨d, .slice t x none (some y) none, ty, pos, af, g⟩ k := by
  have h2 := (TOK.get ht).und
  have h4 := run_size (P := P) (TOK.get hE).info
  have key : ∀ w, (Instr.sliceBounds true n c none (some (evo e y)) none).run P w = .ok (0, h, c) w := by
    intro w; simp [Instr.sliceBounds, sbound hhi hb]
  refine OpP.ok (.slice a h c) (fun w => ?_) hk
  have e1 : (if c = 0 then a else a.map (·.add (0 * i.size))) = a := by
    split
    · rfl
    · cases a with
      | none => rfl
      | some p =>
        obtain ⟨b, o, s⟩ := p
        have := ha _ rfl
        simp only at this
        subst this
        simp [add_none]
  simp only [execOp, Instr.sliceAt, Instr.slice, Sem.run_bind, run_und h2, Result.andThen_ok, hx, Option.map_none, Option.map_some, key, h4, Sem.run_pure, e1, Nat.sub_zero]

/-- append(s, x...) where there is room -/
theorem apR (TOK : T.Ok P) {e : Env} {s x : Operand} {ts tx : TypeId} {b c : Nat} {vx : Value} {E n m sz : Nat} {full new : List Value} {w : World} {k : Value → World → Prop} {i i' ix : TypeInfo} {ex : Nat} {ag ag' agx : Bool} {fs fs' fsx : List (Nat × Nat × Bool)} {dsE : TypeDesc} {d ty pos af g}
    (hbk : Blk w b E full) (hfl : full.length = c * sz) (hfit : n + m ≤ c) (hsl : Sl w vx ex sz m new)
    (hk : ∀ w', Blk w' b E (splice full (n * sz) new) → Chg (· = b) w w' → w'.heap.size = w.heap.size → k (.slice (some ⟨b, 0, none⟩) (n + m) c) w')
    (hs : evo e s = .slice (some ⟨b, 0, none⟩) n c := by rfl) (hx : evo e x = vx := by rfl)
    (ht : T.get ts = some ⟨i', .slice E, ag', fs'⟩ := by rfl) (htx : T.get tx = some ⟨ix, .slice ex, agx, fsx⟩ := by rfl) (hE : T.get E = some ⟨i, dsE, ag, fs⟩ := by rfl) (hsz : i.size = sz := by rfl) :
    OpR P (evo e) ⟨d, .call ⟨.builtin .append, ⟨[s, x]⟩, ⟨[ts, tx]⟩⟩, ty, pos, af, g⟩ w k := by
  subst hsz
  have hts := (TOK.get ht).und
  have h3 := (TOK.get htx).und
  have hi' := info_of (TOK.get hE).info
  have hsrc := Src.ofSl hsl h3
  have hroom : n * i.size + new.length ≤ full.length := by
    rw [hfl, hsrc.newsLen, ← Nat.add_mul]; exact Nat.mul_le_mul_right _ hfit
  have hr := run_append_room_src (P := P) w ts tx ty E i hts hi' b 0 n c vx m new hsrc hfit
    (fun j hj => by rw [Nat.zero_add, hbk.cell]; rw [List.getElem?_eq_getElem (by omega)]; rfl)
    (fun j hj => hbk.frozen _ _)
  obtain ⟨w', hst, hblk', hch, hsz⟩ := run_storeCells_of (P := P) (b := b) new 0 (n * i.size) full w hbk (by omega) hsrc.one
  have hst2 := run_storeCells_cells (P := P) b (n * i.size) new 0 w
    (fun j hj => by rw [hbk.cell]; rw [List.getElem?_eq_getElem (by omega)]; rfl)
    (fun j hj => hbk.frozen _ _) hsrc.one
  rw [hst] at hst2
  simp only [Result.ok.injEq, Nat.add_zero, true_and] at hst2
  rw [Nat.zero_add] at hr
  rw [Nat.add_zero] at hblk'
  refine OpR.ok (w' := w') ?_ (hk w' hblk' hch hsz)
  rw [← hst2] at hr
  simp only [execOp, resolve, invoke, builtin, List.map_toArray, List.map_cons, List.map_nil, hs, hx, Sem.run_bind, Sem.run_pure, Result.andThen_ok]
  rw [hr]; rfl

/-- append(s, make([]E, m)...) where there is no room -/
theorem apZ (TOK : T.Ok P) {e : Env} {s x : Operand} {ts tx : TypeId} {a : Option Addr} {E n c m sz : Nat} {kq kn : IntKind} {cs : List Value} {w : World} {k : Value → World → Prop} {i i' ix : TypeInfo} {ag ag' agx : Bool} {fs fs' fsx : List (Nat × Nat × Bool)} {z : Value} {dsE : TypeDesc} {d ty pos af g}
    (ho : Sl w (.slice a n c) E sz n cs) (hg : c < n + m) (hm : 0 < m) (hb : n + m ≤ 274877906944)
    (hk : ∀ b c' w', Own w' (.slice (some ⟨b, 0, none⟩) (n + m) c') E sz (n + m) (cs ++ (Builtin.zeroCells z.cells m).toList) → w.heap.size = b → Ext w w' → k (.slice (some ⟨b, 0, none⟩) (n + m) c') w')
    (hs : evo e s = .slice a n c := by rfl) (hx : evo e x = .int kq (m : Int) := by rfl)
    (ht : T.get ts = some ⟨i', .slice E, ag', fs'⟩ := by rfl) (htx : T.get tx = some ⟨ix, .int kn, agx, fsx⟩ := by rfl) (hE : T.get E = some ⟨i, dsE, ag, fs⟩ := by rfl) (hz : i.zero = some z := by rfl) (hsz : i.size = sz := by rfl) (hzs : z.cells.size = i.size := by rfl) (hz1 : z.cells.toList.all (·.oneCell') = true := by rfl)
    (hs0 : Nat.ble 1 i.size = true := by rfl) (hby : Nat.ble i.bytes 512 = true := by rfl) :
    OpR P (evo e) ⟨d, .call ⟨.builtin .append, ⟨[s, x]⟩, ⟨[ts, tx]⟩⟩, ty, pos, af, g⟩ w k := by
  subst hsz
  have h2 := (TOK.get ht).und
  have h3 := (TOK.get htx).und
  have h4 := (TOK.get hE).info
  have hby' : i.bytes ≤ 512 := Nat.le_of_ble_eq_true hby
  have hold := run_firstCells_sl (P := P) (ho.ext (drew_ext' w))
  have hcap : Builtin.nextslicecap (n + m) c ≤ 2 * (n + m) := nextcap_le hg
  have hb2 : 2 * (n + m) * i.bytes ≤ 281474976710656 := by
    have : 2 * (n + m) * i.bytes ≤ 2 * (n + m) * 512 := Nat.mul_le_mul_left _ hby'
    omega
  have hcap' : Builtin.nextslicecap (n + m) c * i.bytes ≤ 281474976710656 := Nat.le_trans (Nat.mul_le_mul_right i.bytes hcap) hb2
  have hr := Lib.run_append_grow_zeros (P := P) w ts tx ty E i z kq kn h2 h3 (info_of h4) hz a n c cs hold m hm (Nat.le_of_ble_eq_true hs0) hg (by omega) (by
    have : m * i.bytes ≤ 2 * (n + m) * i.bytes := Nat.mul_le_mul_right _ (by omega)
    omega) hcap'
  have hgc : n + m ≤ grownCap w (n + m) c E := by simp only [grownCap, Question.cut]; omega
  refine OpR.ok (w' := w.drew.alloc (.cells (cs.toArray ++ Builtin.zeroCells z.cells m ++ Builtin.zeroCells z.cells (grownCap w (n + m) c E - (n + m))) E (0, 0))) ?_ (hk w.heap.size (grownCap w (n + m) c E) _ ⟨by simp [ho.1, zeroCells_len, hzs, Nat.add_mul], .inr ⟨_, _, (Builtin.zeroCells z.cells (grownCap w (n + m) c E - (n + m))).toList, rfl, hgc, ?_, ?_⟩⟩ rfl ((drew_ext' w).trans (push_ext _ _)))
  · simp only [execOp, resolve, invoke, builtin, List.map_toArray, List.map_cons, List.map_nil, hs, hx, Sem.run_bind, Sem.run_pure, Result.andThen_ok]
    rw [hr]; rfl
  · have e : cs.toArray ++ Builtin.zeroCells z.cells m ++ Builtin.zeroCells z.cells (grownCap w (n + m) c E - (n + m)) = ⟨cs ++ (Builtin.zeroCells z.cells m).toList ++ (Builtin.zeroCells z.cells (grownCap w (n + m) c E - (n + m))).toList⟩ := by
      apply Array.ext'; simp
    rw [e]; refine push_blk w.drew E _ fun u hu => ?_
    simp only [List.mem_append] at hu
    rcases hu with (hu | hu) | hu
    · exact ho.one u hu
    · exact zeroCells_one (List.all_eq_true.1 hz1) _ u hu
    · exact zeroCells_one (List.all_eq_true.1 hz1) _ u hu
  · simp only [List.length_append, Array.length_toList, zeroCells_len, hzs, ho.1]
    rw [← Nat.add_mul, ← Nat.add_mul]; congr 1; omega

end

/-- a slice of one's own, one element more or less at a place: its cells are cs -/
structure Ins (w : World) (vs : Value) (E sz n : Nat) (cs : List Value) (v' : Value) (w' : World) : Prop where
  own : Own w' v' E sz n cs
  chg : Chg (blkOf vs) w w'
  at_ : ∀ b, blkOf v' b → blkOf vs b ∨ w.heap.size ≤ b
theorem Own.spot {w : World} {a : Option Addr} {n c E sz n' : Nat} {cs : List Value} (h : Own w (.slice a n c) E sz n' cs) : ∀ p, a = some p → p.spot = none := by
  intro p hp
  subst hp
  rcases h.2 with ⟨hv, _⟩ | ⟨b', c', rest, hv, _⟩
  · cases hv
  · cases hv; rfl
theorem splice_del {cs rest z : List Value} {i n sz : Nat} (hc : cs.length = n * sz) (hi : i < n) (hz : z.length = sz) :
    splice (splice (cs ++ rest) (i * sz) (cs.drop ((i + 1) * sz))) ((n - 1) * sz) z = cs.take (i * sz) ++ cs.drop ((i + 1) * sz) ++ (z ++ rest) := by
  have h1 : i * sz + sz ≤ n * sz := by have := Nat.mul_le_mul_right sz (by omega : i + 1 ≤ n); rw [Nat.add_mul, Nat.one_mul] at this; exact this
  have h2 : (n - 1) * sz + sz = n * sz := by rw [Nat.sub_mul, Nat.one_mul]; omega
  have hs : (i + 1) * sz = i * sz + sz := by rw [Nat.add_mul, Nat.one_mul]
  have hl : (cs.take (i * sz) ++ cs.drop ((i + 1) * sz)).length = (n - 1) * sz := by simp; omega
  have e1 : splice (cs ++ rest) (i * sz) (cs.drop ((i + 1) * sz)) = (cs.take (i * sz) ++ cs.drop ((i + 1) * sz)) ++ (cs ++ rest).drop ((n - 1) * sz) := by
    unfold splice
    have : i * sz + (cs.drop ((i + 1) * sz)).length = (n - 1) * sz := by simp; omega
    rw [this, List.take_append_of_le_length (by omega)]
  rw [e1]
  unfold splice
  rw [List.take_left' hl, ← hl, List.drop_length_add_append, hz, List.append_assoc]
  congr 1
  rw [List.drop_drop, hl, h2, ← hc, List.drop_left]
theorem splice_new {A Z rest new D : List Value} {p sz m : Nat} (hA : A.length = p) (hnew : new.length = sz) (hZ : Z.length = sz + m) (hD : D.length = m) :
    splice (splice (A ++ Z ++ rest) p new) (p + sz) D = A ++ new ++ D ++ rest := by
  have e3 : splice (A ++ Z ++ rest) p new = A ++ new ++ (Z.drop sz ++ rest) := by
    unfold splice
    subst hA
    rw [hnew, List.append_assoc A Z rest, List.take_left, List.drop_length_add_append, List.drop_append_of_le_length (by omega)]
  rw [e3]
  unfold splice
  have h2 : (A ++ new).length = p + sz := by rw [List.length_append, hA, hnew]
  rw [List.take_left' h2, ← h2, List.drop_length_add_append, hD, List.drop_left' (by rw [List.length_drop, hZ]; omega)]
theorem splice_ins {cs new rest : List Value} {i n sz : Nat} (hc : cs.length = n * sz) (hn : new.length = sz) (hi : i ≤ n) (hr : sz ≤ rest.length) :
    splice (splice (cs ++ rest) ((i + 1) * sz) (cs.drop (i * sz))) (i * sz) new = cs.take (i * sz) ++ new ++ cs.drop (i * sz) ++ rest.drop sz := by
  have h1 : i * sz ≤ cs.length := by rw [hc]; exact Nat.mul_le_mul_right _ hi
  have hs : (i + 1) * sz = i * sz + sz := by rw [Nat.add_mul, Nat.one_mul]
  have hnsz : n * sz + sz = (n + 1) * sz := by rw [Nat.add_mul, Nat.one_mul]
  unfold splice
  have hl : ((cs ++ rest).take ((i + 1) * sz)).length = (i + 1) * sz := by simp; omega
  have e1 : List.take (i * sz) (((cs ++ rest).take ((i + 1) * sz)) ++ cs.drop (i * sz) ++ (cs ++ rest).drop ((i + 1) * sz + (cs.drop (i * sz)).length)) = cs.take (i * sz) := by
    rw [List.append_assoc, List.take_append_of_le_length (by omega), List.take_take, Nat.min_eq_left (by omega), List.take_append_of_le_length h1]
  have e2 : List.drop (i * sz + new.length) (((cs ++ rest).take ((i + 1) * sz)) ++ cs.drop (i * sz) ++ (cs ++ rest).drop ((i + 1) * sz + (cs.drop (i * sz)).length)) = cs.drop (i * sz) ++ rest.drop sz := by
    rw [hn, ← hs, List.append_assoc, List.drop_append_of_le_length (by omega), List.drop_of_length_le (by omega), List.nil_append]
    congr 1
    have : (i + 1) * sz + (cs.drop (i * sz)).length = cs.length + sz := by simp; omega
    rw [this, List.drop_length_add_append]
  rw [e1, e2]
  simp [List.append_assoc]
end Go.Pst

namespace Go.Pst
open Go

/-- a slice whose elements can be read -/
def SlA (w : World) (v : Value) (sz n : Nat) (cs : List Value) : Prop :=
  cs.length = n * sz ∧ (∀ u ∈ cs, u.oneCell' = true) ∧ ∃ a c, v = .slice a n c ∧ n ≤ c ∧ (a = none → n = 0) ∧
    ∀ p, a = some p → 0 < n → p.spot = none ∧ Cells w p.block p.off cs
theorem SlA.ext {w w' : World} {v : Value} {sz n : Nat} {cs : List Value} (h : SlA w v sz n cs) (hx : Ext w w') : SlA w' v sz n cs := by
  obtain ⟨h1, h2, a, c, h3, h4, h0, h5⟩ := h
  refine ⟨h1, h2, a, c, h3, h4, h0, fun p hp hn => ⟨(h5 p hp hn).1, fun j u hj => ?_⟩⟩
  have := (h5 p hp hn).2 j u hj
  have hb : p.block < w.heap.size := by
    rcases Nat.lt_or_ge p.block w.heap.size with h | h
    · exact h
    · unfold World.cell? at this; rw [Array.getElem?_eq_none h] at this; cases this
  unfold World.cell? at this ⊢
  rw [hx.keep p.block hb fun h => h]; exact this

/-- what x[l:h] is -/
def cutV (a : Option Addr) (l h c sz : Nat) : Value := .slice (if c = l then a else a.map (·.add (l * sz))) (h - l) (c - l)

section
variable {P : Program} {T : Tab}

/-- x[l:h], told to the sign -/
theorem slA (TOK : T.Ok P) {e : Env} {x : Operand} {lo hi : Option Operand} {t : TypeId} {a : Option Addr} {n c E sz : Nat} {k : Value → Prop} {i i' : TypeInfo} {ds : TypeDesc} {ag ag' : Bool} {fs fs' : List (Nat × Nat × Bool)} {d ty pos af g} (l h : Nat)
    (hb : l ≤ h ∧ h ≤ n ∧ n ≤ c)
    (hk : k (cutV a l h c sz))
    (hx : evo e x = .slice a n c := by rfl)
    (hlo : (match lo with | some y => evo e y = .int .i64 (l : Int) | none => l = 0) := by rfl)
    (hhi : (match hi with | some y => evo e y = .int .i64 (h : Int) | none => h = n) := by rfl)
    (ht : T.get t = some ⟨i', .slice E, ag', fs'⟩ := by rfl) (hE : T.get E = some ⟨i, ds, ag, fs⟩ := by rfl) (hsz : i.size = sz := by rfl) :
    OpP P (evo e) ⟨d, .slice t x lo hi none, ty, pos, af, g⟩ k := by
  have h2 := (TOK.get ht).und
  have h4 := run_size (P := P) (TOK.get hE).info
  simp only [hsz] at h4
  have hc : h ≤ c := by omega
  have key : ∀ w, (Instr.sliceBounds true n c (lo.map (evo e)) (hi.map (evo e)) none).run P w = .ok (l, h, c) w := by
    intro w
    cases lo with
    | none =>
      simp only at hlo
      subst hlo
      cases hi with
      | none => simp only at hhi; subst hhi; simp [Instr.sliceBounds]
      | some y => simp only at hhi; simp [Instr.sliceBounds, sbound hhi hc]
    | some yl =>
      simp only at hlo
      cases hi with
      | none => simp only at hhi; subst hhi; simp [Instr.sliceBounds, sbound hlo hb.1]
      | some y => simp only at hhi; simp [Instr.sliceBounds, sbound hhi hc, sbound hlo hb.1]
  refine OpP.ok (cutV a l h c sz) (fun w => ?_) hk
  simp only [execOp, Instr.sliceAt, Instr.slice, Sem.run_bind, run_und h2, Result.andThen_ok, hx, Option.map_none, key, h4, Sem.run_pure, cutV]

theorem SlA.cut {w : World} {a : Option Addr} {n c sz : Nat} {cs : List Value} (h : SlA w (.slice a n c) sz n cs) {l hh : Nat} (hb : l ≤ hh ∧ hh ≤ n) :
    SlA w (cutV a l hh c sz) sz (hh - l) ((cs.drop (l * sz)).take ((hh - l) * sz)) := by
  obtain ⟨h1, h2, a', c', h3, h4, h0, h5⟩ := h
  cases h3
  have e1 : (hh - l) * sz = hh * sz - l * sz := Nat.sub_mul ..
  have e2 : hh * sz ≤ n * sz := Nat.mul_le_mul_right _ hb.2
  have e3 : l * sz ≤ hh * sz := Nat.mul_le_mul_right _ hb.1
  refine ⟨?_, fun u hu => h2 u (List.mem_of_mem_drop (List.mem_of_mem_take hu)), _, _, rfl, by omega, fun ha => ?_, fun p hp hn => ?_⟩
  · simp only [List.length_take, List.length_drop, h1]; omega
  · have : a = none := by
      split at ha
      · exact ha
      · simpa using ha
    have := h0 this; omega
  · have hcl : ¬ c = l := by omega
    rw [if_neg hcl] at hp
    cases a with
    | none => cases hp
    | some q =>
      simp only [Option.map_some, Option.some.injEq] at hp
      obtain ⟨q1, q2⟩ := h5 q rfl (by omega)
      obtain ⟨b, o, s⟩ := q
      simp only at q1 q2
      subst q1
      rw [add_none] at hp
      subst hp
      refine ⟨rfl, fun j u hj => ?_⟩
      have hj' : cs[l * sz + j]? = some u := by
        rw [List.getElem?_take] at hj
        split at hj
        · rw [List.getElem?_drop] at hj; exact hj
        · cases hj
      have := q2 _ _ hj'
      simp only at this ⊢
      rw [show o + l * sz + j = o + (l * sz + j) from by omega]; exact this

theorem run_firstCells_slA {w : World} {v : Value} {sz n : Nat} {cs : List Value} (h : SlA w v sz n cs) : (Builtin.firstCells sz n v).run P w = .ok ⟨cs⟩ w := by
  obtain ⟨h1, _, a, c, hv, _, h0, h5⟩ := h
  cases a with
  | none =>
    have := h0 rfl
    have : cs = [] := List.eq_nil_of_length_eq_zero (by rw [h1, this]; simp)
    simp [Builtin.firstCells, hv, this]
  | some p =>
    obtain ⟨b, o, s⟩ := p
    rcases Nat.eq_zero_or_pos n with hn | hn
    · have hc : cs = [] := List.eq_nil_of_length_eq_zero (by rw [h1, hn]; simp)
      subst hn hc
      simp [Builtin.firstCells, hv, loadCells, loadCellsFrom]
    · obtain ⟨q1, q2⟩ := h5 _ rfl hn
      simp only at q1 q2
      subst q1
      have h6 := run_loadCells_of (P := P) q2
      rw [h1] at h6
      simp [Builtin.firstCells, hv, h6]
theorem SlA.drew {w : World} {v : Value} {sz n : Nat} {cs : List Value} (h : SlA w v sz n cs) : SlA w.drew v sz n cs := h
theorem Src.ofSlA {w : World} {v : Value} {sz n : Nat} {cs : List Value} {tx e' : TypeId} (h : SlA w v sz n cs) (hk : P.underlying tx = some (.slice e')) : Src P sz tx v n cs w := by
  obtain ⟨a, c, hv⟩ : ∃ a c, v = .slice a n c := by obtain ⟨_, _, a, c, hv, _⟩ := h; exact ⟨a, c, hv⟩
  exact ⟨.inl ⟨e', hk⟩, fun _ => by rw [hv]; rfl, run_firstCells_slA h, run_firstCells_slA h.drew, h.1, h.2.1⟩

/-- append(s, x...) of a slice that came in -/
theorem apA (TOK : T.Ok P) {e : Env} {s x : Operand} {ts tx : TypeId} {vs vx : Value} {E n m sz : Nat} {cs new : List Value} {w : World} {k : Value → World → Prop} {i i' ix : TypeInfo} {ex : Nat} {ag ag' agx : Bool} {fs fs' fsx : List (Nat × Nat × Bool)} {z : Value} {dsE : TypeDesc} {d ty pos af g}
    (ho : Own w vs E sz n cs) (hsl : SlA w vx sz m new) (hb : n + m ≤ 274877906944)
    (hk : ∀ a c w', Apd w vs E sz n m (cs ++ new) (.slice a (n + m) c) w' → k (.slice a (n + m) c) w')
    (hs : evo e s = vs := by rfl) (hx : evo e x = vx := by rfl)
    (ht : T.get ts = some ⟨i', .slice E, ag', fs'⟩ := by rfl) (htx : T.get tx = some ⟨ix, .slice ex, agx, fsx⟩ := by rfl) (hE : T.get E = some ⟨i, dsE, ag, fs⟩ := by rfl) (hz : i.zero = some z := by rfl) (hsz : i.size = sz := by rfl) (hzs : z.cells.size = i.size := by rfl) (hz1 : z.cells.toList.all (·.oneCell') = true := by rfl)
    (hby : Nat.ble i.bytes 512 = true := by rfl) :
    OpR P (evo e) ⟨d, .call ⟨.builtin .append, ⟨[s, x]⟩, ⟨[ts, tx]⟩⟩, ty, pos, af, g⟩ w k := by
  subst hsz
  have h2 := (TOK.get ht).und
  have h3 := (TOK.get htx).und
  have h4 := (TOK.get hE).info
  have hby' : i.bytes ≤ 512 := Nat.le_of_ble_eq_true hby
  obtain ⟨a, c, w', hr, hapd⟩ := run_append (P := P) ty h2 h4 hz hzs (List.all_eq_true.1 hz1) ho (Src.ofSlA hsl h3) (by
    have : 2 * (n + m) * i.bytes ≤ 2 * (n + m) * 512 := Nat.mul_le_mul_left _ hby'
    simp only at this ⊢; omega) (by omega)
  refine OpR.ok ?_ (hk a c w' hapd)
  simp [execOp, resolve, invoke, builtin, hs, hx, hr]
end
end Go.Pst

namespace Go.Pst
open Go

section
variable {α : Type} {sz : Nat} {enc : α → List Value}
theorem flt_len (he : ∀ x, (enc x).length = sz) (l : List α) : (l.flatMap enc).length = l.length * sz := by
  induction l with
  | nil => simp
  | cons x l ih => simp [ih, he, Nat.add_mul, Nat.add_comm]
theorem flt_at (he : ∀ x, (enc x).length = sz) {l : List α} {i : Nat} {x : α} (hi : l[i]? = some x) : ((l.flatMap enc).drop (i * sz)).take sz = enc x := ((Rep.flat he).get hi).1
theorem flt_take (he : ∀ x, (enc x).length = sz) (l : List α) (i : Nat) : (l.flatMap enc).take (i * sz) = (l.take i).flatMap enc := ((Rep.flat (l := l) he).take i).toFlat
theorem flt_drop (he : ∀ x, (enc x).length = sz) (l : List α) (i : Nat) : (l.flatMap enc).drop (i * sz) = (l.drop i).flatMap enc := ((Rep.flat (l := l) he).drop i).toFlat
theorem flt_set (he : ∀ x, (enc x).length = sz) (l : List α) (i : Nat) (x : α) (hi : i < l.length) : splice (l.flatMap enc) (i * sz) (enc x) = (l.set i x).flatMap enc :=
  ((Rep.flat (l := l) he).set i hi (he x) rfl).toFlat
end

/-- v is a slice of the things l -/
def Ls {α : Type} (w : World) (v : Value) (E sz : Nat) (enc : α → List Value) (l : List α) : Prop := Sl w v E sz l.length (l.flatMap enc)
/-- the same, one's own -/
def Os {α : Type} (w : World) (v : Value) (E sz : Nat) (enc : α → List Value) (l : List α) : Prop := Own w v E sz l.length (l.flatMap enc)
section
variable {α : Type} {w w' : World} {v : Value} {E sz : Nat} {enc : α → List Value} {l : List α}
theorem Ls.ext (h : Ls w v E sz enc l) (hx : Ext w w') : Ls w' v E sz enc l := Sl.ext h hx
theorem Ls.kp (h : Ls w v E sz enc l) (hk : Kp E w w') : Ls w' v E sz enc l := Sl.kp h hk
theorem Os.ext (h : Os w v E sz enc l) (hx : Ext w w') : Os w' v E sz enc l := Own.ext h hx
theorem Os.kp (h : Os w v E sz enc l) (hk : Kp E w w') : Os w' v E sz enc l := Own.kp h hk
theorem Os.ls (h : Os w v E sz enc l) : Ls w v E sz enc l := Own.sl h
theorem Ls.isSlice (h : Ls w v E sz enc l) : ∃ a c, v = .slice a l.length c := Sl.isSlice h
theorem Ls.nil (w : World) (E sz c : Nat) (enc : α → List Value) : Ls w (.slice none 0 c) E sz enc [] := Sl.nil w E sz c
theorem Os.nil (w : World) (E sz : Nat) (enc : α → List Value) : Os w (.slice none 0 0) E sz enc [] := Own.nil w E sz
theorem Ls.cells {b off n c : Nat} (h : Ls w (.slice (some ⟨b, off, none⟩) n c) E sz enc l) (he : ∀ x, (enc x).length = sz) {i : Nat} {x : α} (hi : l[i]? = some x) : Cells w b (off + i * sz) (enc x) := by
  have hlt : i < l.length := by
    rcases Nat.lt_or_ge i l.length with h | h
    · exact h
    · rw [List.getElem?_eq_none h] at hi; cases hi
  obtain ⟨a, c', hv⟩ := h.isSlice
  cases hv
  have := Sl.elem h i hlt
  rwa [flt_at he hi] at this
theorem Ls.some (h : Ls w v E sz enc l) (hl : l ≠ []) : ∃ b off c, v = .slice (Option.some ⟨b, off, none⟩) l.length c := Sl.some h (by
  cases l with
  | nil => exact absurd rfl hl
  | cons => simp)
end
theorem MapS.ext {w w' : World} {r : Nat} {l : List Int} (h : MapS w r l) (hx : Ext w w') : MapS w' r l := h.chg hx fun h => h
theorem MapS.new {w : World} {r : Nat} (h : w.heap[r]? = some (.map #[] 0)) : MapS w r [] := ⟨#[], 0, h, rfl, fun x hx => by simp at hx⟩
theorem drop_cons {α : Type} {l : List α} {i : Nat} {x : α} (h : l[i]? = some x) : l.drop i = x :: l.drop (i + 1) := by
  have hlt : i < l.length := by
    rcases Nat.lt_or_ge i l.length with h' | h'
    · exact h'
    · rw [List.getElem?_eq_none h'] at h; cases h
  rw [List.drop_eq_getElem_cons hlt]
  rw [List.getElem?_eq_getElem hlt] at h
  cases h; rfl
theorem take_snoc {α : Type} {l : List α} {i : Nat} {x : α} (h : l[i]? = some x) : l.take (i + 1) = l.take i ++ [x] := by
  rw [List.take_add_one, h]; rfl
theorem getElem?_lt {α : Type} {l : List α} {i : Nat} (h : i < l.length) : ∃ x, l[i]? = some x := ⟨l[i], List.getElem?_eq_getElem h⟩
theorem lt_of_getElem? {α : Type} {l : List α} {i : Nat} {x : α} (h : l[i]? = some x) : i < l.length := by
  rcases Nat.lt_or_ge i l.length with h' | h'
  · exact h'
  · rw [List.getElem?_eq_none h'] at h; cases h
theorem ne_nil_of_lt {α : Type} {l : List α} {i : Nat} (h : i < l.length) : l ≠ [] := by rintro rfl; simp at h
end Go.Pst

namespace Go.Pst
open Go

structure Row where
  key : ByteArray
  val : ByteArray
  deriving DecidableEq
structure Msg where
  id : Int
  pri : Int
  retry : Int
  claimed : Bool
  corr : ByteArray
  body : ByteArray
  deriving DecidableEq
structure Obj where
  name : ByteArray
  kind : Int
  limit : Int
  rows : List Row
  msgs : List Msg
  dead : List Msg
  deriving DecidableEq
structure Stt where
  next : Int
  objs : List Obj
  deriving DecidableEq
structure Eff where
  kind : Int
  obj : ByteArray
  key : ByteArray
  val : ByteArray
  n : Int
  limit : Int
  tried : Bool
  msg : Msg
  deriving DecidableEq

/-- cells -/
def cRow (r : Row) : List Value := [.string r.key, .string r.val]
def cMsg (m : Msg) : List Value := [.int .i64 m.id, .int .i64 m.pri, .int .i64 m.retry, .bool m.claimed, .string m.corr, .string m.body]
def cEff (e : Eff) : List Value := [.int .i64 e.kind, .string e.obj, .string e.key, .string e.val, .int .i64 e.n, .int .i64 e.limit, .bool e.tried,
  .int .i64 e.msg.id, .int .i64 e.msg.pri, .int .i64 e.msg.retry, .bool e.msg.claimed, .string e.msg.corr, .string e.msg.body]
@[simp] theorem cRow_len (r : Row) : (cRow r).length = 2 := rfl
@[simp] theorem cMsg_len (m : Msg) : (cMsg m).length = 6 := rfl
@[simp] theorem cEff_len (e : Eff) : (cEff e).length = 13 := rfl

/-- texts, compared -/
def kcmp (a b : ByteArray) : Int := if ltB a b then -1 else if ltB a b || decide (a = b) then 0 else 1
def icmp (a b : Int) : Int := if a < b then -1 else if b < a then 1 else 0
def mcmp (a b : Msg) : Int := if icmp a.pri b.pri ≠ 0 then icmp a.pri b.pri else icmp a.id b.id

def e0 : ByteArray := ⟨#[]⟩
def m0 : Msg := ⟨0, 0, 0, false, e0, e0⟩
def mRight (m : Msg) : Bool := decide (1 ≤ m.id ∧ m.id ≤ 1099511627776 ∧ -1000 ≤ m.pri ∧ m.pri ≤ 1000 ∧ 0 ≤ m.retry ∧ m.retry ≤ 1000 ∧ m.corr.size ≤ 40 ∧ m.body.size ≤ 100)
def encM (m : Msg) : List UInt8 := encI m.id ++ encI m.pri ++ encI m.retry ++ encF m.claimed ++ encT m.corr ++ encT m.body
def mTried (m : Msg) (limit : Int) : Msg × Bool := let r := min m.retry 999 + 1; ({ m with claimed := false, retry := r }, decide (limit ≤ r))
def rdMsg (r : Rd) : Msg × Rd :=
  let x1 := rdInt r
  let x2 := rdInt x1.2
  let x3 := rdInt x2.2
  let x4 := rdFlag x3.2
  let x5 := rdText x4.2
  let x6 := rdText x5.2
  (if x6.2.isNone then m0 else ⟨x1.1, x2.1, x3.1, x4.1, x5.1, x6.1⟩, x6.2)

def kRight (k : ByteArray) : Bool := decide (1 ≤ k.size ∧ k.size ≤ 40)
def rRight (r : Row) : Bool := kRight r.key && decide (r.val.size ≤ 100)
def rRises : List Row → Bool
  | r :: s :: l => decide (kcmp r.key s.key < 0) && rRises (s :: l)
  | _ => true
/-- the first place whose key is not ahead of one -/
def rFind : List Row → ByteArray → Nat × Bool
  | [], _ => (0, false)
  | r :: l, k => if 0 ≤ kcmp r.key k then (0, decide (kcmp r.key k = 0)) else let x := rFind l k; (x.1 + 1, x.2)
def rPut (l : List Row) (r : Row) : List Row := let x := rFind l r.key; if x.2 then l.set x.1 r else l.take x.1 ++ r :: l.drop x.1
def rCut (l : List Row) (k : ByteArray) : List Row × Bool := let x := rFind l k; if x.2 then (l.eraseIdx x.1, true) else (l, false)

def nRight (s : ByteArray) : Bool := decide (1 ≤ s.size ∧ s.size ≤ 16)
def idRight (n : Int) : Bool := decide (1 ≤ n ∧ n ≤ 1099511627776)
def oRight0 (name : ByteArray) (kind limit : Int) : Bool := nRight name && (if kind = 1 then decide (limit = 0) else if kind = 2 then decide (1 ≤ limit ∧ limit ≤ 1000) else false)
def eNamed (e : Eff) : Eff :=
  let o : Eff := ⟨e.kind, e.obj, e0, e0, 0, 0, false, m0⟩
  if e.kind = 1 then { o with n := e.n, limit := e.limit }
  else if e.kind = 2 then { o with key := e.key, val := e.val }
  else if e.kind = 3 then { o with key := e.key }
  else if e.kind = 4 then { o with msg := e.msg }
  else if e.kind = 5 ∨ e.kind = 6 then { o with n := e.n }
  else if e.kind = 7 then { o with n := e.n, tried := e.tried }
  else if e.kind = 8 then { o with obj := e0, n := e.n }
  else o
def eRight (e : Eff) : Bool :=
  decide (e = eNamed e) &&
  (if e.kind = 1 then oRight0 e.obj e.n e.limit
   else if e.kind = 2 then nRight e.obj && rRight ⟨e.key, e.val⟩
   else if e.kind = 3 then nRight e.obj && kRight e.key
   else if e.kind = 4 then nRight e.obj && mRight e.msg
   else if e.kind = 5 ∨ e.kind = 6 ∨ e.kind = 7 then nRight e.obj && idRight e.n
   else if e.kind = 8 then idRight e.n else false)
def encE (e : Eff) : List UInt8 := encI e.kind ++ encT e.obj ++ encT e.key ++ encT e.val ++ encI e.n ++ encI e.limit ++ encF e.tried ++ encM e.msg
def encEs (l : List Eff) : List UInt8 := encI l.length ++ l.flatMap encE
end Go.Pst

namespace Go.Pst
open Go

/-- the first place at which q holds; below 0: there is none -/
def lIdx {α : Type} (q : α → Bool) : List α → Int
  | [] => -1
  | x :: l => if q x then 0 else if lIdx q l < 0 then -1 else lIdx q l + 1
theorem lIdx_none {α : Type} {q : α → Bool} {l : List α} (h : ∀ (j : Nat) x, l[j]? = some x → q x = false) : lIdx q l = -1 := by
  induction l with
  | nil => rfl
  | cons x l ih =>
    have h0 := h 0 x rfl
    have h1 := ih fun j y hy => h (j + 1) y (by simpa using hy)
    unfold lIdx
    rw [h0, h1]; rfl
theorem lIdx_at {α : Type} {q : α → Bool} {l : List α} {i : Nat} {x : α} (hx : l[i]? = some x) (hq : q x = true) (h : ∀ (j : Nat) y, j < i → l[j]? = some y → q y = false) : lIdx q l = i := by
  induction l generalizing i with
  | nil => simp at hx
  | cons z l ih =>
    cases i with
    | zero => simp at hx; subst hx; unfold lIdx; rw [hq]; rfl
    | succ i =>
      have h0 := h 0 z (by omega) rfl
      have h1 := ih (by simpa using hx) fun j y hj hy => h (j + 1) y (by omega) (by simpa using hy)
      unfold lIdx
      rw [h0, h1, if_neg (by decide), if_neg (by omega)]; omega
theorem lIdx_cases {α : Type} (q : α → Bool) (l : List α) : (lIdx q l = -1 ∧ ∀ x ∈ l, q x = false) ∨ ∃ i x, lIdx q l = (i : Nat) ∧ l[i]? = some x ∧ q x = true ∧ ∀ (j : Nat) y, j < i → l[j]? = some y → q y = false := by
  induction l with
  | nil => exact .inl ⟨rfl, by simp⟩
  | cons z l ih =>
    cases hz : q z with
    | true => exact .inr ⟨0, z, by unfold lIdx; rw [hz]; rfl, rfl, hz, by omega⟩
    | false =>
      rcases ih with ⟨h1, h2⟩ | ⟨i, x, h1, h2, h3, h4⟩
      · exact .inl ⟨by unfold lIdx; rw [hz, h1]; rfl, by simpa [hz] using h2⟩
      · refine .inr ⟨i + 1, x, ?_, by simpa using h2, h3, fun j y hj hy => ?_⟩
        · unfold lIdx; rw [hz, h1, if_neg (by decide), if_neg (by omega)]; omega
        · cases j with
          | zero => simp at hy; rw [← hy]; exact hz
          | succ j => exact h4 j y (by omega) (by simpa using hy)

def lIns {α : Type} (l : List α) (i : Nat) (x : α) : List α := l.take i ++ x :: l.drop i

def qAdd (l : List Msg) (m : Msg) : List Msg :=
  let i := lIdx (fun x => decide (0 < mcmp x m)) l
  lIns l (if i < 0 then l.length else i.toNat) m
def qFind (l : List Msg) (id : Int) : Int := lIdx (fun x => decide (x.id = id)) l
def qCut (l : List Msg) (id : Int) : List Msg × Bool := if qFind l id < 0 then (l, false) else (l.eraseIdx (qFind l id).toNat, true)
def qAt (l : List Msg) (id : Int) : Msg := l.getD (qFind l id).toNat m0
def qClaim (l : List Msg) (id : Int) (on : Bool) : List Msg × Bool :=
  if qFind l id < 0 ∨ (qAt l id).claimed = on then (l, false) else (l.set (qFind l id).toNat { qAt l id with claimed := on }, true)
def qRisesG (seen : List Int) (prev : Option Msg) : List Msg → Bool
  | [] => true
  | m :: l => !decide (m.id ∈ seen) && (match prev with | none => true | some p => decide (mcmp p m < 0)) && qRisesG (seen ++ [m.id]) (some m) l
def qRises (l : List Msg) : Bool := qRisesG [] none l
def qLeast (l : List Msg) : Int := lIdx (fun x => !x.claimed) l
def qMatch (l : List Msg) (corr : ByteArray) : Int := lIdx (fun x => !x.claimed && decide (x.corr = corr)) l

def oFree (o : Obj) (id : Int) (tried : Bool) : Obj × Bool :=
  if qFind o.msgs id < 0 ∨ (qAt o.msgs id).claimed = false then (o, false)
  else if tried = false then ({ o with msgs := o.msgs.set (qFind o.msgs id).toNat { qAt o.msgs id with claimed := false } }, true)
  else if (mTried (qAt o.msgs id) o.limit).2 then ({ o with msgs := o.msgs.eraseIdx (qFind o.msgs id).toNat, dead := o.dead ++ [(mTried (qAt o.msgs id) o.limit).1] }, true)
  else ({ o with msgs := o.msgs.set (qFind o.msgs id).toNat (mTried (qAt o.msgs id) o.limit).1 }, true)
def oWhere (o : Obj) (id : Int) : Int := if 0 ≤ qFind o.msgs id then 1 else if 0 ≤ qFind o.dead id then 2 else 0

def sFind (l : List Obj) (name : ByteArray) : Int := lIdx (fun o => decide (o.name = name)) l
def oRight (o : Obj) : Bool :=
  oRight0 o.name o.kind o.limit &&
  (if o.kind = 1 then decide (o.msgs.length = 0) && decide (o.dead.length = 0) && rRises o.rows && o.rows.all rRight
   else decide (o.rows.length = 0) && qRises o.msgs && o.msgs.all mRight && o.dead.all fun m => !m.claimed && mRight m)
def onceG (next : Int) : List Int → List Msg → Bool
  | _, [] => true
  | seen, m :: l => !decide (m.id ∈ seen) && decide (m.id < next) && onceG next (seen ++ [m.id]) l
def sMsgs (l : List Obj) : List Msg := l.flatMap fun o => o.msgs ++ o.dead
def sOnce (s : Stt) : Bool := onceG s.next [] (sMsgs s.objs)
def oBehind : Option Obj → Obj → Bool
  | none, _ => true
  | some p, o => decide (kcmp p.name o.name < 0)
def oRises (prev : Option Obj) : List Obj → Bool
  | [] => true
  | o :: l => oRight o && oBehind prev o && oRises (some o) l
def sRight (s : Stt) : Bool := decide (1 ≤ s.next ∧ s.next ≤ 1099511627776 ∧ s.objs.length ≤ 20) && oRises none s.objs && sOnce s
def sHas (l : List Obj) (id : Int) : Bool := decide (0 ≤ lIdx (fun o => decide (oWhere o id ≠ 0)) l)

/-- an effect: its error, and the state behind it -/
def sMake (s : Stt) (e : Eff) : Int × Stt :=
  if 0 ≤ sFind s.objs e.obj then (4, s)
  else if 20 ≤ s.objs.length then (6, s)
  else
    let i := lIdx (fun o => decide (0 < kcmp o.name e.obj)) s.objs
    (0, { s with objs := lIns s.objs (if i < 0 then s.objs.length else i.toNat) ⟨e.obj, e.n, e.limit, [], [], []⟩ })
def told (ok : Bool) (e : Int) : Int := if ok then 0 else e
def oTable (o : Obj) (e : Eff) : Int × Obj :=
  if e.kind = 2 then (0, { o with rows := rPut o.rows ⟨e.key, e.val⟩ })
  else (told (rCut o.rows e.key).2 7, { o with rows := (rCut o.rows e.key).1 })
def oQueue (s : Stt) (o : Obj) (e : Eff) : Int × Obj :=
  if e.kind = 4 then
    if s.next ≤ e.msg.id ∨ e.msg.claimed = true then (1, o) else if sHas s.objs e.msg.id then (4, o) else (0, { o with msgs := qAdd o.msgs e.msg })
  else if e.kind = 5 then (told (qCut o.msgs e.n).2 7, { o with msgs := (qCut o.msgs e.n).1 })
  else if e.kind = 6 then
    if qFind o.msgs e.n < 0 then (7, o) else (told (qClaim o.msgs e.n true).2 2, { o with msgs := (qClaim o.msgs e.n true).1 })
  else if e.kind = 7 then (told (oFree o e.n e.tried).2 7, (oFree o e.n e.tried).1)
  else (7, o)
def o0 : Obj := ⟨e0, 0, 0, [], [], []⟩
def sDo (s : Stt) (e : Eff) : Int × Stt :=
  if eRight e = false then (1, s)
  else if e.kind = 1 then sMake s e
  else if e.kind = 8 then (if e.n < s.next then (1, s) else (0, { s with next := e.n }))
  else if sFind s.objs e.obj < 0 then (3, s)
  else
    let i := (sFind s.objs e.obj).toNat
    let o := s.objs.getD i o0
    let table := decide (e.kind = 2 ∨ e.kind = 3)
    if table ≠ decide (o.kind = 1) then (5, s)
    else
      let x := if table then oTable o e else oQueue s o e
      (x.1, { s with objs := s.objs.set i x.2 })
def sDos (s : Stt) : List Eff → Int × Stt
  | [] => (0, s)
  | e :: l => if (sDo s e).1 = 0 then sDos (sDo s e).2 l else ((sDo s e).1, s)
def s0 : Stt := ⟨0, []⟩
def sApply (s : Stt) (l : List Eff) : Int × Stt :=
  if sRight s = false then (1, s0) else if (sDos s l).1 = 0 then (0, (sDos s l).2) else ((sDos s l).1, s0)
def rSize (r : Row) : Int := 20 + r.key.size + r.val.size
def mSize (m : Msg) : Int := 60 + m.corr.size + m.body.size
def oSize (o : Obj) : Int := 50 + o.name.size + (o.rows.map rSize).sum + ((o.msgs ++ o.dead).map mSize).sum
def sSize (s : Stt) : Int := 16 + (s.objs.map oSize).sum
def sClaims (s : Stt) : List Eff := s.objs.flatMap fun o => (o.msgs.filter (·.claimed)).map fun m => ⟨7, o.name, e0, e0, m.id, 0, true, m0⟩
def encMs (l : List Msg) : List UInt8 := encI l.length ++ l.flatMap encM
def encR (r : Row) : List UInt8 := encT r.key ++ encT r.val
def encO (o : Obj) : List UInt8 := encT o.name ++ encI o.kind ++ encI o.limit ++ encI o.rows.length ++ o.rows.flatMap encR ++ encMs o.msgs ++ encMs o.dead
def encS (s : Stt) : List UInt8 := encI s.next ++ encI s.objs.length ++ s.objs.flatMap encO
/-- an image: nothing, if the state may not be -/
def image (s : Stt) : List UInt8 := if sRight s then encS s else []
end Go.Pst

namespace Go.Pst
open Go

/-- lists that are not too long, tries that are none too many -/
structure OB (K : Nat) (o : Obj) : Prop where
  rows : o.rows.length ≤ K
  msgs : o.msgs.length ≤ K
  dead : o.dead.length ≤ K
  retry : ∀ m ∈ o.msgs, 0 ≤ m.retry ∧ m.retry ≤ 1000
structure SB (K : Nat) (s : Stt) : Prop where
  objs : s.objs.length ≤ 20
  ob : ∀ o ∈ s.objs, OB K o
/-- lists that are not too long -/
structure OL (K : Nat) (o : Obj) : Prop where
  rows : o.rows.length ≤ K
  msgs : o.msgs.length ≤ K
  dead : o.dead.length ≤ K
structure LB (K : Nat) (s : Stt) : Prop where
  objs : s.objs.length ≤ 20
  ob : ∀ o ∈ s.objs, OL K o
theorem OB.ol {K : Nat} {o : Obj} (h : OB K o) : OL K o := ⟨h.rows, h.msgs, h.dead⟩
theorem SB.lb {K : Nat} {s : Stt} (h : SB K s) : LB K s := ⟨h.objs, fun o ho => (h.ob o ho).ol⟩
theorem OL.mono {K K' : Nat} {o : Obj} (h : OL K o) (hk : K ≤ K') : OL K' o := ⟨Nat.le_trans h.rows hk, Nat.le_trans h.msgs hk, Nat.le_trans h.dead hk⟩
theorem OB.mono {K K' : Nat} {o : Obj} (h : OB K o) (hk : K ≤ K') : OB K' o := ⟨Nat.le_trans h.rows hk, Nat.le_trans h.msgs hk, Nat.le_trans h.dead hk, h.retry⟩
theorem SB.mono {K K' : Nat} {s : Stt} (h : SB K s) (hk : K ≤ K') : SB K' s := ⟨h.objs, fun o ho => (h.ob o ho).mono hk⟩

theorem rFind_le (l : List Row) (k : ByteArray) : (rFind l k).1 ≤ l.length ∧ ((rFind l k).2 = true → (rFind l k).1 < l.length) := by
  induction l with
  | nil => simp [rFind]
  | cons z l ih => unfold rFind; split <;> simp_all
theorem rPut_len (l : List Row) (r : Row) : (rPut l r).length ≤ l.length + 1 := by
  have := rFind_le l r.key
  unfold rPut
  simp only
  split
  · simp
  · simp; omega
theorem rCut_len (l : List Row) (k : ByteArray) : (rCut l k).1.length ≤ l.length := by
  unfold rCut
  simp only
  split
  · exact List.length_eraseIdx_le _ _
  · exact Nat.le_refl _
theorem lIns_len {α : Type} {l : List α} {i : Nat} {x : α} (h : i ≤ l.length) : (lIns l i x).length = l.length + 1 := by unfold lIns; simp; omega
theorem lIdx_le {α : Type} (q : α → Bool) (l : List α) : -1 ≤ lIdx q l ∧ lIdx q l < max 1 l.length := by
  rcases lIdx_cases q l with ⟨h1, _⟩ | ⟨i, x, h1, h2, _⟩
  · omega
  · have : i < l.length := by
      rcases Nat.lt_or_ge i l.length with h | h
      · exact h
      · rw [List.getElem?_eq_none h] at h2; cases h2
    omega
theorem lIns_mem {α : Type} {l : List α} {i : Nat} {x y : α} (h : y ∈ lIns l i x) : y = x ∨ y ∈ l := by
  unfold lIns at h
  rcases List.mem_append.1 h with h | h
  · exact .inr (List.mem_of_mem_take h)
  · rcases List.mem_cons.1 h with h | h
    · exact .inl h
    · exact .inr (List.mem_of_mem_drop h)
theorem qFind_lt {l : List Msg} {id : Int} (h : ¬ qFind l id < 0) : (qFind l id).toNat < l.length ∧ qFind l id = ((qFind l id).toNat : Int) ∧ l[(qFind l id).toNat]? = some (qAt l id) := by
  unfold qAt
  unfold qFind at *
  rcases lIdx_cases (fun x : Msg => decide (x.id = id)) l with ⟨h1, _⟩ | ⟨i, x, h1, h2, _⟩
  · omega
  · rw [h1] at h ⊢
    have : i < l.length := by
      rcases Nat.lt_or_ge i l.length with h | h
      · exact h
      · rw [List.getElem?_eq_none h] at h2; cases h2
    simp only [Int.toNat_natCast]
    refine ⟨this, trivial, ?_⟩
    rw [List.getD_eq_getElem?_getD, h2]; rfl

theorem oTable_ob {K : Nat} {o : Obj} (h : OB K o) (e : Eff) : OB (K + 1) (oTable o e).2 := by
  have h1 := rPut_len o.rows ⟨e.key, e.val⟩
  have h2 := rCut_len o.rows e.key
  have := h.rows; have := h.msgs; have := h.dead
  unfold oTable
  split
  · exact ⟨by simp only; omega, by simp only; omega, by simp only; omega, h.retry⟩
  · exact ⟨by simp only; omega, by simp only; omega, by simp only; omega, h.retry⟩
theorem oQueue_ob {K : Nat} {s : Stt} {o : Obj} (h : OB K o) (e : Eff) (he : e.kind = 4 → 0 ≤ e.msg.retry ∧ e.msg.retry ≤ 1000) : OB (K + 1) (oQueue s o e).2 := by
  have b1 := h.rows
  have b2 := h.msgs
  have b3 := h.dead
  have same : OB (K + 1) o := h.mono (by omega)
  unfold oQueue
  split
  · rename_i hk
    split
    · exact same
    split
    · exact same
    have hl := lIdx_le (fun x => decide (0 < mcmp x e.msg)) o.msgs
    refine ⟨by simp only; omega, ?_, by simp only; omega, fun m hm => ?_⟩
    · simp only [qAdd]
      rw [lIns_len (by split <;> omega)]; omega
    · rcases lIns_mem hm with rfl | hm
      · exact he hk
      · exact h.retry m hm
  split
  · refine ⟨by simp only; omega, ?_, by simp only; omega, fun m hm => ?_⟩
    · simp only [qCut]; split
      · simp only; omega
      · have := List.length_eraseIdx_le o.msgs (qFind o.msgs e.n).toNat; simp only; omega
    · simp only [qCut] at hm
      split at hm
      · exact h.retry m hm
      · exact h.retry m (List.mem_of_mem_eraseIdx hm)
  split
  · split
    · exact same
    rename_i hj
    have hx := (qFind_lt hj).2.2
    refine ⟨by simp only; omega, ?_, by simp only; omega, fun m hm => ?_⟩
    · simp only [qClaim]; split
      · simp only; omega
      · simp only [List.length_set]; omega
    · simp only [qClaim] at hm
      split at hm
      · exact h.retry m hm
      · rcases List.mem_or_eq_of_mem_set hm with hm | rfl
        · exact h.retry m hm
        · exact h.retry (qAt o.msgs e.n) (List.mem_of_getElem? hx)
  split
  · simp only [oFree]
    split
    · exact same
    rename_i hj
    have hj' : ¬ qFind o.msgs e.n < 0 := fun h => hj (.inl h)
    have hx := (qFind_lt hj').2.2
    have hr := h.retry _ (List.mem_of_getElem? hx)
    split
    · refine ⟨by simp only; omega, by simp only [List.length_set]; omega, by simp only; omega, fun m hm => ?_⟩
      rcases List.mem_or_eq_of_mem_set hm with hm | rfl
      · exact h.retry m hm
      · exact hr
    split
    · refine ⟨by simp only; omega, ?_, by simp; omega, fun m hm => h.retry m (List.mem_of_mem_eraseIdx hm)⟩
      have := List.length_eraseIdx_le o.msgs (qFind o.msgs e.n).toNat; simp only; omega
    · refine ⟨by simp only; omega, by simp only [List.length_set]; omega, by simp only; omega, fun m hm => ?_⟩
      rcases List.mem_or_eq_of_mem_set hm with hm | rfl
      · exact h.retry m hm
      · simp only [mTried]; omega
  · exact same

theorem sDo_sb {K : Nat} {s : Stt} (h : SB K s) (e : Eff) : SB (K + 1) (sDo s e).2 := by
  have h1 := h.objs
  have same : SB (K + 1) s := h.mono (by omega)
  unfold sDo
  split
  · exact same
  rename_i hr
  split
  · unfold sMake
    split
    · exact same
    split
    · exact same
    have hl := lIdx_le (fun o => decide (0 < kcmp o.name e.obj)) s.objs
    refine ⟨?_, fun o ho => ?_⟩
    · simp only
      rw [lIns_len (by split <;> omega)]; omega
    · rcases lIns_mem ho with rfl | ho
      · exact ⟨by simp, by simp, by simp, fun m hm => by simp at hm⟩
      · exact (h.ob o ho).mono (by omega)
  split
  · split
    · exact same
    · exact ⟨h1, fun o ho => (h.ob o ho).mono (by omega)⟩
  split
  · exact same
  rename_i hf
  simp only
  split
  · exact same
  refine ⟨by simpa using h1, fun o ho => ?_⟩
  have hx : s.objs[(sFind s.objs e.obj).toNat]? = some (s.objs.getD (sFind s.objs e.obj).toNat o0) := by
    unfold sFind at hf ⊢
    rcases lIdx_cases (fun o : Obj => decide (o.name = e.obj)) s.objs with ⟨h1, _⟩ | ⟨i, x, h1, h2, _⟩
    · omega
    · rw [h1]; simp [h2]
  rcases List.mem_or_eq_of_mem_set ho with ho | rfl
  · exact (h.ob o ho).mono (by omega)
  · have hob := h.ob _ (List.mem_of_getElem? hx)
    split
    · exact oTable_ob hob e
    · refine oQueue_ob hob e fun hk => ?_
      have hr : eRight e = true := by simpa using hr
      unfold eRight at hr
      rw [hk] at hr
      simp [mRight] at hr
      omega
theorem sDos_sb {K : Nat} {s : Stt} (h : SB K s) (l : List Eff) : SB (K + l.length) (sDos s l).2 := by
  induction l generalizing K s with
  | nil => exact h
  | cons e l ih =>
    unfold sDos
    split
    · have := ih (sDo_sb h e)
      rw [List.length_cons]
      exact this.mono (by omega)
    · exact h.mono (by omega)
end Go.Pst

namespace Go.Pst
open Go

structure OZ (o : Obj) : Prop where
  name : o.name.size ≤ 16
  rows : ∀ r ∈ o.rows, r.key.size ≤ 40 ∧ r.val.size ≤ 100
  msgs : ∀ m ∈ o.msgs ++ o.dead, m.corr.size ≤ 40 ∧ m.body.size ≤ 100
def SZ (s : Stt) : Prop := ∀ o ∈ s.objs, OZ o

theorem mRight_sz {m : Msg} (h : mRight m = true) : m.corr.size ≤ 40 ∧ m.body.size ≤ 100 := by
  unfold mRight at h; simp at h; omega
theorem rRight_sz {r : Row} (h : rRight r = true) : r.key.size ≤ 40 ∧ r.val.size ≤ 100 := by
  unfold rRight kRight at h; simp at h; omega
theorem oRight_oz {o : Obj} (h : oRight o = true) : OZ o := by
  unfold oRight at h
  simp only [Bool.and_eq_true] at h
  obtain ⟨h1, h2⟩ := h
  have hn : o.name.size ≤ 16 := by unfold oRight0 nRight at h1; simp at h1; omega
  split at h2
  · simp only [Bool.and_eq_true, decide_eq_true_eq, List.all_eq_true] at h2
    obtain ⟨⟨⟨a, b⟩, _⟩, c⟩ := h2
    have ea := List.eq_nil_of_length_eq_zero a
    have eb := List.eq_nil_of_length_eq_zero b
    exact ⟨hn, fun r hr => rRight_sz (c r hr), by rw [ea, eb]; simp⟩
  · simp only [Bool.and_eq_true, decide_eq_true_eq, List.all_eq_true, Bool.not_eq_true'] at h2
    obtain ⟨⟨⟨a, _⟩, b⟩, c⟩ := h2
    have ea := List.eq_nil_of_length_eq_zero a
    refine ⟨hn, by rw [ea]; simp, fun m hm => ?_⟩
    rcases List.mem_append.1 hm with hm | hm
    · exact mRight_sz (b m hm)
    · exact mRight_sz (c m hm).2
theorem oRises_all {p : Option Obj} {l : List Obj} (h : oRises p l = true) : ∀ o ∈ l, oRight o = true := by
  induction l generalizing p with
  | nil => simp
  | cons x l ih =>
    unfold oRises at h
    simp only [Bool.and_eq_true] at h
    intro o ho
    rcases List.mem_cons.1 ho with rfl | ho
    · exact h.1.1
    · exact ih h.2 o ho
theorem sRight_sz {s : Stt} (h : sRight s = true) : SZ s := by
  unfold sRight at h
  simp only [Bool.and_eq_true] at h
  exact fun o ho => oRight_oz (oRises_all h.1.2 o ho)

theorem rPut_mem {l : List Row} {r x : Row} (h : x ∈ rPut l r) : x = r ∨ x ∈ l := by
  unfold rPut at h
  simp only at h
  split at h
  · rcases List.mem_or_eq_of_mem_set h with h | h
    · exact .inr h
    · exact .inl h
  · exact lIns_mem h
theorem rCut_mem {l : List Row} {k : ByteArray} {x : Row} (h : x ∈ (rCut l k).1) : x ∈ l := by
  unfold rCut at h
  simp only at h
  split at h
  · exact List.mem_of_mem_eraseIdx h
  · exact h
theorem oTable_oz {o : Obj} (h : OZ o) (e : Eff) (he : e.kind = 2 → e.key.size ≤ 40 ∧ e.val.size ≤ 100) : OZ (oTable o e).2 := by
  unfold oTable
  split
  · rename_i hk
    refine ⟨h.name, fun r hr => ?_, h.msgs⟩
    rcases rPut_mem hr with rfl | hr
    · exact he hk
    · exact h.rows r hr
  · exact ⟨h.name, fun r hr => h.rows r (rCut_mem hr), h.msgs⟩
theorem oQueue_oz {s : Stt} {o : Obj} (h : OZ o) (e : Eff) (he : e.kind = 4 → e.msg.corr.size ≤ 40 ∧ e.msg.body.size ≤ 100) : OZ (oQueue s o e).2 := by
  have hm := h.msgs
  have sub : ∀ l d : List Msg, (∀ m ∈ l, m ∈ o.msgs ∨ m ∈ o.dead ∨ (m.corr.size ≤ 40 ∧ m.body.size ≤ 100)) → (∀ m ∈ d, m ∈ o.msgs ∨ m ∈ o.dead ∨ (m.corr.size ≤ 40 ∧ m.body.size ≤ 100)) → OZ { o with msgs := l, dead := d } := by
    intro l d h1 h2
    refine ⟨h.name, h.rows, fun m hm' => ?_⟩
    have : m ∈ o.msgs ∨ m ∈ o.dead ∨ (m.corr.size ≤ 40 ∧ m.body.size ≤ 100) := by
      rcases List.mem_append.1 hm' with hm' | hm'
      · exact h1 m hm'
      · exact h2 m hm'
    rcases this with h3 | h3 | h3
    · exact hm m (List.mem_append_left _ h3)
    · exact hm m (List.mem_append_right _ h3)
    · exact h3
  have dd : ∀ m ∈ o.dead, m ∈ o.msgs ∨ m ∈ o.dead ∨ (m.corr.size ≤ 40 ∧ m.body.size ≤ 100) := fun m h => .inr (.inl h)
  unfold oQueue
  split
  · rename_i hk
    split
    · exact h
    split
    · exact h
    refine sub _ _ (fun m hm' => ?_) dd
    rcases lIns_mem hm' with rfl | hm'
    · exact .inr (.inr (he hk))
    · exact .inl hm'
  split
  · refine sub _ _ (fun m hm' => ?_) dd
    simp only [qCut] at hm'
    split at hm'
    · exact .inl hm'
    · exact .inl (List.mem_of_mem_eraseIdx hm')
  split
  · split
    · exact h
    rename_i hj
    have hx := List.mem_of_getElem? (qFind_lt hj).2.2
    refine sub _ _ (fun m hm' => ?_) dd
    simp only [qClaim] at hm'
    split at hm'
    · exact .inl hm'
    · rcases List.mem_or_eq_of_mem_set hm' with hm' | rfl
      · exact .inl hm'
      · exact .inr (.inr (hm (qAt o.msgs e.n) (List.mem_append_left _ hx)))
  split
  · simp only [oFree]
    split
    · exact h
    rename_i hj
    have hj' : ¬ qFind o.msgs e.n < 0 := fun h => hj (.inl h)
    have hx := List.mem_of_getElem? (qFind_lt hj').2.2
    have hz := hm (qAt o.msgs e.n) (List.mem_append_left _ hx)
    split
    · refine sub _ _ (fun m hm' => ?_) dd
      rcases List.mem_or_eq_of_mem_set hm' with hm' | rfl
      · exact .inl hm'
      · exact .inr (.inr hz)
    split
    · refine sub _ _ (fun m hm' => .inl (List.mem_of_mem_eraseIdx hm')) fun m hm' => ?_
      rcases List.mem_append.1 hm' with hm' | hm'
      · exact .inr (.inl hm')
      · rw [List.mem_singleton] at hm'; subst hm'; exact .inr (.inr hz)
    · refine sub _ _ (fun m hm' => ?_) dd
      rcases List.mem_or_eq_of_mem_set hm' with hm' | rfl
      · exact .inl hm'
      · exact .inr (.inr hz)
  · exact h

theorem sDo_sz {s : Stt} (h : SZ s) (e : Eff) : SZ (sDo s e).2 := by
  unfold sDo
  split
  · exact h
  rename_i hr
  have hr : eRight e = true := by simpa using hr
  split
  · rename_i hk
    unfold sMake
    split
    · exact h
    split
    · exact h
    intro o ho
    rcases lIns_mem ho with rfl | ho
    · refine ⟨?_, by simp, by simp⟩
      unfold eRight at hr
      rw [hk] at hr
      simp [oRight0, nRight] at hr
      exact hr.2.1.2
    · exact h o ho
  split
  · split
    · exact h
    · exact h
  split
  · exact h
  rename_i hf
  simp only
  split
  · exact h
  intro o ho
  have hx : s.objs[(sFind s.objs e.obj).toNat]? = some (s.objs.getD (sFind s.objs e.obj).toNat o0) := by
    unfold sFind at hf ⊢
    rcases lIdx_cases (fun o : Obj => decide (o.name = e.obj)) s.objs with ⟨h1, _⟩ | ⟨i, x, h1, h2, _⟩
    · omega
    · rw [h1]; simp [h2]
  rcases List.mem_or_eq_of_mem_set ho with ho | rfl
  · exact h o ho
  · have hob := h _ (List.mem_of_getElem? hx)
    split
    · refine oTable_oz hob e fun hk => ?_
      unfold eRight at hr
      rw [hk] at hr
      simp [rRight, kRight] at hr
      omega
    · refine oQueue_oz hob e fun hk => ?_
      unfold eRight at hr
      rw [hk] at hr
      simp [mRight] at hr
      omega
theorem sDos_sz {s : Stt} (h : SZ s) (l : List Eff) : SZ (sDos s l).2 := by
  induction l generalizing s with
  | nil => exact h
  | cons e l ih =>
    unfold sDos
    split
    · exact ih (sDo_sz h e)
    · exact h
/-- what Apply gives -/
theorem sApply_ok {s : Stt} {l : List Eff} (h : (sApply s l).1 = 0) : sRight s = true ∧ (sDos s l).1 = 0 ∧ (sApply s l).2 = (sDos s l).2 := by
  unfold sApply at h ⊢
  split at h
  · simp at h
  rename_i hr
  split at h
  · rename_i hd
    rw [if_neg hr, if_pos hd]; exact ⟨by simpa using hr, hd, rfl⟩
  · rename_i hd; exact absurd h hd

theorem sum_nn {α : Type} {f : α → Int} {l : List α} {c : Int} (hc : 0 ≤ c) (h : ∀ x ∈ l, c ≤ f x) : l.length * c ≤ (l.map f).sum := by
  induction l with
  | nil => simp
  | cons x l ih =>
    have h1 := h x List.mem_cons_self
    have h2 := ih fun y hy => h y (List.mem_cons_of_mem _ hy)
    simp only [List.map_cons, List.sum_cons, List.length_cons]
    rw [show ((l.length + 1 : Nat) : Int) * c = l.length * c + c from by rw [Int.natCast_add, Int.add_mul]; simp]
    omega
theorem sum_ge {α : Type} {f : α → Int} {l : List α} (h : ∀ x ∈ l, 0 ≤ f x) : ∀ x ∈ l, f x ≤ (l.map f).sum := by
  induction l with
  | nil => simp
  | cons y l ih =>
    have h0 : 0 ≤ (l.map f).sum := by have := sum_nn (l := l) (f := f) (c := 0) (by omega) fun x hx => h x (List.mem_cons_of_mem _ hx); omega
    intro x hx
    simp only [List.map_cons, List.sum_cons]
    have hy := h y List.mem_cons_self
    rcases List.mem_cons.1 hx with rfl | hx
    · omega
    · have := ih (fun z hz => h z (List.mem_cons_of_mem _ hz)) x hx; omega
theorem oSize_nn (o : Obj) : 50 + 20 * o.rows.length + 60 * (o.msgs.length + o.dead.length) ≤ oSize o := by
  have h1 := sum_nn (l := o.rows) (f := rSize) (c := 20) (by omega) fun r _ => by unfold rSize; omega
  have h2 := sum_nn (l := o.msgs ++ o.dead) (f := mSize) (c := 60) (by omega) fun r _ => by unfold mSize; omega
  rw [List.length_append] at h2
  unfold oSize; omega
/-- a state that is small has short lists -/
theorem sSize_sb {K : Nat} {s : Stt} (h : SB K s) (hs : sSize s ≤ 6000) : SB 300 s := by
  refine ⟨h.objs, fun o ho => ?_⟩
  have h1 := sum_ge (l := s.objs) (f := oSize) (fun o _ => by have := oSize_nn o; omega) o ho
  have h2 := oSize_nn o
  unfold sSize at hs
  exact ⟨by omega, by omega, by omega, (h.ob o ho).retry⟩
end Go.Pst


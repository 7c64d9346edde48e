/- Symbolic execution of the model's code, part A: types of data, atoms, symbolic states, what one operation does to them. Plain definitions. -/
import Derived.Calls
import Derived.Orders
set_option linter.all false
namespace Go.Sx
open Go

/-- Shapes of data. -/
inductive Ty
  | int (k : IntKind)
  | bool
  | str
  | sl (e : Ty)
  | arr (n : Nat) (e : Ty)
  | pr (a b : Ty)
  | pt
  deriving DecidableEq, Inhabited

/-- Whose a slice's array is: 'p': nobody's, it stays as it is; 'b': it stays as it is as long as the call runs; 'w': the tree's in which it stands. -/
inductive Fo | p | b | w
/-- Whose the arrays in a value are. -/
inductive Fl
  | all (o : Fo)
  | sl (o : Fo) (f : Fl)
  | pr (f g : Fl)
def Fl.hd : Fl → Fo | .all o => o | .sl o _ => o | .pr f _ => f.hd
def Fl.el : Fl → Fl | .all o => .all o | .sl _ f => f | .pr f g => .pr f g
def Fl.l : Fl → Fl | .all o => .all o | .sl o f => .sl o f | .pr f _ => f
def Fl.r : Fl → Fl | .all o => .all o | .sl o f => .sl o f | .pr _ g => g
def Fo.le : Fo → Fo → Bool | .p, .p => true | .p, .b => true | .b, .b => true | .w, .w => true | _, _ => false
/-- what may be lent as what -/
def Fo.lend : Fo → Fo → Bool | .p, .p => true | _, .b => true | _, _ => false
def Fo.isO : Fo → Bool | .w => true | _ => false

abbrev Str := List UInt8

@[reducible] def Ty.den : Ty → Type
  | .int _ => Int
  | .bool => Bool
  | .str => Str
  | .sl e => List e.den
  | .arr _ e => List e.den
  | .pr a b => a.den × b.den
  | .pt => Unit

/-- cells of a value -/
def Ty.size : Ty → Nat
  | .pr a b => a.size + b.size
  | .arr n e => n * e.size
  | _ => 1

def Ty.dflt : (t : Ty) → t.den
  | .int _ => (0 : Int)
  | .bool => false
  | .str => ([] : List UInt8)
  | .sl e => ([] : List e.den)
  | .arr n e => List.replicate n e.dflt
  | .pr a b => (a.dflt, b.dflt)
  | .pt => ()

/-- a relation at each slice of a shape -/
def flR (rel : Fo → Fo → Bool) : Ty → Fl → Fl → Bool
  | .sl e, f, g => rel f.hd g.hd && flR rel e f.el g.el
  | .pr a b, f, g => flR rel a f.l g.l && flR rel b f.r g.r
  | _, _, _ => true
/-- nothing in it is owned -/
def Ty.noO : Ty → Fl → Bool
  | .sl e, f => !f.hd.isO && e.noO f.el
  | .pr a b, f => a.noO f.l && b.noO f.r
  | _, _ => true

def kindNo : IntKind → Nat
  | .i8 => 0 | .i16 => 1 | .i32 => 2 | .i64 => 3 | .u8 => 4 | .u16 => 5 | .u32 => 6 | .u64 => 7

def Ty.beq : Ty → Ty → Bool
  | .int k, .int k' => Nat.beq (kindNo k) (kindNo k')
  | .bool, .bool => true
  | .str, .str => true
  | .sl e, .sl e' => e.beq e'
  | .arr n e, .arr n' e' => Nat.beq n n' && e.beq e'
  | .pr a b, .pr a' b' => a.beq a' && b.beq b'
  | .pt, .pt => true
  | _, _ => false

theorem kindNo_inj {a b : IntKind} (h : kindNo a = kindNo b) : a = b := by
  cases a <;> cases b <;> first | rfl | (simp [kindNo] at h)

theorem Ty.eq_of_beq : ∀ {a b : Ty}, a.beq b = true → a = b := by
  intro a
  induction a with
  | int k => intro b h; cases b <;> simp [Ty.beq] at h; exact congrArg _ (kindNo_inj h)
  | bool => intro b h; cases b <;> simp [Ty.beq] at h; rfl
  | str => intro b h; cases b <;> simp [Ty.beq] at h; rfl
  | sl e ih => intro b h; cases b <;> simp [Ty.beq] at h; rw [ih h]
  | arr n e ih => intro b h; cases b <;> simp [Ty.beq] at h; rw [h.1, ih h.2]
  | pr x y ihx ihy => intro b h; cases b <;> simp [Ty.beq] at h; rw [ihx h.1, ihy h.2]
  | pt => intro b h; cases b <;> simp [Ty.beq] at h; rfl

/-- the same value at the same type -/
def tcast (T e : Ty) (x : T.den) : e.den := if h : T = e then h ▸ x else e.dflt
@[simp] theorem tcast_self (T : Ty) (x : T.den) : tcast T T x = x := by simp [tcast]

/-- A name of what the run has made: the number of the region's run, the operation's number, the part. -/
structure Id where
  r : Nat
  s : Nat
  c : Nat
  deriving DecidableEq, Inhabited
def Id.beq (a b : Id) : Bool :=
  match a, b with
  | ⟨r, s, c⟩, ⟨r', s', c'⟩ => Nat.beq c c' && (Nat.beq s s' && Nat.beq r r')
def Id.plus (a : Id) (n : Nat) : Id :=
  match a with
  | ⟨r, s, c⟩ => ⟨r, s, c + n⟩
theorem Id.eq_of_beq {a b : Id} (h : a.beq b = true) : a = b := by
  cases a; cases b
  simp [Id.beq] at h
  simp [h]
theorem Id.beq_self (a : Id) : a.beq a = true := by cases a; simp [Id.beq]
theorem Id.beq_ne {a b : Id} (h : a.beq b = false) : a ≠ b := fun e => by subst e; rw [Id.beq_self] at h; cases h

/-- A value in one place, or (an array) in several. -/
inductive At
  | d (T : Ty) (F : Fl) (x : T.den)
  | kb (b : Bool)
  | nils
  | own (id : Id)
  | ptr (id : Id) (off : Nat)
  | opt (id : Id) (i sz off : Nat) (T : Ty)
  | rpt (o : Fo) (T : Ty) (F : Fl) (x : T.den)
  | nilp
  | junk
  | anyb (P : Prop)
  | sub (id : Id) (lo hi sz : Nat) (inn : Bool)
  | chp (id : Id) (i : Nat)
  | chf (id : Id) (i off : Nat)
  | lnk (id0 : Id) (off : Nat) (id : Id) (i sz : Nat)
  | vp (id : Id) (off i n : Nat) (e : Ty)
  | vsl (id : Id) (off n sz : Nat)

/-- A value in a slot. -/
inductive SV
  | v (ag : Bool) (l : List At)
  | fn (f : FuncId) (caps : List At)
  | tup (l : List (Bool × List At))
  | junk

/-- What an id stands for: a variable; a slice that is owned; the same, one element of it laid open; the same, all elements laid open. -/
inductive Res
  | var (cs : List At)
  | sl (e : Ty) (f : Fl) (x : List e.den)
  | slo (e : Ty) (f : Fl) (x : List e.den) (j : Nat) (cs : List At)
  | els (sz : Nat) (cs : List (List At))
  | mp (ak av : Bool) (K V : Ty) (F : Fl) (l : List (K.den × V.den))
  | room (i : Id) (k : Nat)
  | ch (o : Bool) (e : Ty) (l : List e.den)
  | lvar (cs : List At)
  | pre (i : Id) (n : Nat)
  | bys (l : List Int)

structure St where
  tmps : List SV
  res : List (Id × Res)
  ctr : Nat
  stk : List (List SV)

/-! ### What asks for what ids stand for -/

inductive Req (α : Type)
  | ret (x : Option α)
  | need (id : Id) (k : Option Res → Req α)

namespace Req
variable {α β : Type}
def ok (a : α) : Req α := .ret (some a)
def fail : Req α := .ret none
def bind : Req α → (α → Req β) → Req β
  | .ret none, _ => .ret none
  | .ret (some a), f => f a
  | .need id k, f => .need id fun r => (k r).bind f
def exec (lk : Id → Option Res) : Req α → Option (α × List Id)
  | .ret none => none
  | .ret (some a) => some (a, [])
  | .need id k => match (k (lk id)).exec lk with
    | none => none
    | some (a, t) => some (a, id :: t)
def ofOption : Option α → Req α := .ret
end Req

/-- a variable, one's own or lent -/
def varOf (R : Option Res) : Option (List At) := match R with
  | some (.var cs) => some cs
  | some (.lvar cs) => some cs
  | _ => none
/-! ### Small functions on lists that come to literal lists -/
section
variable {α : Type}
def getT (l : List SV) (i : Nat) : SV :=
  match l with
  | [] => .junk
  | x :: xs => match i with
    | 0 => x
    | i + 1 => getT xs i
def setT (l : List SV) (i : Nat) (v : SV) : List SV :=
  match l with
  | [] => []
  | x :: xs => match i with
    | 0 => v :: xs
    | i + 1 => x :: setT xs i v
def setK (l : List SV) (i : Nat) (v : SV) (k : List SV → α) : α :=
  match l with
  | [] => k []
  | x :: xs => match i with
    | 0 => k (v :: xs)
    | i + 1 => setK xs i v (fun ys => k (x :: ys))
theorem setK_eq (l : List SV) (i : Nat) (v : SV) (k : List SV → α) : setK l i v k = k (setT l i v) := by
  induction l generalizing i k with
  | nil => rfl
  | cons x xs ih => cases i with
    | zero => rfl
    | succ i => simp only [setK, setT]; rw [ih]
def look (rs : List (Id × Res)) (r : Id) : Option Res :=
  match rs with
  | [] => none
  | (id, x) :: es => bif id.beq r then some x else look es r
def putR (rs : List (Id × Res)) (r : Id) (x : Option Res) : List (Id × Res) :=
  match rs with
  | [] => match x with
    | some y => [(r, y)]
    | none => []
  | (id, y) :: es => bif id.beq r then (match x with | some z => (id, z) :: es | none => putR es r none) else (id, y) :: putR es r x
def putRK (rs : List (Id × Res)) (r : Id) (x : Option Res) (k : List (Id × Res) → α) : α :=
  match rs with
  | [] => match x with
    | some y => k [(r, y)]
    | none => k []
  | (id, y) :: es => bif id.beq r then (match x with | some z => k ((id, z) :: es) | none => putRK es r none k) else putRK es r x (fun es' => k ((id, y) :: es'))
theorem putRK_eq (rs : List (Id × Res)) (r : Id) (x : Option Res) (k : List (Id × Res) → α) : putRK rs r x k = k (putR rs r x) := by
  induction rs generalizing x k with
  | nil => cases x <;> rfl
  | cons e es ih =>
    obtain ⟨id, y⟩ := e
    simp only [putRK, putR]
    cases id.beq r with
    | true => cases x with
      | none => simp only [cond_true]; rw [ih]
      | some z => rfl
    | false => simp only [cond_false]; rw [ih]
def puts (rs : List (Id × Res)) : List (Id × Option Res) → List (Id × Res)
  | [] => rs
  | (r, x) :: us => puts (putR rs r x) us
def putsK (rs : List (Id × Res)) : List (Id × Option Res) → (List (Id × Res) → α) → α
  | [], k => k rs
  | (r, x) :: us, k => putRK rs r x (fun rs' => putsK rs' us k)
theorem putsK_eq (us : List (Id × Option Res)) (rs : List (Id × Res)) (k : List (Id × Res) → α) : putsK rs us k = k (puts rs us) := by
  induction us generalizing rs with
  | nil => rfl
  | cons u us ih => simp only [putsK, puts]; rw [putRK_eq, ih]
end

def At.size : At → Nat
  | .d T _ _ => T.size
  | _ => 1

/-- the atoms of the n cells from off on -/
def takeA (l : List At) (off n : Nat) : Option (List At) :=
  match l with
  | [] => match off, n with
    | 0, 0 => some []
    | _, _ => none
  | a :: r => match off with
    | 0 => match n with
      | 0 => some []
      | _ + 1 => bif Nat.ble a.size n then (match takeA r 0 (n - a.size) with | some y => some (a :: y) | none => none) else none
    | _ + 1 => bif Nat.ble a.size off then takeA r (off - a.size) n else none
/-- vs in place of the atoms from off on -/
def putA (l : List At) (off : Nat) (vs : List At) : Option (List At) :=
  match l with
  | [] => match off, vs with
    | 0, [] => some []
    | _, _ => none
  | a :: r => match off with
    | 0 => match vs with
      | [] => some (a :: r)
      | v :: vs => bif Nat.beq a.size v.size then (match putA r 0 vs with | some y => some (v :: y) | none => none) else none
    | _ + 1 => bif Nat.ble a.size off then (match putA r (off - a.size) vs with | some y => some (a :: y) | none => none) else none

def pF : Fl := .all .p
/-- the atoms of a value in which nothing is owned -/
def atomsOf : (T : Ty) → Fl → T.den → List At
  | .pr a b, f, x => atomsOf a f.l x.1 ++ atomsOf b f.r x.2
  | .int k, _, x => [.d (.int k) pF x]
  | .bool, _, x => [.d .bool pF x]
  | .str, _, x => [.d .str pF x]
  | .sl e, f, x => [.d (.sl e) f x]
  | .arr n e, _, x => [.d (.arr n e) pF x]
  | .pt, _, _ => [.nilp]
/-- the atoms of a shape's zero value -/
def zeroOf : Ty → List At
  | .pr a b => zeroOf a ++ zeroOf b
  | .int k => [.d (.int k) pF (0 : Int)]
  | .bool => [.d .bool pF false]
  | .str => [.d .str pF ([] : List UInt8)]
  | .sl _ => [.nils]
  | .arr n e => [.d (.arr n e) pF (List.replicate n e.dflt)]
  | .pt => [.nilp]
/-- the atoms of a value, what is owned in it under ids from n on -/
def openOf : (T : Ty) → Fl → T.den → Id → List At × List (Id × Option Res)
  | .pr a b, f, x, n => match openOf a f.l x.1 n with
    | (l, r) => match openOf b f.r x.2 (n.plus a.size) with
      | (l', r') => (l ++ l', r ++ r')
  | .sl e, f, x, n => match f.hd with
    | .w => ([.own n], [(n, some (.sl e f.el x))])
    | _ => ([.d (.sl e) f x], [])
  | .int k, _, x, _ => ([.d (.int k) pF x], [])
  | .bool, _, x, _ => ([.d .bool pF x], [])
  | .str, _, x, _ => ([.d .str pF x], [])
  | .arr k e, _, x, _ => ([.d (.arr k e) pF x], [])
  | .pt, _, _, _ => ([.nilp], [])

/-- the part of a value that lies at off and has the shape T' -/
def partOf : (T : Ty) → T.den → (off : Nat) → (T' : Ty) → Option T'.den
  | .pr a b, x, off, T' => bif Nat.beq off 0 && Ty.beq (.pr a b) T' then some (tcast (.pr a b) T' x)
      else bif Nat.blt off a.size then partOf a x.1 off T' else partOf b x.2 (off - a.size) T'
  | T, x, off, T' => bif Nat.beq off 0 && Ty.beq T T' then some (tcast T T' x) else none
/-- whose the arrays in that part are -/
def partFl : (T : Ty) → Fl → (off : Nat) → (T' : Ty) → Option Fl
  | .pr a b, f, off, T' => bif Nat.beq off 0 && Ty.beq (.pr a b) T' then some f
      else bif Nat.blt off a.size then partFl a f.l off T' else partFl b f.r (off - a.size) T'
  | T, f, off, T' => bif Nat.beq off 0 && Ty.beq T T' then some f else none
/-- the same, with another value there -/
def partSet : (T : Ty) → T.den → (off : Nat) → (T' : Ty) → T'.den → Option T.den
  | .pr a b, x, off, T', y => bif Nat.beq off 0 && Ty.beq (.pr a b) T' then some (tcast T' (.pr a b) y)
      else bif Nat.blt off a.size then (match partSet a x.1 off T' y with | some z => some (z, x.2) | none => none)
      else (match partSet b x.2 (off - a.size) T' y with | some z => some (x.1, z) | none => none)
  | T, _, off, T', y => bif Nat.beq off 0 && Ty.beq T T' then some (tcast T' T y) else none
/-- field f of n -/
def fieldOf {α : Type} : (T : Ty) → Fl → (n f : Nat) → T.den → ((T' : Ty) → Fl → T'.den → α) → α
  | T, F, 0, _, x, k => k T F x
  | T, F, 1, _, x, k => k T F x
  | .pr a _, F, _ + 2, 0, x, k => k a F.l x.1
  | .pr _ b, F, n + 2, f + 1, x, k => fieldOf b F.r (n + 1) f x.2 k
  | T, F, _ + 2, _, x, k => k T F x
/-- the shape of field f of n, and where it lies -/
def fieldTy : (T : Ty) → Fl → (n f off : Nat) → Ty × Fl × Nat
  | T, F, 0, _, off => (T, F, off)
  | T, F, 1, _, off => (T, F, off)
  | .pr a _, F, _ + 2, 0, off => (a, F.l, off)
  | .pr a b, F, n + 2, f + 1, off => fieldTy b F.r (n + 1) f (off + a.size)
  | T, F, _ + 2, _, off => (T, F, off)
def fieldOff (T : Ty) (n f : Nat) : Nat := (fieldTy T pF n f 0).2.2

/-- A row of the types' table: the type's number, its shape, whether its values are aggregates, how many fields, its elements' type, bytes, its fields' types. -/
structure TE where
  t : TypeId
  T : Ty
  ag : Bool
  nf : Nat
  el : TypeId
  by_ : Nat
  fts : List TypeId
abbrev TT := List TE
def ttOf : TT → TypeId → Option TE
  | [], _ => none
  | e :: es, t => bif Nat.beq e.t t then some e else ttOf es t

/-! ### A whole value out of atoms -/

/-- a value, the atoms that are left, the ids that it takes in, the ids that it is lent -/
structure Pk (β : Type) where
  x : β
  r : List At
  ids : List Id
  bw : List Id

/-- a list of values, each out of its atoms -/
def packEach {β : Type} (p : List At → Req (Pk β)) : List (List At) → Req (List β × List Id × List Id)
  | [] => .ok ([], [], [])
  | c :: cs => (p c).bind fun x => match x with
    | ⟨y, [], ids, b⟩ => (packEach p cs).bind fun z => match z with
      | (ys, ids', b') => .ok (y :: ys, ids ++ ids', b ++ b')
    | _ => .fail
def pack : (e : Ty) → Fl → List At → Req (Pk e.den)
  | .pr a b, f, l => (pack a f.l l).bind fun x => match x with
    | ⟨y, r, ids, w⟩ => (pack b f.r r).bind fun z => match z with
      | ⟨y', r', ids', w'⟩ => .ok ⟨(y, y'), r', ids ++ ids', w ++ w'⟩
  | .int k, _, l => match l with
    | .d (.int k') _ n :: r => bif Nat.beq (kindNo k) (kindNo k') then .ok ⟨n, r, [], []⟩ else .fail
    | _ => .fail
  | .bool, _, l => match l with
    | .d .bool _ b :: r => .ok ⟨b, r, [], []⟩
    | .kb b :: r => .ok ⟨b, r, [], []⟩
    | _ => .fail
  | .str, _, l => match l with
    | .d .str _ s :: r => .ok ⟨s, r, [], []⟩
    | _ => .fail
  | .arr n e, _, l => match l with
    | .d T _ x :: r => bif Ty.beq T (.arr n e) then .ok ⟨tcast T (.arr n e) x, r, [], []⟩ else .fail
    | _ => .fail
  | .pt, _, l => match l with
    | .nilp :: r => .ok ⟨(), r, [], []⟩
    | _ => .fail
  | .sl e, f, l => bif !(f.hd.isO || e.noO f.el) then .fail else match l with
    | .vsl id off n sz :: r => .need id fun R => match f.hd with
      | .b => (match varOf R with
        | some cs => (match takeA cs off (n * sz) with
          | some [.d (.arr n' e') _ x] => bif Ty.beq e' e && (Nat.beq n' n && (Nat.beq sz e.size && Nat.ble n 1024)) then .ok ⟨tcast (.sl e') (.sl e) x, r, [], [id]⟩ else .fail
          | _ => .fail)
        | none => .fail)
      | _ => .fail
    | .d T F x :: r => bif Ty.beq T (.sl e) && flR Fo.le (.sl e) F f then .ok ⟨tcast T (.sl e) x, r, [], []⟩ else .fail
    | .nils :: r => .ok ⟨([] : List e.den), r, [], []⟩
    | .own id :: r => .need id fun R => match f.hd with
      | .w => (match R with
        | some (.sl e' f' x) => bif Ty.beq e' e && flR Fo.le e f' f.el then .ok ⟨tcast (.sl e') (.sl e) x, r, [id], []⟩ else .fail
        | some (.slo e' f' x j cs) => bif Ty.beq e' e && flR Fo.le e f' f.el then (pack e f.el cs).bind fun y => match y with
            | ⟨z, [], ids, w⟩ => .ok ⟨((tcast (.sl e') (.sl e) x : List e.den).set j z : List e.den), r, id :: ids, w⟩
            | _ => .fail else .fail
        | some (.els sz cs) => bif Nat.beq sz e.size then (packEach (pack e f.el) cs).bind fun y => match y with
            | (ys, ids, w) => .ok ⟨ys, r, id :: ids, w⟩ else .fail
        | _ => .fail)
      | .b => (match R with
        | some (.sl e' f' x) => bif Ty.beq e' e && flR Fo.lend e f' f.el then .ok ⟨tcast (.sl e') (.sl e) x, r, [], [id]⟩ else .fail
        | some (.slo e' f' x j cs) => bif Ty.beq e' e && flR Fo.lend e f' f.el then (pack e f.el cs).bind fun y => match y with
            | ⟨z, [], [], w⟩ => .ok ⟨((tcast (.sl e') (.sl e) x : List e.den).set j z : List e.den), r, [], id :: w⟩
            | _ => .fail else .fail
        | some (.els sz cs) => bif Nat.beq sz e.size then (packEach (pack e f.el) cs).bind fun y => match y with
            | (ys, [], w) => .ok ⟨ys, r, [], id :: w⟩
            | _ => .fail else .fail
        | _ => .fail)
      | .p => .fail
    | .sub id lo hi sz inn :: r => .need id fun R => match f.hd with
      | .b => (match R with
        | some (.sl e' f' x) => bif Ty.beq e' e && flR Fo.lend e f' f.el && (Nat.beq sz e.size && inn) then .ok ⟨((tcast (.sl e') (.sl e) x : List e.den).take hi).drop lo, r, [], [id]⟩ else .fail
        | _ => .fail)
      | _ => .fail
    | _ => .fail

def hasN (l : List Id) (n : Id) : Bool := match l with | [] => false | x :: xs => x.beq n || hasN xs n
def nodupN (l : List Id) : Bool := match l with | [] => true | x :: xs => !hasN xs x && nodupN xs
def disjN (l m : List Id) : Bool := match l with | [] => true | x :: xs => !hasN m x && disjN xs m
def emptyN (l : List Id) : Bool := match l with | [] => true | _ :: _ => false
def drops (ids : List Id) : List (Id × Option Res) := ids.map fun i => (i, none)

/-! ### One operation -/

structure Eff where
  dst : SV
  upd : List (Id × Option Res)
  vc : List Prop

def Eff.val (x : SV) : Req Eff := .ok ⟨x, [], []⟩
def atom (a : At) : SV := .v false [a]
def SV.ofTy (ag : Bool) (l : List At) : Req SV := match ag with
  | true => .ok (.v true l)
  | false => match l with
    | [a] => .ok (.v false [a])
    | _ => .fail

def sInt (k : IntKind) (n : Int) : SV := .v false [.d (.int k) pF n]
def sBool (b : Bool) : SV := .v false [.d .bool pF b]
def sStr (s : Str) : SV := .v false [.d .str pF s]
def inR (k : IntKind) (n : Int) : Prop := k.min ≤ n ∧ n ≤ k.max
/-- the bound on lengths -/
def maxL : Nat := 140737488355328

def bitsOp (op : BinOp) (k : IntKind) (x y : Int) : Int :=
  match op with
  | .and => k.wrap (BitVec.ofInt k.bits x &&& BitVec.ofInt k.bits y).toNat
  | .or => k.wrap (BitVec.ofInt k.bits x ||| BitVec.ofInt k.bits y).toNat
  | .xor => k.wrap (BitVec.ofInt k.bits x ^^^ BitVec.ofInt k.bits y).toNat
  | _ => k.wrap (BitVec.ofInt k.bits x &&& ~~~ BitVec.ofInt k.bits y).toNat

def sBinI (op : BinOp) (k k' : IntKind) (a b : Int) : Req Eff :=
  match op with
  | .shr => .ok ⟨sInt k (a.fdiv (2 ^ (min b.toNat k.bits))), [], [0 ≤ b]⟩
  | .shl => .ok ⟨sInt k (a * 2 ^ (min b.toNat k.bits)), [], [0 ≤ b, inR k (a * 2 ^ (min b.toNat k.bits))]⟩
  | op => bif Nat.beq (kindNo k) (kindNo k') then
    (match op with
    | .add => (match k with
      | .u8 => .ok ⟨sInt .u8 ((a + b) % 256), [], []⟩
      | k => .ok ⟨sInt k (a + b), [], [inR k (a + b)]⟩)
    | .sub => .ok ⟨sInt k (a - b), [], [inR k (a - b)]⟩
    | .mul => .ok ⟨sInt k (a * b), [], [inR k (a * b)]⟩
    | .quo => .ok ⟨sInt k (a.tdiv b), [], [b ≠ 0, inR k (a.tdiv b)]⟩
    | .rem => .ok ⟨sInt k (a.tmod b), [], [b ≠ 0]⟩
    | .and => .ok ⟨sInt k (bitsOp .and k a b), [], []⟩
    | .or => .ok ⟨sInt k (bitsOp .or k a b), [], []⟩
    | .xor => .ok ⟨sInt k (bitsOp .xor k a b), [], []⟩
    | .andNot => .ok ⟨sInt k (bitsOp .andNot k a b), [], []⟩
    | .eql => .ok ⟨sBool (decide (a = b)), [], []⟩
    | .neq => .ok ⟨sBool (!decide (a = b)), [], []⟩
    | .lss => .ok ⟨sBool (decide (a < b)), [], []⟩
    | .leq => .ok ⟨sBool (decide (a ≤ b)), [], []⟩
    | .gtr => .ok ⟨sBool (decide (b < a)), [], []⟩
    | .geq => .ok ⟨sBool (decide (b ≤ a)), [], []⟩
    | _ => .fail) else .fail
def sBinS (op : BinOp) (a b : Str) : Req Eff :=
  match op with
  | .add => .ok ⟨sStr (a ++ b), [], [a.length + b.length ≤ maxL]⟩
  | .eql => .ok ⟨sBool (decide (a = b)), [], []⟩
  | .neq => .ok ⟨sBool (!decide (a = b)), [], []⟩
  | _ => .fail
def sBinB (op : BinOp) (a b : Bool) : Req Eff :=
  match op with
  | .eql => .ok ⟨sBool (a == b), [], []⟩
  | .neq => .ok ⟨sBool (!(a == b)), [], []⟩
  | _ => .fail
def isBoolT (tt : TT) (t : TypeId) : Bool := match ttOf tt t with
  | some ⟨_, .bool, false, _, _, _, _⟩ => true
  | _ => false
def isStrT (tt : TT) (t : TypeId) : Bool := match ttOf tt t with
  | some ⟨_, .str, false, _, _, _, _⟩ => true
  | _ => false
/-- a slice's elements: their shape, their type, their bytes -/
def slT (tt : TT) (t : TypeId) : Option (Ty × TypeId × Nat) := match ttOf tt t with
  | some ⟨_, .sl _, false, _, el, _, _⟩ => (match ttOf tt el with
    | some ⟨_, e, _, _, _, by_, _⟩ => some (e, el, by_)
    | none => none)
  | _ => none
def isSlT (tt : TT) (t : TypeId) : Bool := match slT tt t with
  | some _ => true
  | none => false
def sBin (tt : TT) (xT : TypeId) (op : BinOp) (x y : SV) : Req Eff :=
  match x, y with
  | .v false [.d T _ a], .v false [.d T' _ b] => (match T, a, T', b with
    | .int k, a, .int k', b => sBinI op k k' a b
    | .str, a, .str, b => sBinS op a b
    | .bool, a, .bool, b => bif isBoolT tt xT then sBinB op a b else .fail
    | _, _, _, _ => .fail)
  | _, _ => .fail

def sLoad (tt : TT) (t : TypeId) (idb : Id) (x : SV) : Req Eff :=
  match ttOf tt t with
  | none => .fail
  | some ⟨_, T0, ag, _, _, _, _⟩ => match x with
    | .v false [.ptr id off] => .need id fun R => match varOf R with
      | some cs => match takeA cs off T0.size with
        | some l => (SV.ofTy ag l).bind fun v => Eff.val v
        | none => .fail
      | none => .fail
    | .v false [.rpt _ T F y] => bif Ty.beq T T0 then (SV.ofTy ag (atomsOf T F y)).bind fun v => Eff.val v else .fail
    | .v false [.opt id i sz off T] => bif Ty.beq T T0 then .need id fun R => match R with
      | some (.sl e f y) => bif Nat.beq sz e.size then (match partFl e f off T with
        | none => .fail
        | some F => match T.noO F with
        | true => match partOf e (y.getD i e.dflt) off T with
          | some z => (SV.ofTy ag (atomsOf T F z)).bind fun v => .ok ⟨v, [], [i < y.length]⟩
          | none => .fail
        | false => match openOf e f (y.getD i e.dflt) idb with
          | (cs, us) => match takeA cs off T.size with
            | some l => (SV.ofTy ag l).bind fun v => .ok ⟨v, (id, some (.slo e f y i cs)) :: us, [i < y.length]⟩
            | none => .fail) else .fail
      | some (.slo e _ _ j cs) => bif Nat.beq sz e.size then (match takeA cs off T.size with
        | some l => (SV.ofTy ag l).bind fun v => .ok ⟨v, [], [i = j]⟩
        | none => .fail) else .fail
      | some (.els sz' css) => bif Nat.beq sz sz' && (Nat.beq off 0 && Nat.beq T.size sz) then (packEach (pack T pF) css).bind fun p => match p with
        | (ys, [], []) => (SV.ofTy ag (atomsOf T pF (ys.getD i T.dflt))).bind fun v => .ok ⟨v, [], [i < ys.length]⟩
        | _ => .fail else .fail
      | some (.bys l) => bif Nat.beq sz 1 && (Nat.beq off 0 && Ty.beq T (.int .u8)) then (match ag with
        | false => .ok ⟨sInt .u8 (l.getD i 0), [], [i < l.length]⟩
        | true => .fail) else .fail
      | _ => .fail else .fail
    | _ => .fail

def sizeL : List At → Nat
  | [] => 0
  | a :: r => a.size + sizeL r
def fitsT (tt : TT) (t : TypeId) (y : SV) : Bool := match ttOf tt t, y with
  | some ⟨_, T, ag, _, _, _, _⟩, .v ag' l => (ag == ag') && Nat.beq T.size (sizeL l)
  | _, _ => false
def sStore (idb : Id) (x y : SV) : Req Eff :=
  match x, y with
  | .v false [.ptr id off], .v _ l => .need id fun R => match R with
    | some (.var cs) => match putA cs off l with
      | some cs' => .ok ⟨.junk, [(id, some (.var cs'))], []⟩
      | none => .fail
    | _ => .fail
  | .v false [.opt id i sz off T], .v _ l => .need id fun R => match R with
    | some (.sl e f z) => bif Nat.beq sz e.size then (match partFl e f off T with
      | none => .fail
      | some F => match T.noO F with
      | true => (pack T F l).bind fun p => match p with
        | ⟨q, [], [], []⟩ => match partSet e (z.getD i e.dflt) off T q with
          | some z' => .ok ⟨.junk, [(id, some (.sl e f (z.set i z')))], [i < z.length]⟩
          | none => .fail
        | _ => .fail
      | false => match openOf e f (z.getD i e.dflt) idb with
        | (cs, us) => match putA cs off l with
          | some cs' => .ok ⟨.junk, (id, some (.slo e f z i cs')) :: us, [i < z.length]⟩
          | none => .fail) else .fail
    | some (.slo e f z j cs) => bif Nat.beq sz e.size then (match putA cs off l with
      | some cs' => .ok ⟨.junk, [(id, some (.slo e f z j cs'))], [i = j]⟩
      | none => .fail) else .fail
    | some (.bys z) => bif Nat.beq sz 1 && Nat.beq off 0 then (match l with
      | [.d (.int .u8) _ n] => .ok ⟨.junk, [(id, some (.bys (z.set i n)))], [i < z.length]⟩
      | _ => .fail) else .fail
    | _ => .fail
  | _, _ => .fail

def sFieldAddr (tt : TT) (s : TypeId) (f : Nat) (x : SV) : Req Eff :=
  match ttOf tt s with
  | none => .fail
  | some ⟨_, T0, _, nf, _, _, _⟩ => bif Nat.blt f nf then match x with
    | .v false [.ptr id off] => match fieldTy T0 pF nf f off with
      | (_, _, off') => Eff.val (atom (.ptr id off'))
    | .v false [.rpt o T F y] => bif Ty.beq T T0 then fieldOf T F nf f y fun T' F' y' => Eff.val (atom (.rpt o T' F' y')) else .fail
    | .v false [.opt id i sz off T] => bif Ty.beq T T0 then (match fieldTy T pF nf f off with
      | (T', _, off') => Eff.val (atom (.opt id i sz off' T'))) else .fail
    | _ => .fail
    else .fail

def sIndexAddr (tt : TT) (t : TypeId) (x i : SV) : Req Eff :=
  match slT tt t with
  | none => .fail
  | some (e0, _, _) => match x, i with
    | .v false [.d T F l], .v false [.d (.int _) _ n] => (match T, l with
      | .sl e, l => bif Ty.beq e e0 then .ok ⟨atom (.rpt F.hd e F.el (List.getD l n.toNat e.dflt)), [], [0 ≤ n ∧ n < (List.length l : Int)]⟩ else .fail
      | _, _ => .fail)
    | .v false [.own id], .v false [.d (.int _) _ n] => .need id fun R => match R with
      | some (.sl e f l) => bif Ty.beq e e0 then .ok ⟨atom (.opt id n.toNat e.size 0 e), [], [0 ≤ n ∧ n < (l.length : Int)]⟩ else .fail
      | some (.slo e f l _ _) => bif Ty.beq e e0 then .ok ⟨atom (.opt id n.toNat e.size 0 e), [], [0 ≤ n ∧ n < (l.length : Int)]⟩ else .fail
      | some (.els sz l) => bif Nat.beq sz e0.size then .ok ⟨atom (.opt id n.toNat sz 0 e0), [], [0 ≤ n ∧ n < (l.length : Int)]⟩ else .fail
      | some (.bys l) => bif Ty.beq e0 (.int .u8) then .ok ⟨atom (.opt id n.toNat 1 0 e0), [], [0 ≤ n ∧ n < (l.length : Int)]⟩ else .fail
      | _ => .fail
    | _, _ => .fail

def sIndex (tt : TT) (t : TypeId) (x i : SV) : Req Eff :=
  match x, i with
  | .v false [.d .str _ l], .v false [.d (.int _) _ n] => bif isStrT tt t then .ok ⟨sInt .u8 ((List.getD l n.toNat 0).toNat : Int), [], [0 ≤ n ∧ n < (List.length l : Int)]⟩ else .fail
  | _, _ => .fail

/-- parts in place of the zero value's -/
def buildFrom (T : Ty) (nf : Nat) : List (Nat × SV) → List At → Option (List At)
  | [], l => some l
  | (f, .v _ v) :: ps, l => bif Nat.blt f nf && Nat.beq (sizeL v) (fieldTy T pF nf f 0).1.size then (match putA l (fieldOff T nf f) v with
    | some l' => buildFrom T nf ps l'
    | none => none) else none
  | _ :: _, _ => none
def ftAt : List TypeId → Nat → Option TypeId
  | [], _ => none
  | t :: _, 0 => some t
  | _ :: r, n + 1 => ftAt r n
def sBuild (tt : TT) (t : TypeId) (fs : List Nat) (vals : List SV) : Req Eff :=
  match ttOf tt t with
  | some ⟨_, T, true, nf, _, _, _⟩ => match buildFrom T nf (fs.zip vals) (zeroOf T) with
    | some l => .ok ⟨.v true l, [], []⟩
    | none => .fail
  | _ => .fail
def buildEls (sz : Nat) : List (Nat × SV) → Nat → Option (List (List At))
  | [], _ => some []
  | (i, .v _ v) :: ps, j => bif Nat.beq i j && Nat.beq (sizeL v) sz then (match buildEls sz ps (j + 1) with | some r => some (v :: r) | none => none) else none
  | _ :: _, _ => none
def sBuildSlice (idb : Id) (sz len : Nat) (fs : List Nat) (vals : List SV) : Req Eff :=
  bif Nat.beq len fs.length && Nat.ble (len * sz) 16777216 then
    match buildEls sz (fs.zip vals) 0 with
    | some l => .ok ⟨atom (.own idb), [(idb, some (.els sz l))], []⟩
    | none => .fail
  else .fail

/-- a field of a value -/
def sField (tt : TT) (t : TypeId) (f : Nat) (x : SV) : Req Eff :=
  match ttOf tt t with
  | none => .fail
  | some ⟨_, T, _, nf, _, _, fts⟩ => bif Nat.blt f nf then match x, ftAt fts f with
    | .v true l, some ft => match ttOf tt ft, takeA l (fieldOff T nf f) (fieldTy T pF nf f 0).1.size with
      | some ⟨_, _, ag, _, _, _, _⟩, some m => (SV.ofTy ag m).bind fun v => Eff.val v
      | _, _ => .fail
    | _, _ => .fail
    else .fail

def sLen (tt : TT) (t : TypeId) (x : SV) : Req Eff :=
  match x with
  | .v false [.d T _ l] => (match T, l with
    | .str, l => bif isStrT tt t then Eff.val (sInt .i64 (List.length l : Int)) else .fail
    | .sl _, l => bif isSlT tt t then Eff.val (sInt .i64 (List.length l : Int)) else .fail
    | _, _ => .fail)
  | .v false [.nils] => bif isSlT tt t then Eff.val (sInt .i64 0) else .fail
  | .v false [.own id] => bif isSlT tt t then .need id fun R => match R with
    | some (.sl _ _ l) => Eff.val (sInt .i64 (l.length : Int))
    | some (.slo _ _ l _ _) => Eff.val (sInt .i64 (l.length : Int))
    | some (.els _ l) => Eff.val (sInt .i64 (l.length : Int))
    | _ => .fail else .fail
  | _ => .fail

/-- what is appended to: as a list of a shape; by_: an element's bytes -/
def sAppendTo (by_ : Nat) (idb : Id) (e : Ty) (f : Fl) (l : List e.den) (id : Id) (y : SV) : Req Eff :=
  match y with
  | .v false [.nils] => .ok ⟨atom (.own idb), [(id, none), (idb, some (.sl e f l))], []⟩
  | .v false [.d T F m] => (match T, m with
    | .sl e', m => bif Ty.beq e' e && (e.noO f && flR Fo.le e F.el f) then
        .ok ⟨atom (.own idb), [(id, none), (idb, some (.sl e f (l ++ (tcast (.sl e') (.sl e) m : List e.den))))], [(l.length + List.length m) * by_ ≤ maxL]⟩ else .fail
    | _, _ => .fail)
  | .v false [.own id2] => .need id2 fun R => match R with
    | some (.sl e' f' m) => bif Ty.beq e' e && (flR Fo.le e f' f && !(id.beq id2)) then
        .ok ⟨atom (.own idb), [(id, none), (id2, none), (idb, some (.sl e f (l ++ (tcast (.sl e') (.sl e) m : List e.den))))], [(l.length + m.length) * by_ ≤ maxL]⟩ else .fail
    | some (.els sz2 cs) => bif Nat.beq sz2 e.size then (packEach (pack e f) cs).bind fun p => match p with
      | (m, ids, []) => bif nodupN (id :: id2 :: ids) then .ok ⟨atom (.own idb), (id, none) :: (id2, none) :: drops ids ++ [(idb, some (.sl e f (l ++ m)))], [(l.length + m.length) * by_ ≤ maxL]⟩ else .fail
      | _ => .fail else .fail
    | _ => .fail
  | _ => .fail
def sAppendEls (by_ : Nat) (e0 : Ty) (idb : Id) (l : List (List At)) (ids : List Id) (y : SV) : Req Eff :=
  match y with
  | .v false [.nils] => .ok ⟨atom (.own idb), drops ids ++ [(idb, some (.els e0.size l))], []⟩
  | .v false [.d T F m] => (match T, m with
    | .sl e, m => bif Ty.beq e e0 && e.noO F.el then (packEach (pack e F.el) l).bind fun p => match p with
      | (l', ids', []) => bif nodupN (ids ++ ids') then .ok ⟨atom (.own idb), drops ids ++ drops ids' ++ [(idb, some (.sl e F.el (l' ++ m)))], [(l'.length + List.length m) * by_ ≤ maxL]⟩ else .fail
      | _ => .fail else .fail
    | _, _ => .fail)
  | .v false [.own id2] => .need id2 fun R => match R with
    | some (.sl e f m) => bif Ty.beq e e0 then (packEach (pack e f) l).bind fun p => match p with
      | (l', ids', []) => bif nodupN (id2 :: ids ++ ids') then .ok ⟨atom (.own idb), drops ids ++ drops ids' ++ [(id2, none), (idb, some (.sl e f (l' ++ m)))], [(l'.length + m.length) * by_ ≤ maxL]⟩ else .fail
      | _ => .fail else .fail
    | some (.els sz2 cs) => bif nodupN (id2 :: ids) && Nat.beq sz2 e0.size then .ok ⟨atom (.own idb), drops ids ++ [(id2, none), (idb, some (.els e0.size (l ++ cs)))], [(l.length + cs.length) * by_ ≤ maxL]⟩ else .fail
    | _ => .fail
  | _ => .fail
/-- onto a slice of which one element is laid open -/
def sAppendSlo (by_ : Nat) (idb : Id) (e : Ty) (f : Fl) (l : List e.den) (j : Nat) (cs : List At) (id : Id) (y : SV) : Req Eff :=
  match y with
  | .v false [.own id2] => .need id2 fun R => match R with
    | some (.els sz2 css) => bif Nat.beq sz2 e.size then (pack e f cs).bind fun q => match q with
      | ⟨z, [], ids1, []⟩ => (packEach (pack e f) css).bind fun p => match p with
        | (m, ids, []) => bif nodupN (id :: id2 :: (ids1 ++ ids)) then .ok ⟨atom (.own idb), (id, none) :: (id2, none) :: drops ids1 ++ drops ids ++ [(idb, some (.sl e f (l.set j z ++ m)))], [(l.length + m.length) * by_ ≤ maxL]⟩ else .fail
        | _ => .fail
      | _ => .fail else .fail
    | _ => .fail
  | _ => .fail
def sAppend (tt : TT) (t t2 : TypeId) (idb : Id) (x y : SV) : Req Eff :=
  match slT tt t with
  | none => .fail
  | some (e0, _, by_) => bif !(isSlT tt t2 && Nat.blt 0 by_) then .fail else match x with
    | .v false [.nils] => sAppendEls by_ e0 idb [] [] y
    | .v false [.own id] => .need id fun R => match R with
      | some (.sl e f l) => bif Ty.beq e e0 then sAppendTo by_ idb e f l id y else .fail
      | some (.els sz l) => bif Nat.beq sz e0.size then sAppendEls by_ e0 idb l [id] y else .fail
      | some (.slo e f l j cs) => bif Ty.beq e e0 then sAppendSlo by_ idb e f l j cs id y else .fail
      | _ => .fail
    | .v false [.sub id lo hi sz inn] => (match y with
      | .v false [.sub id2 lo2 hi2 sz2 inn2] => bif id.beq id2 && (Nat.beq lo 0 && (inn && inn2)) then .need id fun R => match R with
        | some (.sl e f l) => bif Ty.beq e e0 && (Nat.beq sz e.size && Nat.beq sz2 e.size) then
          .ok ⟨atom (.own idb), [(id, none), (idb, some (.sl e f (l.take hi ++ (l.take hi2).drop lo2))), (idb.plus 1, some (.room idb l.length))], [hi ≤ lo2]⟩ else .fail
        | _ => .fail else .fail
      | _ => .fail)
    | _ => .fail

def sliceL {β : Type} (l : List β) : Option Int → Option Int → List β × List Prop
  | some a, some b => ((l.take b.toNat).drop a.toNat, [0 ≤ a ∧ a ≤ b ∧ b ≤ (l.length : Int)])
  | none, some b => (l.take b.toNat, [0 ≤ b ∧ b ≤ (l.length : Int)])
  | some a, none => (l.drop a.toNat, [0 ≤ a ∧ a ≤ (l.length : Int)])
  | none, none => (l, [])
def asI : Option SV → Option (Option Int)
  | none => some none
  | some (.v false [.d (.int _) _ n]) => some (some n)
  | _ => none
/-- a part of a slice that is owned; 'top': how far it may reach, 'n': its length -/
def sSub (id : Id) (sz top n : Nat) (inn : Bool) : Option Int → Option Int → Req Eff
  | none, none => .ok ⟨.v false [.sub id 0 n sz inn], [], []⟩
  | some a, none => .ok ⟨.v false [.sub id a.toNat n sz inn], [], [0 ≤ a ∧ a ≤ (n : Int)]⟩
  | none, some b => .ok ⟨.v false [.sub id 0 b.toNat sz inn], [], [0 ≤ b ∧ b ≤ (top : Int)]⟩
  | some a, some b => .ok ⟨.v false [.sub id a.toNat b.toNat sz inn], [], [0 ≤ a ∧ a ≤ b ∧ b ≤ (top : Int)]⟩
/-- a full slice expression: its bounds are looked at, its value is not known -/
def sSlice3 (tt : TT) (t : TypeId) (x a b m : SV) : Req Eff :=
  match x, a, b, m with
  | .v false [.own id], .v false [.d (.int _) _ a], .v false [.d (.int _) _ b], .v false [.d (.int _) _ m] => (match slT tt t with
    | some _ => .need id fun R => match R with
      | some (.sl _ _ l) => .ok ⟨.junk, [], [0 ≤ a ∧ a ≤ b ∧ b ≤ m ∧ m ≤ (l.length : Int)]⟩
      | _ => .fail
    | none => .fail)
  | _, _, _, _ => .fail
/-- clear, behind the end of a slice that is owned -/
def sClear (tt : TT) (t : TypeId) (x : SV) : Req Eff :=
  match slT tt t with
  | none => .fail
  | some (e0, _, _) => match x with
    | .v false [.sub id lo _ sz _] => .need id fun R => match R with
      | some (.sl e f l) => bif Ty.beq e e0 && Nat.beq sz e.size then .ok ⟨.junk, [(id, some (.sl e f l))], [l.length ≤ lo]⟩ else .fail
      | _ => .fail
    | _ => .fail
def sSlice (tt : TT) (t : TypeId) (x : SV) (lo hi : Option SV) : Req Eff :=
  match asI lo, asI hi with
  | some a, some b => match x with
    | .v false [.d T F l] => (match T, l with
      | .str, l => bif isStrT tt t then (match sliceL (β := UInt8) l a b with
        | (m, vc) => .ok ⟨sStr m, [], vc⟩) else .fail
      | .sl e, l => (match slT tt t with
        | some (e0, _, _) => bif Ty.beq e e0 then (match sliceL (β := e.den) l a b with
          | (m, vc) => .ok ⟨.v false [.d (.sl e) F m], [], vc⟩) else .fail
        | none => .fail)
      | _, _ => .fail)
    | .v false [.own id] => (match slT tt t with
      | some (e0, _, _) => .need id fun R => match R with
        | some (.sl e _ l) => bif Ty.beq e e0 then .need (id.plus 1) fun R2 => match R2 with
          | some (.room i k) => bif i.beq id then sSub id e.size (bif Nat.ble l.length k then k else l.length) l.length false a b else .fail
          | _ => sSub id e.size l.length l.length true a b
          else .fail
        | _ => .fail
      | none => .fail)
    | _ => .fail
  | _, _ => .fail

def toBytes (s : Str) : List Int := s.map fun c => (c.toNat : Int)
def ofBytes (l : List Int) : Str := l.map fun n => UInt8.ofNat n.toNat
def isBytesT (tt : TT) (t : TypeId) : Bool := match slT tt t with
  | some (.int .u8, el, _) => (match ttOf tt el with
    | some ⟨_, _, false, _, _, _, _⟩ => true
    | _ => false)
  | _ => false
/-- the type stands twice in the table: its values out of texts lie in memory of one's own -/
def dupT : TT → TypeId → Bool
  | [], _ => false
  | e :: es, t => bif Nat.beq e.t t then (match ttOf es t with | some _ => true | none => false) else dupT es t
def sConvert (tt : TT) (idb : Id) (src dst : TypeId) (x : SV) : Req Eff :=
  match ttOf tt src, ttOf tt dst with
  | some _, some ⟨_, T0, false, _, _, _, _⟩ => (match T0 with
    | .int k => (match x with
      | .v false [.d (.int _) _ n] => .ok ⟨sInt k n, [], [inR k n]⟩
      | _ => .fail)
    | .str => (match x with
      | .v false [.d T _ s] => (match T, s with
        | .str, s => Eff.val (sStr s)
        | .sl (.int .u8), l => bif isBytesT tt src then Eff.val (sStr (ofBytes l)) else .fail
        | _, _ => .fail)
      | .v false [.nils] => bif isBytesT tt src then Eff.val (sStr []) else .fail
      | .v false [.own id] => bif isBytesT tt src then .need id fun R => match R with
        | some (.bys l) => Eff.val (sStr (ofBytes l))
        | _ => (pack (.sl (.int .u8)) (.all .b) [.own id]).bind fun p => match p with
          | ⟨l, [], [], _⟩ => Eff.val (sStr (ofBytes l))
          | _ => .fail else .fail
      | _ => .fail)
    | .sl _ => (match x with
      | .v false [.d .str _ s] => bif isBytesT tt dst then (bif dupT tt dst then .ok ⟨atom (.own idb), [(idb, some (.bys (toBytes s)))], []⟩ else Eff.val (.v false [.d (.sl (.int .u8)) pF (toBytes s)])) else .fail
      | _ => .fail)
    | _ => .fail)
  | _, _ => .fail

def asB : SV → Option Bool
  | .v false [.d .bool _ b] => some b
  | .v false [.kb b] => some b
  | _ => none
def sPick (c a b : SV) : Req Eff :=
  match c with
  | .v false [.kb true] => Eff.val a
  | .v false [.kb false] => Eff.val b
  | .v false [.d .bool _ x] => match asB a, asB b with
    | some p, some q => Eff.val (sBool (bif x then p else q))
    | _, _ => .fail
  | _ => .fail
def sNot (x : SV) : Req Eff :=
  match x with
  | .v false [.kb b] => Eff.val (.v false [.kb (!b)])
  | .v false [.d .bool _ b] => Eff.val (sBool (!b))
  | _ => .fail
def nth {β : Type} : List β → Nat → Option β
  | [], _ => none
  | x :: _, 0 => some x
  | _ :: xs, n + 1 => nth xs n
def sExtract (x : SV) (i : Nat) : Req Eff :=
  match x with
  | .tup l => match nth l i with
    | some (ag, v) => Eff.val (.v ag v)
    | none => .fail
  | _ => .fail
def sNilCheck (x : SV) : Req Eff :=
  match x with
  | .v false [.ptr i o] => Eff.val (.v false [.ptr i o])
  | .v false [.opt i j z o T] => Eff.val (.v false [.opt i j z o T])
  | .v false [.rpt o T F y] => Eff.val (.v false [.rpt o T F y])
  | _ => .fail
def litNat : Operand → Option Nat
  | .const (.int _ (.ofNat n)) => some n
  | _ => none
def sMakeI (T : Ty) (by_ : Nat) (idb : Id) (len : Option Nat) (a b : Int) : Req Eff :=
  match len with
  | some m => bif Nat.blt 0 by_ then .ok ⟨atom (.own idb), [(idb, some (.els T.size (List.replicate m (zeroOf T))))], [a = (m : Int), a ≤ b, b * by_ ≤ maxL]⟩ else .fail
  | none => bif Nat.blt 0 by_ then .ok ⟨atom (.own idb), [(idb, some (.sl T (.all .w) (List.replicate a.toNat T.dflt)))], [0 ≤ a, a ≤ b, b * by_ ≤ maxL]⟩ else .fail
def sMake (tt : TT) (t : TypeId) (idb : Id) (len : Option Nat) (n c : SV) : Req Eff :=
  match slT tt t with
  | none => .fail
  | some (T, _, by_) => match n, c with
    | .v false [.d (.int _) _ a], .v false [.d (.int _) _ b] => sMakeI T by_ idb len a b
    | _, _ => .fail

/-! ### Maps -/
/-- maps' types: their keys', their elements' -/
abbrev MT := List (TypeId × TypeId × TypeId)
def mtOf : MT → TypeId → Option (TypeId × TypeId)
  | [], _ => none
  | (a, k, e) :: r, t => bif Nat.beq a t && !Nat.beq a k then some (k, e) else mtOf r t
/-- the type is marked: a struct, compared field by field -/
def eqT : MT → TypeId → Bool
  | [], _ => false
  | (a, k, _) :: r, t => (Nat.beq a t && Nat.beq a k) || eqT r t
def keyPlain : Ty → Bool
  | .str => true
  | .int _ => true
  | _ => false
def keyEq : (K : Ty) → K.den → K.den → Bool
  | .str, x, y => decide ((x : List UInt8) = y)
  | .int _, x, y => decide ((x : Int) = y)
  | .pr a b, x, y => keyEq a x.1 y.1 && keyEq b x.2 y.2
  | _, _, _ => false
def mget (K : Ty) {V : Type} : List (K.den × V) → K.den → Option V
  | [], _ => none
  | p :: l, x => bif keyEq K x p.1 then some p.2 else mget K l x
def mset (K : Ty) {V : Type} : List (K.den × V) → K.den → V → List (K.den × V)
  | [], x, y => [(x, y)]
  | p :: l, x, y => bif keyEq K x p.1 then (x, y) :: l else p :: mset K l x y
def mapF : Fl := .all .b
def sMakeMap (tt : TT) (mt : MT) (t : TypeId) (idb : Id) : Req Eff :=
  match mtOf mt t with
  | none => .fail
  | some (k, e) => match ttOf tt k, ttOf tt e with
    | some ⟨_, K, false, _, _, _, _⟩, some ⟨_, V, av, _, _, _, _⟩ => bif keyPlain K && V.noO mapF then .ok ⟨atom (.own idb), [(idb, some (.mp false av K V mapF []))], []⟩ else .fail
    | _, _ => .fail
def boolEq : Bool → Bool → Bool
  | true, b => b
  | false, b => !b
def sMapUpdate (tt : TT) (mt : MT) (t : TypeId) (m k v : SV) : Req Eff :=
  match mtOf mt t with
  | none => .fail
  | some (kt, _) => match ttOf tt kt with
    | some ⟨_, K0, false, _, _, _, _⟩ => (match m with
    | .v false [.own id] => .need id fun R => match R with
      | some (.mp false av K V F l) => bif keyPlain K && Ty.beq K0 K then (match k, v with
        | .v false lk, .v av' lv => bif boolEq av' av then (pack K pF lk).bind fun p => match p with
          | ⟨x, [], [], []⟩ => (pack V F lv).bind fun q => match q with
            | ⟨y, [], [], []⟩ => .ok ⟨.junk, [(id, some (.mp false av K V F (mset K l x y)))], []⟩
            | _ => .fail
          | _ => .fail else .fail
        | _, _ => .fail) else .fail
      | _ => .fail
    | _ => .fail)
    | _ => .fail
def sLookup (tt : TT) (mt : MT) (t : TypeId) (ok : Bool) (m k : SV) : Req Eff :=
  match mtOf mt t with
  | none => .fail
  | some (kt, et) => match ttOf tt kt, ttOf tt et with
    | some ⟨_, K0, false, _, _, _, _⟩, some ⟨_, V0, av0, _, _, _, _⟩ => (match m with
      | .v false [.own id] => .need id fun R => match R with
        | some (.mp false av K V F l) => bif keyPlain K && Ty.beq K0 K && (Ty.beq V0 V && boolEq av0 av) then (match k with
          | .v false lk => (pack K pF lk).bind fun p => match p with
            | ⟨x, [], [], []⟩ => (match ok with
              | true => Eff.val (.tup [(av, atomsOf V F ((mget K l x).getD V.dflt)), (false, [.d .bool pF (mget K l x).isSome])])
              | false => Eff.val (.v av (atomsOf V F ((mget K l x).getD V.dflt))))
            | _ => .fail
          | _ => .fail) else .fail
        | _ => .fail
      | _ => .fail)
    | _, _ => .fail
def sLenMap (mt : MT) (t : TypeId) (x : SV) : Req Eff :=
  match mtOf mt t with
  | none => .fail
  | some _ => match x with
    | .v false [.own id] => .need id fun R => match R with
      | some (.mp _ _ _ _ _ l) => .ok ⟨sInt .i64 (l.length : Int), [], [l.length ≤ maxL]⟩
      | _ => .fail
    | _ => .fail
/-- a slice against nil -/
def sEqNil (tt : TT) (t : TypeId) (x : SV) : Req Eff :=
  bif !(isSlT tt t) then .fail else match x with
  | .v false [.nils] => Eff.val (.v false [.kb true])
  | .v false [.d T _ l] => (match T, l with
    | .sl _, l => Eff.val (.v false [.anyb (List.length l = 0)])
    | _, _ => .fail)
  | .v false [.own id] => .need id fun R => match R with
    | some (.sl _ _ l) => Eff.val (.v false [.anyb (l.length = 0)])
    | some (.els _ l) => Eff.val (.v false [.anyb (l.length = 0)])
    | _ => .fail
  | _ => .fail
def isNilsV : SV → Bool
  | .v false [.nils] => true
  | _ => false
def sMin (a b : Int) : Int := bif decide (b < a) then b else a
def sMax (a b : Int) : Int := bif decide (a < b) then b else a
def sMinMax (mn : Bool) (x y : SV) : Req Eff :=
  match x, y with
  | .v false [.d (.int k) _ a], .v false [.d (.int k') _ b] => bif Nat.beq (kindNo k) (kindNo k') then Eff.val (sInt k (bif mn then sMin a b else sMax a b)) else .fail
  | _, _ => .fail


/-! ### Pointers into variables' arrays; chains -/
/-- a pointer to an element of a variable's array -/
def isX : SV → Bool
  | .v false [.vp _ _ _ _ _] => true
  | .v false [.chp _ _] => true
  | .v false [.chf _ _ _] => true
  | .v false [.lnk _ _ _ _ _] => true
  | _ => false
def isPtrV : SV → Bool
  | .v false [.ptr _ _] => true
  | _ => false
def sLoadX (tt : TT) (t : TypeId) (x : SV) : Req Eff :=
  match ttOf tt t with
  | none => .fail
  | some ⟨_, T0, ag, _, _, _, _⟩ => match x with
    | .v false [.vp id off i n e] => bif Ty.beq e T0 then .need id fun R => match varOf R with
      | some cs => (match takeA cs off (n * e.size) with
        | some [.d (.arr n' e') _ y] => bif Ty.beq e' e && Nat.beq n' n then (SV.ofTy ag (atomsOf e pF (List.getD (tcast (.sl e') (.sl e) y : List e.den) i e.dflt))).bind fun v => .ok ⟨v, [], [i < n]⟩ else .fail
        | _ => .fail)
      | none => .fail else .fail
    | .v false [.chf id i off] => .need id fun R => match R with
      | some (.ch _ e l) => bif Nat.beq off 0 && Ty.beq e T0 then (SV.ofTy ag (atomsOf e pF (l.getD i e.dflt))).bind fun v => .ok ⟨v, [], [i < l.length]⟩
        else bif Nat.beq off e.size && (Ty.beq .pt T0 && !ag) then .ok ⟨atom (.chp id (i + 1)), [], [i < l.length]⟩ else .fail
      | _ => .fail
    | .v false [.lnk id0 off id i sz] => bif Ty.beq .pt T0 && !ag then .need id fun R => match R with
      | some (.ch _ e l) => bif Nat.beq sz e.size then .need id0 fun R0 => match R0 with
        | some (.var cs) => (match takeA cs off 1 with
          | some [.chp id' 0] => bif id'.beq id then .ok ⟨atom (.chp id i), [], [i ≤ l.length]⟩ else .fail
          | _ => .fail)
        | _ => .fail else .fail
      | some (.pre id2 n) => .need id2 fun R2 => match R2 with
        | some (.ch _ e l) => bif Nat.beq sz e.size then .need id0 fun R0 => match R0 with
          | some (.var cs) => (match takeA cs off 1 with
            | some [.chp id' 0] => bif id'.beq id2 then .ok ⟨atom (.chp id2 i), [], [i ≤ l.length, i ≤ n]⟩ else .fail
            | _ => .fail)
          | _ => .fail else .fail
        | _ => .fail
      | _ => .fail else .fail
    | _ => .fail
def sStoreX (idb : Id) (x y : SV) : Req Eff :=
  match x, y with
  | .v false [.vp id off i n e], .v _ l => .need id fun R => match R with
    | some (.var cs) => (match takeA cs off (n * e.size) with
      | some [.d (.arr n' e') _ z] => bif Ty.beq e' e && Nat.beq n' n then (pack e pF l).bind fun p => match p with
        | ⟨q, [], [], []⟩ => (match putA cs off [.d (.arr n e) pF ((tcast (.sl e') (.sl e) z : List e.den).set i q : List e.den)] with
          | some cs' => .ok ⟨.junk, [(id, some (.var cs'))], [i < n]⟩
          | none => .fail)
        | _ => .fail else .fail
      | _ => .fail)
    | _ => .fail
  | .v false [.lnk id0 off id i sz], .v false [.ptr id2 0] => .need id fun R => match R with
    | some (.ch true e l) => bif Nat.beq sz e.size then .need id0 fun R0 => match R0 with
      | some (.var cs) => (match takeA cs off 1 with
        | some [.chp id' 0] => bif id'.beq id && nodupN [id0, id, id2] then .need id2 fun R2 => match R2 with
          | some (.var cs2) => (pack e pF cs2).bind fun p => match p with
            | ⟨q, [.nilp], [], []⟩ => (match putA cs off [.chp idb 0] with
              | some cs' => .ok ⟨.junk, [(id0, some (.var cs')), (id2, none), (id, some (.pre idb l.length)), (idb, some (.ch true e (l ++ [q])))], [i = l.length]⟩
              | none => .fail)
            | _ => .fail
          | _ => .fail else .fail
        | _ => .fail)
      | _ => .fail else .fail
    | _ => .fail
  | _, _ => .fail
def sNilCheckX (x : SV) : Req Eff :=
  match x with
  | .v false [.chp id i] => .need id fun R => match R with
    | some (.ch _ _ l) => .ok ⟨atom (.chf id i 0), [], [i < l.length]⟩
    | _ => .fail
  | .v false [.lnk id0 off id i sz] => Eff.val (atom (.lnk id0 off id i sz))
  | _ => .fail
def sFieldAddrX (tt : TT) (s : TypeId) (f : Nat) (x : SV) : Req Eff :=
  match ttOf tt s with
  | none => .fail
  | some ⟨_, T0, _, nf, _, _, _⟩ => bif Nat.blt f nf then match x with
    | .v false [.chf id i off] => Eff.val (atom (.chf id i (off + fieldOff T0 nf f)))
    | _ => .fail
    else .fail
/-- an array's elements: how many, their shape -/
def arT (tt : TT) (t : TypeId) : Option (Nat × Ty × TypeId) := match ttOf tt t with
  | some ⟨_, .arr n _, true, 0, el, _, []⟩ => (match ttOf tt el with
    | some ⟨_, e, _, _, _, _, _⟩ => some (n, e, el)
    | none => none)
  | _ => none
def sIndexAddrX (tt : TT) (t : TypeId) (x i : SV) : Req Eff :=
  match arT tt t with
  | none => .fail
  | some (n, e, _) => match x, i with
    | .v false [.ptr id off], .v false [.d (.int _) _ k] => .ok ⟨atom (.vp id off k.toNat n e), [], [0 ≤ k ∧ k < (n : Int)]⟩
    | _, _ => .fail
def sSliceX (tt : TT) (t : TypeId) (x : SV) : Req Eff :=
  match arT tt t with
  | none => .fail
  | some (n, e, _) => match x with
    | .v false [.ptr id off] => .ok ⟨atom (.vsl id off n e.size), [], []⟩
    | _ => .fail
/-- a slice as a pointer to an array -/
def sToArr (tt : TT) (t : TypeId) (x : SV) : Req Eff :=
  match arT tt t with
  | none => .fail
  | some (n, e, _) => match x with
    | .v false [.d T F l] => (match T, l with
      | .sl e', l => bif Ty.beq e' e && (Nat.blt 0 n && (e.noO pF && flR Fo.le e' F.el pF)) then .ok ⟨atom (.rpt F.hd (.arr n e) pF (List.take n (tcast (.sl e') (.sl e) l : List e.den))), [], [n ≤ List.length l]⟩ else .fail
      | _, _ => .fail)
    | _ => .fail
def isNilpV : SV → Bool
  | .v false [.nilp] => true
  | _ => false
/-- a chain's pointer against nil -/
def isPtT (tt : TT) (t : TypeId) : Bool := match ttOf tt t with
  | some ⟨_, .pt, false, _, _, _, _⟩ => true
  | _ => false
def sPtrNil (tt : TT) (t : TypeId) (op : BinOp) (x : SV) : Req Eff :=
  bif !(isPtT tt t) then .fail else match x with
  | .v false [.chp id i] => .need id fun R => match R with
    | some (.ch _ _ l) => (match op with
      | .eql => .ok ⟨sBool (decide (i = l.length)), [], [i ≤ l.length]⟩
      | .neq => .ok ⟨sBool (!decide (i = l.length)), [], [i ≤ l.length]⟩
      | _ => .fail)
    | _ => .fail
  | .v false [.nilp] => (match op with
    | .eql => Eff.val (.v false [.kb true])
    | .neq => Eff.val (.v false [.kb false])
    | _ => .fail)
  | _ => .fail
/-- arrays of texts -/
def sBinArr (tt : TT) (xT : TypeId) (op : BinOp) (x y : SV) : Req Eff :=
  match arT tt xT with
  | some (n, .str, el) => bif isStrT tt el then (match x, y with
    | .v true [.d T _ a], .v true [.d T' _ b] => (match T, a, T', b with
      | .arr m .str, a, .arr m' .str, b => bif Nat.beq m n && Nat.beq m' n then (match op with
        | .eql => Eff.val (sBool (decide ((a : List Str) = b)))
        | .neq => Eff.val (sBool (!decide ((a : List Str) = b)))
        | _ => .fail) else .fail
      | _, _, _, _ => .fail)
    | _, _ => .fail) else .fail
  | _ => .fail
/-- fields compared, each a cell -/
def eqFl (tt : TT) : List TypeId → List At → List At → Option Bool
  | [], [], [] => some true
  | t :: ts, .d T _ a :: r, .d T' _ b :: r' => (match ttOf tt t with
    | some ⟨_, Tf, false, _, _, _, _⟩ => (match eqFl tt ts r r' with
      | some v => (match Tf, T, a, T', b with
        | .int _, .int .i64, a, .int .i64, b => some (decide ((a : Int) = b) && v)
        | .bool, .bool, a, .bool, b => some (decide ((a : Bool) = b) && v)
        | .str, .str, a, .str, b => some (decide ((a : Str) = b) && v)
        | _, _, _, _, _ => none)
      | none => none)
    | _ => none)
  | _, _, _ => none
def consec (T : Ty) (nf : Nat) : Nat → List TypeId → Bool
  | _, [] => true
  | i, _ :: r => Nat.beq (fieldOff T nf i) i && consec T nf (i + 1) r
def sBinSt (tt : TT) (xT : TypeId) (op : BinOp) (x y : SV) : Req Eff :=
  match ttOf tt xT, x, y with
  | some ⟨_, T, true, nf, _, _, fts⟩, .v true l, .v true l' => bif consec T nf 0 fts && Nat.blt 0 fts.length then (match eqFl tt fts l l' with
    | some r => (match op with
      | .eql => Eff.val (sBool r)
      | .neq => Eff.val (sBool (!r))
      | _ => .fail)
    | none => .fail) else .fail
  | _, _, _ => .fail
/-- the rest of a slice of one's own, as one's own: where the slice's type stands twice in the table -/
def sCut (tt : TT) (t : TypeId) (idb : Id) (x a : SV) : Req Eff :=
  match slT tt t, x, a with
  | some (e0, _, _), .v false [.own id], .v false [.d (.int _) _ n] => .need id fun R => match R with
    | some (.sl e f l) => bif Ty.beq e e0 && e.noO f then .ok ⟨atom (.own idb), [(id, none), (idb, some (.sl e f (l.drop n.toNat)))], [0 ≤ n ∧ n < (l.length : Int)]⟩ else .fail
    | _ => .fail
  | _, _, _ => .fail
def isOwnV : SV → Bool
  | .v false [.own _] => true
  | _ => false
def isArrV : SV → Bool
  | .v true [.d (.arr _ _) _ _] => true
  | _ => false

end Go.Sx

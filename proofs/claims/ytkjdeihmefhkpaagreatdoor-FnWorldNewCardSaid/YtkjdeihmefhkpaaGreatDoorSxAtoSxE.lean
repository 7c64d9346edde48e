/- Several texts, one behind the other. -/
import Derived.Calls
import Derived.Orders
import Derived.Below
import Derived.Laws.CopyRow
import Derived.Laws.StructEq
set_option linter.all false
namespace Go.Sx
open Go
inductive Ty
 | int (k : IntKind)
 | bool
 | str
 | sl (e : Ty)
 | arr (n : Nat) (e : Ty)
 | pr (a b : Ty)
 | pt
 | er
 deriving DecidableEq, Inhabited
inductive Fo | p | b | w
inductive Fl
 | all (o : Fo)
 | sl (o : Fo) (f : Fl)
 | pr (f g : Fl)
def Fl.hd : Fl → Fo | .all o => o | .sl o _ => o | .pr f _ => f.hd
def Fl.el : Fl → Fl | .all o => .all o | .sl _ f => f | .pr f g => .pr f g
def Fl.l : Fl → Fl | .all o => .all o | .sl o f => .sl o f | .pr f _ => f
def Fl.r : Fl → Fl | .all o => .all o | .sl o f => .sl o f | .pr _ g => g
def Fo.le : Fo → Fo → Bool | .p, .p => true | .p, .b => true | .b, .b => true | .w, .w => true | _, _ => false
def Fo.lend : Fo → Fo → Bool | .p, .p => true | _, .b => true | _, _ => false
def Fo.isO : Fo → Bool | .w => true | _ => false
abbrev Str := List UInt8
@[reducible] def Ty.den : Ty → Type
 | .int _ => Int
 | .bool => Bool
 | .str => Str
 | .sl e => List e.den
 | .arr _ e => List e.den
 | .pr a b => a.den × b.den
 | .pt => Unit
 | .er => Nat
def Ty.size : Ty → Nat
 | .pr a b => a.size + b.size
 | .arr n e => n * e.size
 | _ => 1
def Ty.dflt : (t : Ty) → t.den
 | .int _ => (0 : Int)
 | .bool => false
 | .str => ([] : List UInt8)
 | .sl e => ([] : List e.den)
 | .arr n e => List.replicate n e.dflt
 | .pr a b => (a.dflt, b.dflt)
 | .pt => ()
 | .er => (0 : Nat)
def flR (rel : Fo → Fo → Bool) : Ty → Fl → Fl → Bool
 | .sl e, f, g => rel f.hd g.hd && flR rel e f.el g.el
 | .pr a b, f, g => flR rel a f.l g.l && flR rel b f.r g.r
 | _, _, _ => true
def Ty.noO : Ty → Fl → Bool
 | .sl e, f => !f.hd.isO && e.noO f.el
 | .pr a b, f => a.noO f.l && b.noO f.r
 | _, _ => true
def kindNo : IntKind → Nat
 | .i8 => 0 | .i16 => 1 | .i32 => 2 | .i64 => 3 | .u8 => 4 | .u16 => 5 | .u32 => 6 | .u64 => 7
def Ty.beq : Ty → Ty → Bool
 | .int k, .int k' => Nat.beq (kindNo k) (kindNo k')
 | .bool, .bool => true
 | .str, .str => true
 | .sl e, .sl e' => e.beq e'
 | .arr n e, .arr n' e' => Nat.beq n n' && e.beq e'
 | .pr a b, .pr a' b' => a.beq a' && b.beq b'
 | .pt, .pt => true
 | .er, .er => true
 | _, _ => false
theorem kindNo_inj {a b : IntKind} (h : kindNo a = kindNo b) : a = b := by
 cases a <;> cases b <;> first | rfl | (simp [kindNo] at h)
theorem Ty.eq_of_beq : ∀ {a b : Ty}, a.beq b = true → a = b := by
 intro a
 induction a with
 | int k => intro b h; cases b <;> simp [Ty.beq] at h; exact congrArg _ (kindNo_inj h)
 | bool => intro b h; cases b <;> simp [Ty.beq] at h; rfl
 | str => intro b h; cases b <;> simp [Ty.beq] at h; rfl
 | sl e ih => intro b h; cases b <;> simp [Ty.beq] at h; rw [ih h]
 | arr n e ih => intro b h; cases b <;> simp [Ty.beq] at h; rw [h.1, ih h.2]
 | pr x y ihx ihy => intro b h; cases b <;> simp [Ty.beq] at h; rw [ihx h.1, ihy h.2]
 | pt => intro b h; cases b <;> simp [Ty.beq] at h; rfl
 | er => intro b h; cases b <;> simp [Ty.beq] at h; rfl
def tcast (T e : Ty) (x : T.den) : e.den := if h : T = e then h ▸ x else e.dflt
@[simp] theorem tcast_self (T : Ty) (x : T.den) : tcast T T x = x := by simp [tcast]
def errB : Nat := 0
def errOn : Bool := true
def errT : TypeId := 445
structure Id where
 r : Nat
 s : Nat
 c : Nat
 deriving DecidableEq, Inhabited
def Id.beq (a b : Id) : Bool :=
 match a, b with
 | ⟨r, s, c⟩, ⟨r', s', c'⟩ => Nat.beq c c' && (Nat.beq s s' && Nat.beq r r')
def Id.plus (a : Id) (n : Nat) : Id :=
 match a with
 | ⟨r, s, c⟩ => ⟨r, s, c + n⟩
theorem Id.eq_of_beq {a b : Id} (h : a.beq b = true) : a = b := by
 cases a; cases b
 simp [Id.beq] at h
 simp [h]
theorem Id.beq_self (a : Id) : a.beq a = true := by cases a; simp [Id.beq]
theorem Id.beq_ne {a b : Id} (h : a.beq b = false) : a ≠ b := fun e => by subst e; rw [Id.beq_self] at h; cases h
inductive At
 | d (T : Ty) (F : Fl) (x : T.den)
 | kb (b : Bool)
 | nils
 | own (id : Id)
 | ptr (id : Id) (off : Nat)
 | opt (id : Id) (i sz off : Nat) (T : Ty)
 | rpt (o : Fo) (T : Ty) (F : Fl) (x : T.den)
 | nilp
 | junk
 | anyb (P : Prop)
 | sub (id : Id) (lo hi sz : Nat) (inn : Bool)
 | chp (id : Id) (i : Nat)
 | chf (id : Id) (i off : Nat)
 | lnk (id0 : Id) (off : Nat) (id : Id) (i sz : Nat)
 | vp (id : Id) (off i n : Nat) (e : Ty)
 | vsl (id : Id) (off n sz : Nat)
inductive SV
 | v (ag : Bool) (l : List At)
 | fn (f : FuncId) (caps : List At)
 | tup (l : List (Bool × List At))
 | junk
inductive Res
 | var (cs : List At)
 | sl (e : Ty) (f : Fl) (x : List e.den)
 | slo (e : Ty) (f : Fl) (x : List e.den) (j : Nat) (cs : List At)
 | els (sz : Nat) (cs : List (List At))
 | mp (ak av : Bool) (K V : Ty) (F : Fl) (l : List (K.den × V.den))
 | room (i : Id) (k : Nat)
 | ch (o : Bool) (e : Ty) (l : List e.den)
 | lvar (cs : List At)
 | pre (i : Id) (n : Nat)
 | bys (l : List Int)
abbrev SV.j : SV := .junk
theorem gE {α : Type _} {l : List α} {i : Nat} (h : i < l.length) : l[i]? = some l[i] := List.getElem?_eq_getElem h
structure St where
 tmps : List SV
 res : List (Id × Res)
 ctr : Nat
 stk : List (List SV)
inductive Req (α : Type)
 | ret (x : Option α)
 | need (id : Id) (k : Option Res → Req α)
namespace Req
variable {α β : Type}
def ok (a : α) : Req α := .ret (some a)
def fail : Req α := .ret none
def bind : Req α → (α → Req β) → Req β
 | .ret none, _ => .ret none
 | .ret (some a), f => f a
 | .need id k, f => .need id fun r => (k r).bind f
def exec (lk : Id → Option Res) : Req α → Option (α × List Id)
 | .ret none => none
 | .ret (some a) => some (a, [])
 | .need id k => match (k (lk id)).exec lk with
  | none => none
  | some (a, t) => some (a, id :: t)
def ofOption : Option α → Req α := .ret
end Req
def varOf (R : Option Res) : Option (List At) := match R with
 | some (.var cs) => some cs
 | some (.lvar cs) => some cs
 | _ => none
section
variable {α : Type}
def getT (l : List SV) (i : Nat) : SV :=
 match l with
 | [] => .junk
 | x :: xs => match i with
  | 0 => x
  | i + 1 => getT xs i
def setT (l : List SV) (i : Nat) (v : SV) : List SV :=
 match l with
 | [] => []
 | x :: xs => match i with
  | 0 => v :: xs
  | i + 1 => x :: setT xs i v
def setK (l : List SV) (i : Nat) (v : SV) (k : List SV → α) : α :=
 match l with
 | [] => k []
 | x :: xs => match i with
  | 0 => k (v :: xs)
  | i + 1 => setK xs i v (fun ys => k (x :: ys))
theorem setK_eq (l : List SV) (i : Nat) (v : SV) (k : List SV → α) : setK l i v k = k (setT l i v) := by
 induction l generalizing i k with
 | nil => rfl
 | cons x xs ih => cases i with
  | zero => rfl
  | succ i => simp only [setK, setT]; rw [ih]
def look (rs : List (Id × Res)) (r : Id) : Option Res :=
 match rs with
 | [] => none
 | (id, x) :: es => bif id.beq r then some x else look es r
def putR (rs : List (Id × Res)) (r : Id) (x : Option Res) : List (Id × Res) :=
 match rs with
 | [] => match x with
  | some y => [(r, y)]
  | none => []
 | (id, y) :: es => bif id.beq r then (match x with | some z => (id, z) :: es | none => putR es r none) else (id, y) :: putR es r x
def putRK (rs : List (Id × Res)) (r : Id) (x : Option Res) (k : List (Id × Res) → α) : α :=
 match rs with
 | [] => match x with
  | some y => k [(r, y)]
  | none => k []
 | (id, y) :: es => bif id.beq r then (match x with | some z => k ((id, z) :: es) | none => putRK es r none k) else putRK es r x (fun es' => k ((id, y) :: es'))
theorem putRK_eq (rs : List (Id × Res)) (r : Id) (x : Option Res) (k : List (Id × Res) → α) : putRK rs r x k = k (putR rs r x) := by
 induction rs generalizing x k with
 | nil => cases x <;> rfl
 | cons e es ih =>
  obtain ⟨id, y⟩ := e
  simp only [putRK, putR]
  cases id.beq r with
  | true => cases x with
   | none => simp only [cond_true]; rw [ih]
   | some z => rfl
  | false => simp only [cond_false]; rw [ih]
def puts (rs : List (Id × Res)) : List (Id × Option Res) → List (Id × Res)
 | [] => rs
 | (r, x) :: us => puts (putR rs r x) us
def putsK (rs : List (Id × Res)) : List (Id × Option Res) → (List (Id × Res) → α) → α
 | [], k => k rs
 | (r, x) :: us, k => putRK rs r x (fun rs' => putsK rs' us k)
theorem putsK_eq (us : List (Id × Option Res)) (rs : List (Id × Res)) (k : List (Id × Res) → α) : putsK rs us k = k (puts rs us) := by
 induction us generalizing rs with
 | nil => rfl
 | cons u us ih => simp only [putsK, puts]; rw [putRK_eq, ih]
end
def At.size : At → Nat
 | .d T _ _ => T.size
 | _ => 1
def takeA (l : List At) (off n : Nat) : Option (List At) :=
 match l with
 | [] => match off, n with
  | 0, 0 => some []
  | _, _ => none
 | a :: r => match off with
  | 0 => match n with
   | 0 => some []
   | _ + 1 => bif Nat.ble a.size n then (match takeA r 0 (n - a.size) with | some y => some (a :: y) | none => none) else none
  | _ + 1 => bif Nat.ble a.size off then takeA r (off - a.size) n else none
def putA (l : List At) (off : Nat) (vs : List At) : Option (List At) :=
 match l with
 | [] => match off, vs with
  | 0, [] => some []
  | _, _ => none
 | a :: r => match off with
  | 0 => match vs with
   | [] => some (a :: r)
   | v :: vs => bif Nat.beq a.size v.size then (match putA r 0 vs with | some y => some (v :: y) | none => none) else none
  | _ + 1 => bif Nat.ble a.size off then (match putA r (off - a.size) vs with | some y => some (a :: y) | none => none) else none
def pF : Fl := .all .p
def atomsOf : (T : Ty) → Fl → T.den → List At
 | .pr a b, f, x => atomsOf a f.l x.1 ++ atomsOf b f.r x.2
 | .int k, _, x => [.d (.int k) pF x]
 | .bool, _, x => [.d .bool pF x]
 | .str, _, x => [.d .str pF x]
 | .sl e, f, x => [.d (.sl e) f x]
 | .arr n e, _, x => [.d (.arr n e) pF x]
 | .pt, _, _ => [.nilp]
 | .er, _, x => [.d .er pF x]
def zeroOf : Ty → List At
 | .pr a b => zeroOf a ++ zeroOf b
 | .int k => [.d (.int k) pF (0 : Int)]
 | .bool => [.d .bool pF false]
 | .str => [.d .str pF ([] : List UInt8)]
 | .sl _ => [.nils]
 | .arr n e => [.d (.arr n e) pF (List.replicate n e.dflt)]
 | .pt => [.nilp]
 | .er => [.d .er pF (0 : Nat)]
def openOf : (T : Ty) → Fl → T.den → Id → List At × List (Id × Option Res)
 | .pr a b, f, x, n => match openOf a f.l x.1 n with
  | (l, r) => match openOf b f.r x.2 (n.plus a.size) with
   | (l', r') => (l ++ l', r ++ r')
 | .sl e, f, x, n => match f.hd with
  | .w => ([.own n], [(n, some (.sl e f.el x))])
  | _ => ([.d (.sl e) f x], [])
 | .int k, _, x, _ => ([.d (.int k) pF x], [])
 | .bool, _, x, _ => ([.d .bool pF x], [])
 | .str, _, x, _ => ([.d .str pF x], [])
 | .arr k e, _, x, _ => ([.d (.arr k e) pF x], [])
 | .pt, _, _, _ => ([.nilp], [])
 | .er, _, x, _ => ([.d .er pF x], [])
def partOf : (T : Ty) → T.den → (off : Nat) → (T' : Ty) → Option T'.den
 | .pr a b, x, off, T' => bif Nat.beq off 0 && Ty.beq (.pr a b) T' then some (tcast (.pr a b) T' x)
   else bif Nat.blt off a.size then partOf a x.1 off T' else partOf b x.2 (off - a.size) T'
 | T, x, off, T' => bif Nat.beq off 0 && Ty.beq T T' then some (tcast T T' x) else none
def partFl : (T : Ty) → Fl → (off : Nat) → (T' : Ty) → Option Fl
 | .pr a b, f, off, T' => bif Nat.beq off 0 && Ty.beq (.pr a b) T' then some f
   else bif Nat.blt off a.size then partFl a f.l off T' else partFl b f.r (off - a.size) T'
 | T, f, off, T' => bif Nat.beq off 0 && Ty.beq T T' then some f else none
def partSet : (T : Ty) → T.den → (off : Nat) → (T' : Ty) → T'.den → Option T.den
 | .pr a b, x, off, T', y => bif Nat.beq off 0 && Ty.beq (.pr a b) T' then some (tcast T' (.pr a b) y)
   else bif Nat.blt off a.size then (match partSet a x.1 off T' y with | some z => some (z, x.2) | none => none)
   else (match partSet b x.2 (off - a.size) T' y with | some z => some (x.1, z) | none => none)
 | T, _, off, T', y => bif Nat.beq off 0 && Ty.beq T T' then some (tcast T' T y) else none
def fieldOf {α : Type} : (T : Ty) → Fl → (n f : Nat) → T.den → ((T' : Ty) → Fl → T'.den → α) → α
 | T, F, 0, _, x, k => k T F x
 | T, F, 1, _, x, k => k T F x
 | .pr a _, F, _ + 2, 0, x, k => k a F.l x.1
 | .pr _ b, F, n + 2, f + 1, x, k => fieldOf b F.r (n + 1) f x.2 k
 | T, F, _ + 2, _, x, k => k T F x
def fieldTy : (T : Ty) → Fl → (n f off : Nat) → Ty × Fl × Nat
 | T, F, 0, _, off => (T, F, off)
 | T, F, 1, _, off => (T, F, off)
 | .pr a _, F, _ + 2, 0, off => (a, F.l, off)
 | .pr a b, F, n + 2, f + 1, off => fieldTy b F.r (n + 1) f (off + a.size)
 | T, F, _ + 2, _, off => (T, F, off)
def fieldOff (T : Ty) (n f : Nat) : Nat := (fieldTy T pF n f 0).2.2
structure TE where
 t : TypeId
 T : Ty
 ag : Bool
 nf : Nat
 el : TypeId
 by_ : Nat
 fts : List TypeId
abbrev TT := List TE
def ttOf : TT → TypeId → Option TE
 | [], _ => none
 | e :: es, t => bif Nat.beq e.t t then some e else ttOf es t
structure Pk (β : Type) where
 x : β
 r : List At
 ids : List Id
 bw : List Id
def packEach {β : Type} (p : List At → Req (Pk β)) : List (List At) → Req (List β × List Id × List Id)
 | [] => .ok ([], [], [])
 | c :: cs => (p c).bind fun x => match x with
  | ⟨y, [], ids, b⟩ => (packEach p cs).bind fun z => match z with
   | (ys, ids', b') => .ok (y :: ys, ids ++ ids', b ++ b')
  | _ => .fail
def pack : (e : Ty) → Fl → List At → Req (Pk e.den)
 | .pr a b, f, l => (pack a f.l l).bind fun x => match x with
  | ⟨y, r, ids, w⟩ => (pack b f.r r).bind fun z => match z with
   | ⟨y', r', ids', w'⟩ => .ok ⟨(y, y'), r', ids ++ ids', w ++ w'⟩
 | .int k, _, l => match l with
  | .d (.int k') _ n :: r => bif Nat.beq (kindNo k) (kindNo k') then .ok ⟨n, r, [], []⟩ else .fail
  | _ => .fail
 | .bool, _, l => match l with
  | .d .bool _ b :: r => .ok ⟨b, r, [], []⟩
  | .kb b :: r => .ok ⟨b, r, [], []⟩
  | _ => .fail
 | .str, _, l => match l with
  | .d .str _ s :: r => .ok ⟨s, r, [], []⟩
  | _ => .fail
 | .arr n e, _, l => match l with
  | .d T _ x :: r => bif Ty.beq T (.arr n e) then .ok ⟨tcast T (.arr n e) x, r, [], []⟩ else .fail
  | _ => .fail
 | .pt, _, l => match l with
  | .nilp :: r => .ok ⟨(), r, [], []⟩
  | _ => .fail
 | .er, _, l => match l with
  | .d .er _ x :: r => .ok ⟨x, r, [], []⟩
  | _ => .fail
 | .sl e, f, l => bif !(f.hd.isO || e.noO f.el) then .fail else match l with
  | .vsl id off n sz :: r => .need id fun R => match f.hd with
   | .b => (match varOf R with
    | some cs => (match takeA cs off (n * sz) with
     | some [.d (.arr n' e') _ x] => bif Ty.beq e' e && (Nat.beq n' n && (Nat.beq sz e.size && Nat.ble n 1024)) then .ok ⟨tcast (.sl e') (.sl e) x, r, [], [id]⟩ else .fail
     | _ => .fail)
    | none => .fail)
   | _ => .fail
  | .d T F x :: r => bif Ty.beq T (.sl e) && flR Fo.le (.sl e) F f then .ok ⟨tcast T (.sl e) x, r, [], []⟩ else .fail
  | .nils :: r => .ok ⟨([] : List e.den), r, [], []⟩
  | .own id :: r => .need id fun R => match f.hd with
   | .w => (match R with
    | some (.sl e' f' x) => bif Ty.beq e' e && flR Fo.le e f' f.el then .ok ⟨tcast (.sl e') (.sl e) x, r, [id], []⟩ else .fail
    | some (.slo e' f' x j cs) => bif Ty.beq e' e && flR Fo.le e f' f.el then (pack e f.el cs).bind fun y => match y with
      | ⟨z, [], ids, w⟩ => .ok ⟨((tcast (.sl e') (.sl e) x : List e.den).set j z : List e.den), r, id :: ids, w⟩
      | _ => .fail else .fail
    | some (.els sz cs) => bif Nat.beq sz e.size then (packEach (pack e f.el) cs).bind fun y => match y with
      | (ys, ids, w) => .ok ⟨ys, r, id :: ids, w⟩ else .fail
    | _ => .fail)
   | .b => (match R with
    | some (.sl e' f' x) => bif Ty.beq e' e && flR Fo.lend e f' f.el then .ok ⟨tcast (.sl e') (.sl e) x, r, [], [id]⟩ else .fail
    | some (.slo e' f' x j cs) => bif Ty.beq e' e && flR Fo.lend e f' f.el then (pack e f.el cs).bind fun y => match y with
      | ⟨z, [], [], w⟩ => .ok ⟨((tcast (.sl e') (.sl e) x : List e.den).set j z : List e.den), r, [], id :: w⟩
      | _ => .fail else .fail
    | some (.els sz cs) => bif Nat.beq sz e.size then (packEach (pack e f.el) cs).bind fun y => match y with
      | (ys, [], w) => .ok ⟨ys, r, [], id :: w⟩
      | _ => .fail else .fail
    | _ => .fail)
   | .p => .fail
  | .sub id lo hi sz inn :: r => .need id fun R => match f.hd with
   | .b => (match R with
    | some (.sl e' f' x) => bif Ty.beq e' e && flR Fo.lend e f' f.el && (Nat.beq sz e.size && inn) then .ok ⟨((tcast (.sl e') (.sl e) x : List e.den).take hi).drop lo, r, [], [id]⟩ else .fail
    | _ => .fail)
   | _ => .fail
  | _ => .fail
def hasN (l : List Id) (n : Id) : Bool := match l with | [] => false | x :: xs => x.beq n || hasN xs n
def nodupN (l : List Id) : Bool := match l with | [] => true | x :: xs => !hasN xs x && nodupN xs
def disjN (l m : List Id) : Bool := match l with | [] => true | x :: xs => !hasN m x && disjN xs m
def emptyN (l : List Id) : Bool := match l with | [] => true | _ :: _ => false
def drops (ids : List Id) : List (Id × Option Res) := ids.map fun i => (i, none)
structure Eff where
 dst : SV
 upd : List (Id × Option Res)
 vc : List Prop
def Eff.val (x : SV) : Req Eff := .ok ⟨x, [], []⟩
def atom (a : At) : SV := .v false [a]
def SV.ofTy (ag : Bool) (l : List At) : Req SV := match ag with
 | true => .ok (.v true l)
 | false => match l with
  | [a] => .ok (.v false [a])
  | _ => .fail
def sInt (k : IntKind) (n : Int) : SV := .v false [.d (.int k) pF n]
def sBool (b : Bool) : SV := .v false [.d .bool pF b]
def sStr (s : Str) : SV := .v false [.d .str pF s]
def inR (k : IntKind) (n : Int) : Prop := k.min ≤ n ∧ n ≤ k.max
def maxL : Nat := 140737488355328
def bitsOp (op : BinOp) (k : IntKind) (x y : Int) : Int :=
 match op with
 | .and => k.wrap (BitVec.ofInt k.bits x &&& BitVec.ofInt k.bits y).toNat
 | .or => k.wrap (BitVec.ofInt k.bits x ||| BitVec.ofInt k.bits y).toNat
 | .xor => k.wrap (BitVec.ofInt k.bits x ^^^ BitVec.ofInt k.bits y).toNat
 | _ => k.wrap (BitVec.ofInt k.bits x &&& ~~~ BitVec.ofInt k.bits y).toNat
def sBinI (op : BinOp) (k k' : IntKind) (a b : Int) : Req Eff :=
 match op with
 | .shr => .ok ⟨sInt k (a.fdiv (2 ^ (min b.toNat k.bits))), [], [0 ≤ b]⟩
 | .shl => .ok ⟨sInt k (a * 2 ^ (min b.toNat k.bits)), [], [0 ≤ b, inR k (a * 2 ^ (min b.toNat k.bits))]⟩
 | op => bif Nat.beq (kindNo k) (kindNo k') then
  (match op with
  | .add => (match k with
   | .u8 => .ok ⟨sInt .u8 ((a + b) % 256), [], []⟩
   | k => .ok ⟨sInt k (a + b), [], [inR k (a + b)]⟩)
  | .sub => .ok ⟨sInt k (a - b), [], [inR k (a - b)]⟩
  | .mul => .ok ⟨sInt k (a * b), [], [inR k (a * b)]⟩
  | .quo => .ok ⟨sInt k (a.tdiv b), [], [b ≠ 0, inR k (a.tdiv b)]⟩
  | .rem => .ok ⟨sInt k (a.tmod b), [], [b ≠ 0]⟩
  | .and => .ok ⟨sInt k (bitsOp .and k a b), [], []⟩
  | .or => .ok ⟨sInt k (bitsOp .or k a b), [], []⟩
  | .xor => .ok ⟨sInt k (bitsOp .xor k a b), [], []⟩
  | .andNot => .ok ⟨sInt k (bitsOp .andNot k a b), [], []⟩
  | .eql => .ok ⟨sBool (decide (a = b)), [], []⟩
  | .neq => .ok ⟨sBool (!decide (a = b)), [], []⟩
  | .lss => .ok ⟨sBool (decide (a < b)), [], []⟩
  | .leq => .ok ⟨sBool (decide (a ≤ b)), [], []⟩
  | .gtr => .ok ⟨sBool (decide (b < a)), [], []⟩
  | .geq => .ok ⟨sBool (decide (b ≤ a)), [], []⟩
  | _ => .fail) else .fail
def sBinS (op : BinOp) (a b : Str) : Req Eff :=
 match op with
 | .add => .ok ⟨sStr (a ++ b), [], [a.length + b.length ≤ maxL]⟩
 | .eql => .ok ⟨sBool (decide (a = b)), [], []⟩
 | .neq => .ok ⟨sBool (!decide (a = b)), [], []⟩
 | _ => .fail
def sBinB (op : BinOp) (a b : Bool) : Req Eff :=
 match op with
 | .eql => .ok ⟨sBool (a == b), [], []⟩
 | .neq => .ok ⟨sBool (!(a == b)), [], []⟩
 | _ => .fail
def isBoolT (tt : TT) (t : TypeId) : Bool := match ttOf tt t with
 | some ⟨_, .bool, false, _, _, _, _⟩ => true
 | _ => false
def isStrT (tt : TT) (t : TypeId) : Bool := match ttOf tt t with
 | some ⟨_, .str, false, _, _, _, _⟩ => true
 | _ => false
def slT (tt : TT) (t : TypeId) : Option (Ty × TypeId × Nat) := match ttOf tt t with
 | some ⟨_, .sl _, false, _, el, _, _⟩ => (match ttOf tt el with
  | some ⟨_, e, _, _, _, by_, _⟩ => some (e, el, by_)
  | none => none)
 | _ => none
def isSlT (tt : TT) (t : TypeId) : Bool := match slT tt t with
 | some _ => true
 | none => false
def sBin (tt : TT) (xT : TypeId) (op : BinOp) (x y : SV) : Req Eff :=
 match x, y with
 | .v false [.d T _ a], .v false [.d T' _ b] => (match T, a, T', b with
  | .int k, a, .int k', b => sBinI op k k' a b
  | .str, a, .str, b => sBinS op a b
  | .bool, a, .bool, b => bif isBoolT tt xT then sBinB op a b else .fail
  | _, _, _, _ => .fail)
 | _, _ => .fail
def sLoad (tt : TT) (t : TypeId) (idb : Id) (x : SV) : Req Eff :=
 match ttOf tt t with
 | none => .fail
 | some ⟨_, T0, ag, _, _, _, _⟩ => match x with
  | .v false [.ptr id off] => .need id fun R => match varOf R with
   | some cs => match takeA cs off T0.size with
    | some l => (SV.ofTy ag l).bind fun v => Eff.val v
    | none => .fail
   | none => .fail
  | .v false [.rpt _ T F y] => bif Ty.beq T T0 then (SV.ofTy ag (atomsOf T F y)).bind fun v => Eff.val v else .fail
  | .v false [.opt id i sz off T] => bif Ty.beq T T0 then .need id fun R => match R with
   | some (.sl e f y) => bif Nat.beq sz e.size then (match partFl e f off T with
    | none => .fail
    | some F => match T.noO F with
    | true => match partOf e (y.getD i e.dflt) off T with
     | some z => (SV.ofTy ag (atomsOf T F z)).bind fun v => .ok ⟨v, [], [i < y.length]⟩
     | none => .fail
    | false => match openOf e f (y.getD i e.dflt) idb with
     | (cs, us) => match takeA cs off T.size with
      | some l => (SV.ofTy ag l).bind fun v => .ok ⟨v, (id, some (.slo e f y i cs)) :: us, [i < y.length]⟩
      | none => .fail) else .fail
   | some (.slo e _ _ j cs) => bif Nat.beq sz e.size then (match takeA cs off T.size with
    | some l => (SV.ofTy ag l).bind fun v => .ok ⟨v, [], [i = j]⟩
    | none => .fail) else .fail
   | some (.els sz' css) => bif Nat.beq sz sz' && (Nat.beq off 0 && Nat.beq T.size sz) then (packEach (pack T pF) css).bind fun p => match p with
    | (ys, [], []) => (SV.ofTy ag (atomsOf T pF (ys.getD i T.dflt))).bind fun v => .ok ⟨v, [], [i < ys.length]⟩
    | _ => .fail else .fail
   | some (.bys l) => bif Nat.beq sz 1 && (Nat.beq off 0 && Ty.beq T (.int .u8)) then (match ag with
    | false => .ok ⟨sInt .u8 (l.getD i 0), [], [i < l.length]⟩
    | true => .fail) else .fail
   | _ => .fail else .fail
  | _ => .fail
def sizeL : List At → Nat
 | [] => 0
 | a :: r => a.size + sizeL r
def fitsT (tt : TT) (t : TypeId) (y : SV) : Bool := match ttOf tt t, y with
 | some ⟨_, T, ag, _, _, _, _⟩, .v ag' l => (ag == ag') && Nat.beq T.size (sizeL l)
 | _, _ => false
def sStore (idb : Id) (x y : SV) : Req Eff :=
 match x, y with
 | .v false [.ptr id off], .v _ l => .need id fun R => match R with
  | some (.var cs) => match putA cs off l with
   | some cs' => .ok ⟨.junk, [(id, some (.var cs'))], []⟩
   | none => .fail
  | _ => .fail
 | .v false [.opt id i sz off T], .v _ l => .need id fun R => match R with
  | some (.sl e f z) => bif Nat.beq sz e.size then (match partFl e f off T with
   | none => .fail
   | some F => match T.noO F with
   | true => (pack T F l).bind fun p => match p with
    | ⟨q, [], [], []⟩ => match partSet e (z.getD i e.dflt) off T q with
     | some z' => .ok ⟨.junk, [(id, some (.sl e f (z.set i z')))], [i < z.length]⟩
     | none => .fail
    | _ => .fail
   | false => match openOf e f (z.getD i e.dflt) idb with
    | (cs, us) => match putA cs off l with
     | some cs' => .ok ⟨.junk, (id, some (.slo e f z i cs')) :: us, [i < z.length]⟩
     | none => .fail) else .fail
  | some (.slo e f z j cs) => bif Nat.beq sz e.size then (match putA cs off l with
   | some cs' => .ok ⟨.junk, [(id, some (.slo e f z j cs'))], [i = j]⟩
   | none => .fail) else .fail
  | some (.bys z) => bif Nat.beq sz 1 && Nat.beq off 0 then (match l with
   | [.d (.int .u8) _ n] => .ok ⟨.junk, [(id, some (.bys (z.set i n)))], [i < z.length]⟩
   | _ => .fail) else .fail
  | _ => .fail
 | _, _ => .fail
def sFieldAddr (tt : TT) (s : TypeId) (f : Nat) (x : SV) : Req Eff :=
 match ttOf tt s with
 | none => .fail
 | some ⟨_, T0, _, nf, _, _, _⟩ => bif Nat.blt f nf then match x with
  | .v false [.ptr id off] => match fieldTy T0 pF nf f off with
   | (_, _, off') => Eff.val (atom (.ptr id off'))
  | .v false [.rpt o T F y] => bif Ty.beq T T0 then fieldOf T F nf f y fun T' F' y' => Eff.val (atom (.rpt o T' F' y')) else .fail
  | .v false [.opt id i sz off T] => bif Ty.beq T T0 then (match fieldTy T pF nf f off with
   | (T', _, off') => Eff.val (atom (.opt id i sz off' T'))) else .fail
  | _ => .fail
  else .fail
def sIndexAddr (tt : TT) (t : TypeId) (x i : SV) : Req Eff :=
 match slT tt t with
 | none => .fail
 | some (e0, _, _) => match x, i with
  | .v false [.d T F l], .v false [.d (.int _) _ n] => (match T, l with
   | .sl e, l => bif Ty.beq e e0 then .ok ⟨atom (.rpt F.hd e F.el (List.getD l n.toNat e.dflt)), [], [0 ≤ n ∧ n < (List.length l : Int)]⟩ else .fail
   | _, _ => .fail)
  | .v false [.own id], .v false [.d (.int _) _ n] => .need id fun R => match R with
   | some (.sl e f l) => bif Ty.beq e e0 then .ok ⟨atom (.opt id n.toNat e.size 0 e), [], [0 ≤ n ∧ n < (l.length : Int)]⟩ else .fail
   | some (.slo e f l _ _) => bif Ty.beq e e0 then .ok ⟨atom (.opt id n.toNat e.size 0 e), [], [0 ≤ n ∧ n < (l.length : Int)]⟩ else .fail
   | some (.els sz l) => bif Nat.beq sz e0.size then .ok ⟨atom (.opt id n.toNat sz 0 e0), [], [0 ≤ n ∧ n < (l.length : Int)]⟩ else .fail
   | some (.bys l) => bif Ty.beq e0 (.int .u8) then .ok ⟨atom (.opt id n.toNat 1 0 e0), [], [0 ≤ n ∧ n < (l.length : Int)]⟩ else .fail
   | _ => .fail
  | _, _ => .fail
def sIndex (tt : TT) (t : TypeId) (x i : SV) : Req Eff :=
 match x, i with
 | .v false [.d .str _ l], .v false [.d (.int _) _ n] => bif isStrT tt t then .ok ⟨sInt .u8 ((List.getD l n.toNat 0).toNat : Int), [], [0 ≤ n ∧ n < (List.length l : Int)]⟩ else .fail
 | _, _ => .fail
def buildFrom (T : Ty) (nf : Nat) : List (Nat × SV) → List At → Option (List At)
 | [], l => some l
 | (f, .v _ v) :: ps, l => bif Nat.blt f nf && Nat.beq (sizeL v) (fieldTy T pF nf f 0).1.size then (match putA l (fieldOff T nf f) v with
  | some l' => buildFrom T nf ps l'
  | none => none) else none
 | _ :: _, _ => none
def ftAt : List TypeId → Nat → Option TypeId
 | [], _ => none
 | t :: _, 0 => some t
 | _ :: r, n + 1 => ftAt r n
def sBuild (tt : TT) (t : TypeId) (fs : List Nat) (vals : List SV) : Req Eff :=
 match ttOf tt t with
 | some ⟨_, T, true, nf, _, _, _⟩ => match buildFrom T nf (fs.zip vals) (zeroOf T) with
  | some l => .ok ⟨.v true l, [], []⟩
  | none => .fail
 | _ => .fail
def buildEls (sz : Nat) : List (Nat × SV) → Nat → Option (List (List At))
 | [], _ => some []
 | (i, .v _ v) :: ps, j => bif Nat.beq i j && Nat.beq (sizeL v) sz then (match buildEls sz ps (j + 1) with | some r => some (v :: r) | none => none) else none
 | _ :: _, _ => none
def sBuildSlice (idb : Id) (sz len : Nat) (fs : List Nat) (vals : List SV) : Req Eff :=
 bif Nat.beq len fs.length && Nat.ble (len * sz) 16777216 then
  match buildEls sz (fs.zip vals) 0 with
  | some l => .ok ⟨atom (.own idb), [(idb, some (.els sz l))], []⟩
  | none => .fail
 else .fail
def sField (tt : TT) (t : TypeId) (f : Nat) (x : SV) : Req Eff :=
 match ttOf tt t with
 | none => .fail
 | some ⟨_, T, _, nf, _, _, fts⟩ => bif Nat.blt f nf then match x, ftAt fts f with
  | .v true l, some ft => match ttOf tt ft, takeA l (fieldOff T nf f) (fieldTy T pF nf f 0).1.size with
   | some ⟨_, _, ag, _, _, _, _⟩, some m => (SV.ofTy ag m).bind fun v => Eff.val v
   | _, _ => .fail
  | _, _ => .fail
  else .fail
def sLen (tt : TT) (t : TypeId) (x : SV) : Req Eff :=
 match x with
 | .v false [.d T _ l] => (match T, l with
  | .str, l => bif isStrT tt t then Eff.val (sInt .i64 (List.length l : Int)) else .fail
  | .sl _, l => bif isSlT tt t then Eff.val (sInt .i64 (List.length l : Int)) else .fail
  | _, _ => .fail)
 | .v false [.nils] => bif isSlT tt t then Eff.val (sInt .i64 0) else .fail
 | .v false [.own id] => bif isSlT tt t then .need id fun R => match R with
  | some (.sl _ _ l) => Eff.val (sInt .i64 (l.length : Int))
  | some (.slo _ _ l _ _) => Eff.val (sInt .i64 (l.length : Int))
  | some (.els _ l) => Eff.val (sInt .i64 (l.length : Int))
  | _ => .fail else .fail
 | _ => .fail
def sAppendTo (by_ : Nat) (idb : Id) (e : Ty) (f : Fl) (l : List e.den) (id : Id) (y : SV) : Req Eff :=
 match y with
 | .v false [.nils] => .ok ⟨atom (.own idb), [(id, none), (idb, some (.sl e f l))], []⟩
 | .v false [.d T F m] => (match T, m with
  | .sl e', m => bif Ty.beq e' e && (e.noO f && flR Fo.le e F.el f) then
    .ok ⟨atom (.own idb), [(id, none), (idb, some (.sl e f (l ++ (tcast (.sl e') (.sl e) m : List e.den))))], [(l.length + List.length m) * by_ ≤ maxL]⟩ else .fail
  | _, _ => .fail)
 | .v false [.own id2] => .need id2 fun R => match R with
  | some (.sl e' f' m) => bif Ty.beq e' e && (flR Fo.le e f' f && !(id.beq id2)) then
    .ok ⟨atom (.own idb), [(id, none), (id2, none), (idb, some (.sl e f (l ++ (tcast (.sl e') (.sl e) m : List e.den))))], [(l.length + m.length) * by_ ≤ maxL]⟩ else .fail
  | some (.els sz2 cs) => bif Nat.beq sz2 e.size then (packEach (pack e f) cs).bind fun p => match p with
   | (m, ids, []) => bif nodupN (id :: id2 :: ids) then .ok ⟨atom (.own idb), (id, none) :: (id2, none) :: drops ids ++ [(idb, some (.sl e f (l ++ m)))], [(l.length + m.length) * by_ ≤ maxL]⟩ else .fail
   | _ => .fail else .fail
  | _ => .fail
 | _ => .fail
def sAppendEls (by_ : Nat) (e0 : Ty) (idb : Id) (l : List (List At)) (ids : List Id) (y : SV) : Req Eff :=
 match y with
 | .v false [.nils] => .ok ⟨atom (.own idb), drops ids ++ [(idb, some (.els e0.size l))], []⟩
 | .v false [.d T F m] => (match T, m with
  | .sl e, m => bif Ty.beq e e0 && e.noO F.el then (packEach (pack e F.el) l).bind fun p => match p with
   | (l', ids', []) => bif nodupN (ids ++ ids') then .ok ⟨atom (.own idb), drops ids ++ drops ids' ++ [(idb, some (.sl e F.el (l' ++ m)))], [(l'.length + List.length m) * by_ ≤ maxL]⟩ else .fail
   | _ => .fail else .fail
  | _, _ => .fail)
 | .v false [.own id2] => .need id2 fun R => match R with
  | some (.sl e f m) => bif Ty.beq e e0 then (packEach (pack e f) l).bind fun p => match p with
   | (l', ids', []) => bif nodupN (id2 :: ids ++ ids') then .ok ⟨atom (.own idb), drops ids ++ drops ids' ++ [(id2, none), (idb, some (.sl e f (l' ++ m)))], [(l'.length + m.length) * by_ ≤ maxL]⟩ else .fail
   | _ => .fail else .fail
  | some (.els sz2 cs) => bif nodupN (id2 :: ids) && Nat.beq sz2 e0.size then .ok ⟨atom (.own idb), drops ids ++ [(id2, none), (idb, some (.els e0.size (l ++ cs)))], [(l.length + cs.length) * by_ ≤ maxL]⟩ else .fail
  | _ => .fail
 | _ => .fail
def sAppendSlo (by_ : Nat) (idb : Id) (e : Ty) (f : Fl) (l : List e.den) (j : Nat) (cs : List At) (id : Id) (y : SV) : Req Eff :=
 match y with
 | .v false [.own id2] => .need id2 fun R => match R with
  | some (.els sz2 css) => bif Nat.beq sz2 e.size then (pack e f cs).bind fun q => match q with
   | ⟨z, [], ids1, []⟩ => (packEach (pack e f) css).bind fun p => match p with
    | (m, ids, []) => bif nodupN (id :: id2 :: (ids1 ++ ids)) then .ok ⟨atom (.own idb), (id, none) :: (id2, none) :: drops ids1 ++ drops ids ++ [(idb, some (.sl e f (l.set j z ++ m)))], [(l.length + m.length) * by_ ≤ maxL]⟩ else .fail
    | _ => .fail
   | _ => .fail else .fail
  | _ => .fail
 | _ => .fail
def sAppend (tt : TT) (t t2 : TypeId) (idb : Id) (x y : SV) : Req Eff :=
 match slT tt t with
 | none => .fail
 | some (e0, _, by_) => bif !(isSlT tt t2 && Nat.blt 0 by_) then .fail else match x with
  | .v false [.nils] => sAppendEls by_ e0 idb [] [] y
  | .v false [.own id] => .need id fun R => match R with
   | some (.sl e f l) => bif Ty.beq e e0 then sAppendTo by_ idb e f l id y else .fail
   | some (.els sz l) => bif Nat.beq sz e0.size then sAppendEls by_ e0 idb l [id] y else .fail
   | some (.slo e f l j cs) => bif Ty.beq e e0 then sAppendSlo by_ idb e f l j cs id y else .fail
   | _ => .fail
  | .v false [.sub id lo hi sz inn] => (match y with
   | .v false [.sub id2 lo2 hi2 sz2 inn2] => bif id.beq id2 && (Nat.beq lo 0 && (inn && inn2)) then .need id fun R => match R with
    | some (.sl e f l) => bif Ty.beq e e0 && (Nat.beq sz e.size && Nat.beq sz2 e.size) then
     .ok ⟨atom (.own idb), [(id, none), (idb, some (.sl e f (l.take hi ++ (l.take hi2).drop lo2))), (idb.plus 1, some (.room idb l.length))], [hi ≤ lo2]⟩ else .fail
    | _ => .fail else .fail
   | _ => .fail)
  | _ => .fail
def sliceL {β : Type} (l : List β) : Option Int → Option Int → List β × List Prop
 | some a, some b => ((l.take b.toNat).drop a.toNat, [0 ≤ a ∧ a ≤ b ∧ b ≤ (l.length : Int)])
 | none, some b => (l.take b.toNat, [0 ≤ b ∧ b ≤ (l.length : Int)])
 | some a, none => (l.drop a.toNat, [0 ≤ a ∧ a ≤ (l.length : Int)])
 | none, none => (l, [])
def asI : Option SV → Option (Option Int)
 | none => some none
 | some (.v false [.d (.int _) _ n]) => some (some n)
 | _ => none
def sSub (id : Id) (sz top n : Nat) (inn : Bool) : Option Int → Option Int → Req Eff
 | none, none => .ok ⟨.v false [.sub id 0 n sz inn], [], []⟩
 | some a, none => .ok ⟨.v false [.sub id a.toNat n sz inn], [], [0 ≤ a ∧ a ≤ (n : Int)]⟩
 | none, some b => .ok ⟨.v false [.sub id 0 b.toNat sz inn], [], [0 ≤ b ∧ b ≤ (top : Int)]⟩
 | some a, some b => .ok ⟨.v false [.sub id a.toNat b.toNat sz inn], [], [0 ≤ a ∧ a ≤ b ∧ b ≤ (top : Int)]⟩
def sSlice3 (tt : TT) (t : TypeId) (x a b m : SV) : Req Eff :=
 match x, a, b, m with
 | .v false [.own id], .v false [.d (.int _) _ a], .v false [.d (.int _) _ b], .v false [.d (.int _) _ m] => (match slT tt t with
  | some _ => .need id fun R => match R with
   | some (.sl _ _ l) => .ok ⟨.junk, [], [0 ≤ a ∧ a ≤ b ∧ b ≤ m ∧ m ≤ (l.length : Int)]⟩
   | _ => .fail
  | none => .fail)
 | _, _, _, _ => .fail
def sClear (tt : TT) (t : TypeId) (x : SV) : Req Eff :=
 match slT tt t with
 | none => .fail
 | some (e0, _, _) => match x with
  | .v false [.sub id lo _ sz _] => .need id fun R => match R with
   | some (.sl e f l) => bif Ty.beq e e0 && Nat.beq sz e.size then .ok ⟨.junk, [(id, some (.sl e f l))], [l.length ≤ lo]⟩ else .fail
   | _ => .fail
  | _ => .fail
def sSlice (tt : TT) (t : TypeId) (x : SV) (lo hi : Option SV) : Req Eff :=
 match asI lo, asI hi with
 | some a, some b => match x with
  | .v false [.d T F l] => (match T, l with
   | .str, l => bif isStrT tt t then (match sliceL (β := UInt8) l a b with
    | (m, vc) => .ok ⟨sStr m, [], vc⟩) else .fail
   | .sl e, l => (match slT tt t with
    | some (e0, _, _) => bif Ty.beq e e0 then (match sliceL (β := e.den) l a b with
     | (m, vc) => .ok ⟨.v false [.d (.sl e) F m], [], vc⟩) else .fail
    | none => .fail)
   | _, _ => .fail)
  | .v false [.own id] => (match slT tt t with
   | some (e0, _, _) => .need id fun R => match R with
    | some (.sl e _ l) => bif Ty.beq e e0 then .need (id.plus 1) fun R2 => match R2 with
     | some (.room i k) => bif i.beq id then sSub id e.size (bif Nat.ble l.length k then k else l.length) l.length false a b else .fail
     | _ => sSub id e.size l.length l.length true a b
     else .fail
    | _ => .fail
   | none => .fail)
  | _ => .fail
 | _, _ => .fail
def toBytes (s : Str) : List Int := s.map fun c => (c.toNat : Int)
def ofBytes (l : List Int) : Str := l.map fun n => UInt8.ofNat n.toNat
def isBytesT (tt : TT) (t : TypeId) : Bool := match slT tt t with
 | some (.int .u8, el, _) => (match ttOf tt el with
  | some ⟨_, _, false, _, _, _, _⟩ => true
  | _ => false)
 | _ => false
def dupT : TT → TypeId → Bool
 | [], _ => false
 | e :: es, t => bif Nat.beq e.t t then (match ttOf es t with | some _ => true | none => false) else dupT es t
def sConvert (tt : TT) (idb : Id) (src dst : TypeId) (x : SV) : Req Eff :=
 match ttOf tt src, ttOf tt dst with
 | some _, some ⟨_, T0, false, _, _, _, _⟩ => (match T0 with
  | .int k => (match x with
   | .v false [.d (.int _) _ n] => .ok ⟨sInt k n, [], [inR k n]⟩
   | _ => .fail)
  | .str => (match x with
   | .v false [.d T _ s] => (match T, s with
    | .str, s => Eff.val (sStr s)
    | .sl (.int .u8), l => bif isBytesT tt src then Eff.val (sStr (ofBytes l)) else .fail
    | _, _ => .fail)
   | .v false [.nils] => bif isBytesT tt src then Eff.val (sStr []) else .fail
   | .v false [.own id] => bif isBytesT tt src then .need id fun R => match R with
    | some (.bys l) => Eff.val (sStr (ofBytes l))
    | _ => (pack (.sl (.int .u8)) (.all .b) [.own id]).bind fun p => match p with
     | ⟨l, [], [], _⟩ => Eff.val (sStr (ofBytes l))
     | _ => .fail else .fail
   | _ => .fail)
  | .sl _ => (match x with
   | .v false [.d .str _ s] => bif isBytesT tt dst then (bif dupT tt dst then .ok ⟨atom (.own idb), [(idb, some (.bys (toBytes s)))], []⟩ else Eff.val (.v false [.d (.sl (.int .u8)) pF (toBytes s)])) else .fail
   | _ => .fail)
  | _ => .fail)
 | _, _ => .fail
def asB : SV → Option Bool
 | .v false [.d .bool _ b] => some b
 | .v false [.kb b] => some b
 | _ => none
def sPick (c a b : SV) : Req Eff :=
 match c with
 | .v false [.kb true] => Eff.val a
 | .v false [.kb false] => Eff.val b
 | .v false [.d .bool _ x] => match asB a, asB b with
  | some p, some q => Eff.val (sBool (bif x then p else q))
  | _, _ => .fail
 | _ => .fail
def sNot (x : SV) : Req Eff :=
 match x with
 | .v false [.kb b] => Eff.val (.v false [.kb (!b)])
 | .v false [.d .bool _ b] => Eff.val (sBool (!b))
 | _ => .fail
def sNeg (x : SV) : Req Eff :=
 match x with
 | .v false [.d (.int k) _ n] => .ok ⟨sInt k (-n), [], [inR k (-n)]⟩
 | _ => .fail
def nth {β : Type} : List β → Nat → Option β
 | [], _ => none
 | x :: _, 0 => some x
 | _ :: xs, n + 1 => nth xs n
def sExtract (x : SV) (i : Nat) : Req Eff :=
 match x with
 | .tup l => match nth l i with
  | some (ag, v) => Eff.val (.v ag v)
  | none => .fail
 | _ => .fail
def sNilCheck (x : SV) : Req Eff :=
 match x with
 | .v false [.ptr i o] => Eff.val (.v false [.ptr i o])
 | .v false [.opt i j z o T] => Eff.val (.v false [.opt i j z o T])
 | .v false [.rpt o T F y] => Eff.val (.v false [.rpt o T F y])
 | _ => .fail
def litNat : Operand → Option Nat
 | .const (.int _ (.ofNat n)) => some n
 | _ => none
def sMakeI (T : Ty) (by_ : Nat) (idb : Id) (len : Option Nat) (a b : Int) : Req Eff :=
 match len with
 | some m => bif Nat.blt 0 by_ then .ok ⟨atom (.own idb), [(idb, some (.els T.size (List.replicate m (zeroOf T))))], [a = (m : Int), a ≤ b, b * by_ ≤ maxL]⟩ else .fail
 | none => bif Nat.blt 0 by_ then .ok ⟨atom (.own idb), [(idb, some (.sl T (.all .w) (List.replicate a.toNat T.dflt)))], [0 ≤ a, a ≤ b, b * by_ ≤ maxL]⟩ else .fail
def sMake (tt : TT) (t : TypeId) (idb : Id) (len : Option Nat) (n c : SV) : Req Eff :=
 match slT tt t with
 | none => .fail
 | some (T, _, by_) => match n, c with
  | .v false [.d (.int _) _ a], .v false [.d (.int _) _ b] => sMakeI T by_ idb len a b
  | _, _ => .fail
abbrev MT := List (TypeId × TypeId × TypeId)
def mtOf : MT → TypeId → Option (TypeId × TypeId)
 | [], _ => none
 | (a, k, e) :: r, t => bif Nat.beq a t && !Nat.beq a k then some (k, e) else mtOf r t
def eqT : MT → TypeId → Bool
 | [], _ => false
 | (a, k, _) :: r, t => (Nat.beq a t && Nat.beq a k) || eqT r t
def keyPlain : Ty → Bool
 | .str => true
 | .int _ => true
 | _ => false
def keyEq : (K : Ty) → K.den → K.den → Bool
 | .str, x, y => decide ((x : List UInt8) = y)
 | .int _, x, y => decide ((x : Int) = y)
 | .pr a b, x, y => keyEq a x.1 y.1 && keyEq b x.2 y.2
 | _, _, _ => false
def mget (K : Ty) {V : Type} : List (K.den × V) → K.den → Option V
 | [], _ => none
 | p :: l, x => bif keyEq K x p.1 then some p.2 else mget K l x
def mset (K : Ty) {V : Type} : List (K.den × V) → K.den → V → List (K.den × V)
 | [], x, y => [(x, y)]
 | p :: l, x, y => bif keyEq K x p.1 then (x, y) :: l else p :: mset K l x y
def mapF : Fl := .all .b
def boolEq : Bool → Bool → Bool
 | true, b => b
 | false, b => !b
def wideF (tt : TT) (t : TypeId) (a : Ty) : Bool := match ttOf tt t with
 | some ⟨_, T, false, _, _, _, _⟩ => Ty.beq T a && (match a with
  | .str => true
  | .int .i64 => true
  | _ => false)
 | _ => false
def wideK (tt : TT) : List TypeId → Ty → Bool
 | [], _ => false
 | t :: ts, K => match ts with
  | [] => wideF tt t K
  | _ :: _ => match K with
   | .pr a b => wideF tt t a && wideK tt ts b
   | _ => false
def consec (T : Ty) (nf : Nat) : Nat → List TypeId → Bool
 | _, [] => true
 | i, _ :: r => Nat.beq (fieldOff T nf i) i && consec T nf (i + 1) r
def keyTy (tt : TT) (mt : MT) (te : TE) : Bool := match te with
 | ⟨_, K, false, _, _, _, _⟩ => keyPlain K
 | ⟨t, K, true, nf, _, _, fts⟩ => eqT mt t && (wideK tt fts K && consec K nf 0 fts)
def sMakeMap (tt : TT) (mt : MT) (t : TypeId) (idb : Id) : Req Eff :=
 match mtOf mt t with
 | none => .fail
 | some (k, e) => match ttOf tt k, ttOf tt e with
  | some te, some ⟨_, V, av, _, _, _, _⟩ => bif keyTy tt mt te && V.noO mapF then .ok ⟨atom (.own idb), [(idb, some (.mp te.ag av te.T V mapF []))], []⟩ else .fail
  | _, _ => .fail
def sMapUpdate (tt : TT) (mt : MT) (t : TypeId) (m k v : SV) : Req Eff :=
 match mtOf mt t with
 | none => .fail
 | some (kt, _) => match ttOf tt kt with
  | some te => (match m with
  | .v false [.own id] => .need id fun R => match R with
   | some (.mp ak av K V F l) => bif keyTy tt mt te && (Ty.beq te.T K && boolEq te.ag ak) then (match k, v with
    | .v ak' lk, .v av' lv => bif boolEq av' av && boolEq ak' ak then (pack K pF lk).bind fun p => match p with
     | ⟨x, [], [], []⟩ => (pack V F lv).bind fun q => match q with
      | ⟨y, [], [], []⟩ => .ok ⟨.junk, [(id, some (.mp ak av K V F (mset K l x y)))], []⟩
      | _ => .fail
     | _ => .fail else .fail
    | _, _ => .fail) else .fail
   | _ => .fail
  | _ => .fail)
  | _ => .fail
def sLookup (tt : TT) (mt : MT) (t : TypeId) (ok : Bool) (m k : SV) : Req Eff :=
 match mtOf mt t with
 | none => .fail
 | some (kt, et) => match ttOf tt kt, ttOf tt et with
  | some te, some ⟨_, V0, av0, _, _, _, _⟩ => (match m with
   | .v false [.own id] => .need id fun R => match R with
    | some (.mp ak av K V F l) => bif keyTy tt mt te && (Ty.beq te.T K && boolEq te.ag ak) && (Ty.beq V0 V && boolEq av0 av) then (match k with
     | .v ak' lk => bif boolEq ak' ak then (pack K pF lk).bind fun p => match p with
      | ⟨x, [], [], []⟩ => (match ok with
       | true => Eff.val (.tup [(av, atomsOf V F ((mget K l x).getD V.dflt)), (false, [.d .bool pF (mget K l x).isSome])])
       | false => Eff.val (.v av (atomsOf V F ((mget K l x).getD V.dflt))))
      | _ => .fail else .fail
     | _ => .fail) else .fail
    | _ => .fail
   | _ => .fail)
  | _, _ => .fail
def sLenMap (mt : MT) (t : TypeId) (x : SV) : Req Eff :=
 match mtOf mt t with
 | none => .fail
 | some _ => match x with
  | .v false [.own id] => .need id fun R => match R with
   | some (.mp _ _ _ _ _ l) => .ok ⟨sInt .i64 (l.length : Int), [], [l.length ≤ maxL]⟩
   | _ => .fail
  | _ => .fail
def sEqNil (tt : TT) (t : TypeId) (x : SV) : Req Eff :=
 bif !(isSlT tt t) then .fail else match x with
 | .v false [.nils] => Eff.val (.v false [.kb true])
 | .v false [.d T _ l] => (match T, l with
  | .sl _, l => Eff.val (.v false [.anyb (List.length l = 0)])
  | _, _ => .fail)
 | .v false [.own id] => .need id fun R => match R with
  | some (.sl _ _ l) => Eff.val (.v false [.anyb (l.length = 0)])
  | some (.els _ l) => Eff.val (.v false [.anyb (l.length = 0)])
  | _ => .fail
 | _ => .fail
def isNilsV : SV → Bool
 | .v false [.nils] => true
 | _ => false
def sMin (a b : Int) : Int := bif decide (b < a) then b else a
def sMax (a b : Int) : Int := bif decide (a < b) then b else a
def sMinMax (mn : Bool) (x y : SV) : Req Eff :=
 match x, y with
 | .v false [.d (.int k) _ a], .v false [.d (.int k') _ b] => bif Nat.beq (kindNo k) (kindNo k') then Eff.val (sInt k (bif mn then sMin a b else sMax a b)) else .fail
 | _, _ => .fail
def isX : SV → Bool
 | .v false [.vp _ _ _ _ _] => true
 | .v false [.chp _ _] => true
 | .v false [.chf _ _ _] => true
 | .v false [.lnk _ _ _ _ _] => true
 | _ => false
def isPtrV : SV → Bool
 | .v false [.ptr _ _] => true
 | _ => false
def sLoadX (tt : TT) (t : TypeId) (x : SV) : Req Eff :=
 match ttOf tt t with
 | none => .fail
 | some ⟨_, T0, ag, _, _, _, _⟩ => match x with
  | .v false [.vp id off i n e] => bif Ty.beq e T0 then .need id fun R => match varOf R with
   | some cs => (match takeA cs off (n * e.size) with
    | some [.d (.arr n' e') _ y] => bif Ty.beq e' e && Nat.beq n' n then (SV.ofTy ag (atomsOf e pF (List.getD (tcast (.sl e') (.sl e) y : List e.den) i e.dflt))).bind fun v => .ok ⟨v, [], [i < n]⟩ else .fail
    | _ => .fail)
   | none => .fail else .fail
  | .v false [.chf id i off] => .need id fun R => match R with
   | some (.ch _ e l) => bif Nat.beq off 0 && Ty.beq e T0 then (SV.ofTy ag (atomsOf e pF (l.getD i e.dflt))).bind fun v => .ok ⟨v, [], [i < l.length]⟩
    else bif Nat.beq off e.size && (Ty.beq .pt T0 && !ag) then .ok ⟨atom (.chp id (i + 1)), [], [i < l.length]⟩ else .fail
   | _ => .fail
  | .v false [.lnk id0 off id i sz] => bif Ty.beq .pt T0 && !ag then .need id fun R => match R with
   | some (.ch _ e l) => bif Nat.beq sz e.size then .need id0 fun R0 => match R0 with
    | some (.var cs) => (match takeA cs off 1 with
     | some [.chp id' 0] => bif id'.beq id then .ok ⟨atom (.chp id i), [], [i ≤ l.length]⟩ else .fail
     | _ => .fail)
    | _ => .fail else .fail
   | some (.pre id2 n) => .need id2 fun R2 => match R2 with
    | some (.ch _ e l) => bif Nat.beq sz e.size then .need id0 fun R0 => match R0 with
     | some (.var cs) => (match takeA cs off 1 with
      | some [.chp id' 0] => bif id'.beq id2 then .ok ⟨atom (.chp id2 i), [], [i ≤ l.length, i ≤ n]⟩ else .fail
      | _ => .fail)
     | _ => .fail else .fail
    | _ => .fail
   | _ => .fail else .fail
  | _ => .fail
def sStoreX (idb : Id) (x y : SV) : Req Eff :=
 match x, y with
 | .v false [.vp id off i n e], .v _ l => .need id fun R => match R with
  | some (.var cs) => (match takeA cs off (n * e.size) with
   | some [.d (.arr n' e') _ z] => bif Ty.beq e' e && Nat.beq n' n then (pack e pF l).bind fun p => match p with
    | ⟨q, [], [], []⟩ => (match putA cs off [.d (.arr n e) pF ((tcast (.sl e') (.sl e) z : List e.den).set i q : List e.den)] with
     | some cs' => .ok ⟨.junk, [(id, some (.var cs'))], [i < n]⟩
     | none => .fail)
    | _ => .fail else .fail
   | _ => .fail)
  | _ => .fail
 | .v false [.lnk id0 off id i sz], .v false [.ptr id2 0] => .need id fun R => match R with
  | some (.ch true e l) => bif Nat.beq sz e.size then .need id0 fun R0 => match R0 with
   | some (.var cs) => (match takeA cs off 1 with
    | some [.chp id' 0] => bif id'.beq id && nodupN [id0, id, id2] then .need id2 fun R2 => match R2 with
     | some (.var cs2) => (pack e pF cs2).bind fun p => match p with
      | ⟨q, [.nilp], [], []⟩ => (match putA cs off [.chp idb 0] with
       | some cs' => .ok ⟨.junk, [(id0, some (.var cs')), (id2, none), (id, some (.pre idb l.length)), (idb, some (.ch true e (l ++ [q])))], [i = l.length]⟩
       | none => .fail)
      | _ => .fail
     | _ => .fail else .fail
    | _ => .fail)
   | _ => .fail else .fail
  | _ => .fail
 | _, _ => .fail
def sNilCheckX (x : SV) : Req Eff :=
 match x with
 | .v false [.chp id i] => .need id fun R => match R with
  | some (.ch _ _ l) => .ok ⟨atom (.chf id i 0), [], [i < l.length]⟩
  | _ => .fail
 | .v false [.lnk id0 off id i sz] => Eff.val (atom (.lnk id0 off id i sz))
 | _ => .fail
def sFieldAddrX (tt : TT) (s : TypeId) (f : Nat) (x : SV) : Req Eff :=
 match ttOf tt s with
 | none => .fail
 | some ⟨_, T0, _, nf, _, _, _⟩ => bif Nat.blt f nf then match x with
  | .v false [.chf id i off] => Eff.val (atom (.chf id i (off + fieldOff T0 nf f)))
  | _ => .fail
  else .fail
def arT (tt : TT) (t : TypeId) : Option (Nat × Ty × TypeId) := match ttOf tt t with
 | some ⟨_, .arr n _, true, 0, el, _, []⟩ => (match ttOf tt el with
  | some ⟨_, e, _, _, _, _, _⟩ => some (n, e, el)
  | none => none)
 | _ => none
def sIndexAddrX (tt : TT) (t : TypeId) (x i : SV) : Req Eff :=
 match arT tt t with
 | none => .fail
 | some (n, e, _) => match x, i with
  | .v false [.ptr id off], .v false [.d (.int _) _ k] => .ok ⟨atom (.vp id off k.toNat n e), [], [0 ≤ k ∧ k < (n : Int)]⟩
  | _, _ => .fail
def sSliceX (tt : TT) (t : TypeId) (x : SV) : Req Eff :=
 match arT tt t with
 | none => .fail
 | some (n, e, _) => match x with
  | .v false [.ptr id off] => .ok ⟨atom (.vsl id off n e.size), [], []⟩
  | _ => .fail
def sToArr (tt : TT) (t : TypeId) (x : SV) : Req Eff :=
 match arT tt t with
 | none => .fail
 | some (n, e, _) => match x with
  | .v false [.d T F l] => (match T, l with
   | .sl e', l => bif Ty.beq e' e && (Nat.blt 0 n && (e.noO pF && flR Fo.le e' F.el pF)) then .ok ⟨atom (.rpt F.hd (.arr n e) pF (List.take n (tcast (.sl e') (.sl e) l : List e.den))), [], [n ≤ List.length l]⟩ else .fail
   | _, _ => .fail)
  | _ => .fail
def isNilpV : SV → Bool
 | .v false [.nilp] => true
 | _ => false
def isPtT (tt : TT) (t : TypeId) : Bool := match ttOf tt t with
 | some ⟨_, .pt, false, _, _, _, _⟩ => true
 | _ => false
def sPtrNil (tt : TT) (t : TypeId) (op : BinOp) (x : SV) : Req Eff :=
 bif !(isPtT tt t) then .fail else match x with
 | .v false [.chp id i] => .need id fun R => match R with
  | some (.ch _ _ l) => (match op with
   | .eql => .ok ⟨sBool (decide (i = l.length)), [], [i ≤ l.length]⟩
   | .neq => .ok ⟨sBool (!decide (i = l.length)), [], [i ≤ l.length]⟩
   | _ => .fail)
  | _ => .fail
 | .v false [.nilp] => (match op with
  | .eql => Eff.val (.v false [.kb true])
  | .neq => Eff.val (.v false [.kb false])
  | _ => .fail)
 | _ => .fail
def isErT (tt : TT) (t : TypeId) : Bool := match ttOf tt t with
 | some ⟨_, .er, _, _, _, _, []⟩ => true
 | _ => false
def isErV : SV → Bool
 | .v false [.d .er _ z] => Nat.beq z 0
 | _ => false
def sErNil (tt : TT) (t : TypeId) (op : BinOp) (x : SV) : Req Eff :=
 bif !(isErT tt t) then .fail else match x with
 | .v false [.d .er _ a] => (match op with
  | .eql => .ok ⟨sBool (Nat.beq a 0), [], []⟩
  | .neq => .ok ⟨sBool (!Nat.beq a 0), [], []⟩
  | _ => .fail)
 | _ => .fail
def isNilC : Operand → Bool
 | .const .nilIface => true
 | _ => false
def sBinArr (tt : TT) (xT : TypeId) (op : BinOp) (x y : SV) : Req Eff :=
 match arT tt xT with
 | some (n, .str, el) => bif isStrT tt el then (match x, y with
  | .v true [.d T _ a], .v true [.d T' _ b] => (match T, a, T', b with
   | .arr m .str, a, .arr m' .str, b => bif Nat.beq m n && Nat.beq m' n then (match op with
    | .eql => Eff.val (sBool (decide ((a : List Str) = b)))
    | .neq => Eff.val (sBool (!decide ((a : List Str) = b)))
    | _ => .fail) else .fail
   | _, _, _, _ => .fail)
  | _, _ => .fail) else .fail
 | _ => .fail
def eqFl (tt : TT) : List TypeId → List At → List At → Option Bool
 | [], [], [] => some true
 | t :: ts, .d T _ a :: r, .d T' _ b :: r' => (match ttOf tt t with
  | some ⟨_, Tf, false, _, _, _, _⟩ => (match eqFl tt ts r r' with
   | some v => (match Tf, T, a, T', b with
    | .int _, .int .i64, a, .int .i64, b => some (decide ((a : Int) = b) && v)
    | .bool, .bool, a, .bool, b => some (decide ((a : Bool) = b) && v)
    | .str, .str, a, .str, b => some (decide ((a : Str) = b) && v)
    | _, _, _, _, _ => none)
   | none => none)
  | _ => none)
 | _, _, _ => none
def sBinSt (tt : TT) (xT : TypeId) (op : BinOp) (x y : SV) : Req Eff :=
 match ttOf tt xT, x, y with
 | some ⟨_, T, true, nf, _, _, fts⟩, .v true l, .v true l' => bif consec T nf 0 fts && Nat.blt 0 fts.length then (match eqFl tt fts l l' with
  | some r => (match op with
   | .eql => Eff.val (sBool r)
   | .neq => Eff.val (sBool (!r))
   | _ => .fail)
  | none => .fail) else .fail
 | _, _, _ => .fail
def sCut (tt : TT) (t : TypeId) (idb : Id) (x a : SV) : Req Eff :=
 match slT tt t, x, a with
 | some (e0, _, _), .v false [.own id], .v false [.d (.int _) _ n] => .need id fun R => match R with
  | some (.sl e f l) => bif Ty.beq e e0 && e.noO f then .ok ⟨atom (.own idb), [(id, none), (idb, some (.sl e f (l.drop n.toNat)))], [0 ≤ n ∧ n < (l.length : Int)]⟩ else .fail
  | _ => .fail
 | _, _, _ => .fail
def isOwnV : SV → Bool
 | .v false [.own _] => true
 | _ => false
def isArrV : SV → Bool
 | .v true [.d (.arr _ _) _ _] => true
 | _ => false
end Go.Sx

namespace Go.Sx
open Go
inductive Mode
 | val (ag : Bool) (T : Ty) (F : Fl)
 | own (ag : Bool) (T : Ty) (F : Fl)
 | rp (T : Ty) (F : Fl)
 | ref (T : Ty) (F : Fl)
 | clo (f : FuncId) (l : List (Bool × Ty × Fl))
 | mu (ag : Bool) (e : Ty) (f : Fl)
@[reducible] def dens : List (Bool × Ty × Fl) → Type
 | [] => Unit
 | p :: r => p.2.1.den × dens r
@[reducible] def Mode.den : Mode → Type
 | .val _ T _ => T.den
 | .own _ T _ => T.den
 | .rp T _ => T.den
 | .ref T _ => T.den
 | .clo _ l => dens l
 | .mu _ e _ => (Ty.sl e).den
@[reducible] def mdens : List Mode → Type
 | [] => Unit
 | m :: r => m.den × mdens r
structure Ctr where
 f : FuncId
 ins : List Mode
 pre : mdens ins → Prop
 post : mdens ins → SV × List (Id × Res)
def ctrOf : List Ctr → FuncId → Option Ctr
 | [], _ => none
 | c :: cs, f => bif Nat.beq c.f f then some c else ctrOf cs f
def lendAt (T : Ty) (F : Fl) (a : At) : Req (T.den × List Id) :=
 bif !(T.noO F) then .fail else match a with
 | .rpt _ T' F' x => bif Ty.beq T' T && flR Fo.le T F' F then .ok (tcast T' T x, []) else .fail
 | .ptr id off => .need id fun R => match R with
  | some (.var cs) => match takeA cs off T.size with
   | some l => (pack T F l).bind fun p => match p with
    | ⟨x, [], [], w⟩ => .ok (x, id :: w)
    | _ => .fail
   | none => .fail
  | _ => .fail
 | _ => .fail
def eqB : Bool → Bool → Bool
 | true, b => b
 | false, b => !b
structure Taken where
 ids : List Id
 bw : List Id
 refs : List (Id × Id)
def refAt (T : Ty) (F : Fl) (a : At) (n : Id) : Req (T.den × Taken) :=
 match a with
 | .ptr id off => match off with
  | 0 => .need id fun R => match R with
   | some (.var cs) => (pack T F cs).bind fun p => match p with
    | ⟨x, [], ids, w⟩ => .ok (x, ⟨ids, w, [(id, n)]⟩)
    | _ => .fail
   | _ => .fail
  | _ + 1 => .fail
 | _ => .fail
def capAll (k : Nat) : (l : List (Bool × Ty × Fl)) → (c : Nat) → List At → Req (dens l × Taken)
 | [], _, as => match as with
  | [] => .ok ((), ⟨[], [], []⟩)
  | _ => .fail
 | (b, T, F) :: r, c, as => match as with
  | a :: as => (match b with
   | true => refAt T F a ⟨0, k, 64 * (c + 1)⟩
   | false => (lendAt T F a).bind fun x => .ok (x.1, ⟨[], x.2, []⟩)).bind fun x => match x with
    | (y, ⟨i, w, rf⟩) => (capAll k r (c + 1) as).bind fun z => match z with
     | (ys, ⟨i', w', rf'⟩) => .ok ((y, ys), ⟨i ++ i', w ++ w', rf ++ rf'⟩)
  | _ => .fail
def match1 (k : Nat) : (m : Mode) → SV → Req (m.den × Taken)
 | .val ag T F, s => match s with
  | .v ag' l => bif eqB ag ag' && T.noO F then (pack T F l).bind fun p => match p with
   | ⟨x, [], [], w⟩ => .ok (x, ⟨[], w, []⟩)
   | _ => .fail
   else .fail
  | _ => .fail
 | .own ag T F, s => match s with
  | .v ag' l => bif eqB ag ag' then (pack T F l).bind fun p => match p with
   | ⟨x, [], ids, w⟩ => .ok (x, ⟨ids, w, []⟩)
   | _ => .fail
   else .fail
  | _ => .fail
 | .rp T F, s => match s with
  | .v false [a] => (lendAt T F a).bind fun x => .ok (x.1, ⟨[], x.2, []⟩)
  | _ => .fail
 | .ref T F, s => match s with
  | .v false [a] => refAt T F a ⟨0, k, 0⟩
  | _ => .fail
 | .clo f l, s => match s with
  | .fn f' caps => bif Nat.beq f f' then capAll k l 0 caps else .fail
  | _ => .fail
 | .mu ag e f, s => match s with
  | .v ag' [.own id] => bif eqB ag ag' then .need id fun R => match R with
   | some (.sl _ _ _) => (pack (.sl e) (.sl .w f) [.own id]).bind fun p => match p with
    | ⟨x, [], ids, w⟩ => (match ids with
     | [i] => bif i.beq id then .ok (x, ⟨[], w, [(id, ⟨0, k, 0⟩)]⟩) else .fail
     | _ => .fail)
    | _ => .fail
   | _ => .fail else .fail
  | _ => .fail
def matchArgs : (k : Nat) → (ms : List Mode) → List SV → Req (mdens ms × Taken)
 | _, [], vs => match vs with
  | [] => .ok ((), ⟨[], [], []⟩)
  | _ => .fail
 | k, m :: ms, vs => match vs with
  | s :: vs => (match1 k m s).bind fun x => match x with
   | (y, ⟨i, w, rf⟩) => (matchArgs (k + 1) ms vs).bind fun z => match z with
    | (ys, ⟨i', w', rf'⟩) => .ok ((y, ys), ⟨i ++ i', w ++ w', rf ++ rf'⟩)
  | _ => .fail
def nameIn (M : List (Id × Id)) (j : Id) : Option Id := match M with
 | [] => none
 | (i, n) :: r => bif n.beq j then some i else nameIn r j
def renId (M : List (Id × Id)) (idb : Id) (j : Id) : Option Id := match j with
 | ⟨r, a, b⟩ => match r with
  | 0 => nameIn M ⟨0, a, b⟩
  | 1 => bif Nat.blt b 64 then some (idb.plus (64 * a + b)) else none
  | _ => none
def renA (M : List (Id × Id)) (idb : Id) : At → Option At
 | .own i => (match renId M idb i with | some j => some (.own j) | none => none)
 | .ptr i o => (match renId M idb i with | some j => some (.ptr j o) | none => none)
 | .opt i k sz off T => (match renId M idb i with | some j => some (.opt j k sz off T) | none => none)
 | .sub i lo hi sz inn => (match renId M idb i with | some j => some (.sub j lo hi sz inn) | none => none)
 | .chp i k => (match renId M idb i with | some j => some (.chp j k) | none => none)
 | .chf _ _ _ => none
 | .lnk _ _ _ _ _ => none
 | .vp _ _ _ _ _ => none
 | .vsl _ _ _ _ => none
 | a => some a
def renL (M : List (Id × Id)) (idb : Id) : List At → Option (List At)
 | [] => some []
 | a :: r => match renA M idb a with
  | none => none
  | some a' => match renL M idb r with
   | none => none
   | some r' => some (a' :: r')
def renT (M : List (Id × Id)) (idb : Id) : List (Bool × List At) → Option (List (Bool × List At))
 | [] => some []
 | (ag, l) :: r => match renL M idb l with
  | none => none
  | some l' => match renT M idb r with
   | none => none
   | some r' => some ((ag, l') :: r')
def renE (M : List (Id × Id)) (idb : Id) : List (List At) → Option (List (List At))
 | [] => some []
 | l :: r => match renL M idb l with
  | none => none
  | some l' => match renE M idb r with
   | none => none
   | some r' => some (l' :: r')
def renS (M : List (Id × Id)) (idb : Id) : SV → Option SV
 | .v ag l => (match renL M idb l with | some l' => some (.v ag l') | none => none)
 | .fn f l => (match renL M idb l with | some l' => some (.fn f l') | none => none)
 | .tup l => (match renT M idb l with | some l' => some (.tup l') | none => none)
 | .junk => some .junk
def renR (M : List (Id × Id)) (idb : Id) : Res → Option Res
 | .var l => (match renL M idb l with | some l' => some (.var l') | none => none)
 | .sl e f x => some (.sl e f x)
 | .slo e f x j l => (match renL M idb l with | some l' => some (.slo e f x j l') | none => none)
 | .els sz l => (match renE M idb l with | some l' => some (.els sz l') | none => none)
 | .mp ak av K V F l => some (.mp ak av K V F l)
 | .room _ _ => none
 | .ch o e l => bif o then some (.ch true e l) else none
 | .pre _ _ => none
 | .lvar _ => none
 | .bys _ => none
def renU (M : List (Id × Id)) (idb : Id) : List (Id × Res) → Option (List (Id × Option Res))
 | [] => some []
 | (i, R) :: r => match renId M idb i with
  | none => none
  | some i' => match renR M idb R with
   | none => none
   | some R' => match renU M idb r with
    | none => none
    | some r' => some ((i', some R') :: r')
def nbF : Fo → Fo → Bool := fun a _ => match a with | .b => false | _ => true
def nbA : At → Bool
 | .d T F _ => flR nbF T F F
 | .rpt o T F _ => nbF o o && flR nbF T F F
 | _ => true
def nbL : List At → Bool
 | [] => true
 | a :: r => nbA a && nbL r
def nbT : List (Bool × List At) → Bool
 | [] => true
 | (_, l) :: r => nbL l && nbT r
def nbE : List (List At) → Bool
 | [] => true
 | l :: r => nbL l && nbE r
def nbS : SV → Bool
 | .v _ l => nbL l
 | .fn _ l => nbL l
 | .tup l => nbT l
 | .junk => true
def nbR : Res → Bool
 | .var l => nbL l
 | .sl e f _ => flR nbF e f f
 | .slo e f _ _ l => flR nbF e f f && nbL l
 | .els _ l => nbE l
 | .mp _ _ _ V F _ => flR nbF V F F
 | .room _ _ => true
 | .ch o _ _ => o
 | .pre _ _ => true
 | .lvar _ => false
 | .bys _ => true
def nbU : List (Id × Res) → Bool
 | [] => true
 | (_, R) :: r => nbR R && nbU r
def sCall (G : List Ctr) (f : FuncId) (idb : Id) (vals : List SV) : Req Eff :=
 match ctrOf G f with
 | none => .fail
 | some c => (matchArgs 0 c.ins vals).bind fun m => match m with
  | (x, ⟨ids, bw, refs⟩) => bif nodupN (ids ++ refs.map (·.1)) && disjN bw (ids ++ refs.map (·.1)) then
    (match c.post x with
    | (sv, us) => bif !(emptyN bw || (nbS sv && nbU us)) then .fail else match renS refs idb sv, renU refs idb us with
     | some v, some u => .ok ⟨v, drops ids ++ drops (refs.map (·.1)) ++ u, [c.pre x]⟩
     | _, _ => .fail)
   else .fail
structure Xctr where
 f : FuncId
 rs : List (Id × Id × Res)
 ls : List (Id × Id × Res)
 args : List SV
 post : SV × List (Id × Res)
def namsOf : List (Id × Id × Res) → List (Id × Id)
 | [] => []
 | (j, i, _) :: r => (j, i) :: namsOf r
def resOf : List (Id × Id × Res) → List (Id × Res)
 | [] => []
 | (_, i, R) :: r => (i, R) :: resOf r
def namA (M : List (Id × Id)) : At → Option At
 | .own i => (match nameIn M i with | some j => some (.own j) | none => none)
 | .ptr i o => (match nameIn M i with | some j => some (.ptr j o) | none => none)
 | .opt i k sz off T => (match nameIn M i with | some j => some (.opt j k sz off T) | none => none)
 | .sub i lo hi sz inn => (match nameIn M i with | some j => some (.sub j lo hi sz inn) | none => none)
 | .chp i k => (match nameIn M i with | some j => some (.chp j k) | none => none)
 | .chf _ _ _ => none
 | .lnk _ _ _ _ _ => none
 | .vp _ _ _ _ _ => none
 | .vsl _ _ _ _ => none
 | a => some a
def namL (M : List (Id × Id)) : List At → Option (List At)
 | [] => some []
 | a :: r => match namA M a with
  | none => none
  | some a' => match namL M r with
   | none => none
   | some r' => some (a' :: r')
def namE (M : List (Id × Id)) : List (List At) → Option (List (List At))
 | [] => some []
 | l :: r => match namL M l with
  | none => none
  | some l' => match namE M r with
   | none => none
   | some r' => some (l' :: r')
def namS (M : List (Id × Id)) : SV → Option SV
 | .v ag l => (match namL M l with | some l' => some (.v ag l') | none => none)
 | .fn f l => (match namL M l with | some l' => some (.fn f l') | none => none)
 | _ => none
def namSs (M : List (Id × Id)) : List SV → Option (List SV)
 | [] => some []
 | s :: r => match namS M s with
  | none => none
  | some s' => match namSs M r with
   | none => none
   | some r' => some (s' :: r')
def namR (M : List (Id × Id)) : Res → Option Res
 | .var l => (match namL M l with | some l' => some (.var l') | none => none)
 | .sl e f x => some (.sl e f x)
 | .slo e f x j l => (match namL M l with | some l' => some (.slo e f x j l') | none => none)
 | .els sz l => (match namE M l with | some l' => some (.els sz l') | none => none)
 | .mp ak av K V F l => some (.mp ak av K V F l)
 | .room _ _ => none
 | .ch o e l => some (.ch o e l)
 | .pre _ _ => none
 | .lvar _ => none
 | .bys _ => none
def idsP : List At → List Id
 | [] => []
 | a :: r => match a with
  | .ptr i 0 => i :: idsP r
  | .own i => i :: idsP r
  | _ => idsP r
def ptrsOf : List SV → List Id
 | [] => []
 | s :: r => match s with
  | .v _ l => idsP l ++ ptrsOf r
  | _ => ptrsOf r
def keptN (l : List Id) : List (Id × Id) → List (Id × Id)
 | [] => []
 | (j, i) :: r => bif hasN l i then (j, i) :: keptN l r else keptN l r
def matchX (M : List (Id × Id)) : List (Id × Id × Res) → Req (List Prop)
 | [] => .ok []
 | (j, _, R) :: r => .need j fun o => match o with
  | none => .fail
  | some R' => (matchX M r).bind fun l => .ok ((namR M R = some R') :: l)
def lenR (M : List (Id × Id)) (R R' : Res) : Option (List Prop) :=
 match R with
 | .lvar l => (match varOf (some R') with
  | some l' => some [namL M l = some l']
  | none => none)
 | .ch false e l => (match R' with
  | .ch _ e' l' => bif Ty.beq e' e then some [(tcast (.sl e') (.sl e) l' : List e.den) = l] else none
  | _ => none)
 | _ => none
def matchL (M : List (Id × Id)) : List (Id × Id × Res) → Req (List Prop)
 | [] => .ok []
 | (j, _, R) :: r => .need j fun o => match o with
  | none => .fail
  | some R' => match lenR M R R' with
   | none => .fail
   | some v => (matchL M r).bind fun l => .ok (v ++ l)
def Xctr.nams (c : Xctr) : List (Id × Id) := namsOf c.rs ++ namsOf c.ls
def isNilL {α : Type} : List α → Bool
 | [] => true
 | _ => false
def xOf : List Xctr → FuncId → Option Xctr
 | [], _ => none
 | c :: r, f => bif Nat.beq c.f f then some c else xOf r f
def sCallX (c : Xctr) (idb : Id) (vals : List SV) : Req Eff :=
 bif nodupN (c.nams.map (·.1)) && nodupN (c.nams.map (·.2)) && (isNilL c.ls || (nbS c.post.1 && nbU c.post.2)) then
  (matchX c.nams c.rs).bind fun l => (matchL c.nams c.ls).bind fun l2 => match renS (keptN (ptrsOf c.args) c.nams) idb c.post.1, renU (keptN (ptrsOf c.args) c.nams) idb c.post.2 with
   | some v, some u => .ok ⟨v, drops ((namsOf c.rs).map (·.1)) ++ u, (namSs c.nams c.args = some vals) :: (l ++ l2)⟩
   | _, _ => .fail
 else .fail
structure Ctx where
 tt : TT
 mt : MT
 G : List Ctr
 X : List Xctr
def bytesL (s : ByteArray) : Str := s.data.toList
def evC : Value → SV
 | .int k n => bif decide (k.min ≤ n) && decide (n ≤ k.max) then .v false [.d (.int k) pF n] else .junk
 | .bool b => .v false [.kb b]
 | .string s => bif Nat.ble s.data.toList.length 65536 then .v false [.d .str pF (bytesL s)] else .junk
 | .slice none 0 0 => .v false [.nils]
 | .pointer none => .v false [.nilp]
 | .nilIface => .v false [.d .er pF (0 : Nat)]
 | _ => .junk
def evG (g : Nat) : SV := bif errOn && Nat.beq g errB then .v false [.rpt .p .er pF (1 : Nat)] else .junk
section
variable {α : Type}
def getK (l : List SV) (i : Nat) (k : SV → α) : α :=
 match l with
 | [] => k .junk
 | x :: xs => match i with
  | 0 => k x
  | i + 1 => getK xs i k
def evCK : Value → (SV → α) → α
 | .int kd n, k => bif decide (kd.min ≤ n) && decide (n ≤ kd.max) then k (.v false [.d (.int kd) pF n]) else k .junk
 | .bool b, k => k (.v false [.kb b])
 | .string s, k => bif Nat.ble s.data.toList.length 65536 then k (.v false [.d .str pF (bytesL s)]) else k .junk
 | .slice none 0 0, k => k (.v false [.nils])
 | .pointer none, k => k (.v false [.nilp])
 | .nilIface, k => k (.v false [.d .er pF (0 : Nat)])
 | _, k => k .junk
def evOK (t : List SV) (o : Operand) (k : SV → α) : α :=
 match o with
 | .tmp i => getK t i k
 | .const v => evCK v k
 | .func f => k (.fn f [])
 | .global g => k (evG g)
def evsK (t : List SV) : List Operand → (List SV → α) → α
 | [], k => k []
 | o :: os, k => evOK t o fun v => evsK t os fun vs => k (v :: vs)
end
def asAts : List SV → Option (List At)
 | [] => some []
 | .v false [a] :: vs => (match asAts vs with | some l => some (a :: l) | none => none)
 | _ :: _ => none
def opEff (C : Ctx) (op : Op) (idb : Id) (vals : List SV) : Req Eff :=
 match op with
 | .move _ | .assign _ => (match vals with | [v] => Eff.val v | _ => .fail)
 | .pick _ _ _ => (match vals with | [c, a, b] => sPick c a b | _ => .fail)
 | .alloc t => (match ttOf C.tt t with
  | some ⟨_, T, _, _, _, _, _⟩ => .ok ⟨atom (.ptr idb 0), [(idb, some (.var (zeroOf T)))], []⟩
  | none => .fail)
 | .box _ _ => (match vals with
  | [.v _ l] => .ok ⟨atom (.ptr idb 0), [(idb, some (.var l))], []⟩
  | _ => .fail)
 | .build t ps => sBuild C.tt t (ps.toList.map (·.1)) vals
 | .buildSlice t n ps => (match slT C.tt t with
  | some (T, _, _) => sBuildSlice idb T.size n (ps.toList.map (·.1)) vals
  | none => .fail)
 | .load t _ => (match vals with | [x] => bif isX x then sLoadX C.tt t x else sLoad C.tt t idb x | _ => .fail)
 | .store t _ _ => (match vals with | [x, y] => bif fitsT C.tt t y then (bif isX x then sStoreX idb x y else sStore idb x y) else .fail | _ => .fail)
 | .field t _ f => (match vals with | [x] => sField C.tt t f x | _ => .fail)
 | .nilCheck _ => (match vals with | [x] => bif isX x then sNilCheckX x else sNilCheck x | _ => .fail)
 | .binOp b xT _ yo _ => (match vals with | [x, y] => (bif isNilC yo && isErV y then sErNil C.tt xT b x else bif eqT C.mt xT then sBinSt C.tt xT b x y else bif isNilpV y then sPtrNil C.tt xT b x else bif isArrV x then sBinArr C.tt xT b x y else match b, isNilsV y with | .eql, true => sEqNil C.tt xT x | _, _ => sBin C.tt xT b x y) | _ => .fail)
 | .unOp .not _ _ => (match vals with | [x] => sNot x | _ => .fail)
 | .unOp .neg _ _ => (match vals with | [x] => sNeg x | _ => .fail)
 | .convert src dst _ => (match vals with | [x] => sConvert C.tt idb src dst x | _ => .fail)
 | .makeFunc (.func f) first _ => (match first.toList, asAts vals with | [], some l => .ok ⟨.fn f l, [], []⟩ | _, _ => .fail)
 | .makeSlice t l _ => (match vals with | [x, y] => sMake C.tt t idb (litNat l) x y | _ => .fail)
 | .slice t _ lo hi none => (match vals, lo, hi with
  | [x], none, none => bif isPtrV x then sSliceX C.tt t x else sSlice C.tt t x none none
  | [x, a], some _, none => bif dupT C.tt t && isOwnV x then sCut C.tt t idb x a else sSlice C.tt t x (some a) none
  | [x, b], none, some _ => sSlice C.tt t x none (some b)
  | [x, a, b], some _, some _ => sSlice C.tt t x (some a) (some b)
  | _, _, _ => .fail)
 | .slice t _ (some _) (some _) (some _) => (match vals with | [x, a, b, m] => sSlice3 C.tt t x a b m | _ => .fail)
 | .fieldAddr s _ f => (match vals with | [x] => bif isX x then sFieldAddrX C.tt s f x else sFieldAddr C.tt s f x | _ => .fail)
 | .indexAddr t _ _ => (match vals with | [x, i] => bif isPtrV x then sIndexAddrX C.tt t x i else sIndexAddr C.tt t x i | _ => .fail)
 | .sliceToArrayPointer t _ => (match vals with | [x] => sToArr C.tt t x | _ => .fail)
 | .index t _ _ => (match vals with | [x, i] => sIndex C.tt t x i | _ => .fail)
 | .extract _ i => (match vals with | [x] => sExtract x i | _ => .fail)
 | .makeMap t none => sMakeMap C.tt C.mt t idb
 | .mapUpdate t _ _ _ => (match vals with | [m, k, v] => sMapUpdate C.tt C.mt t m k v | _ => .fail)
 | .lookup t _ _ ok => (match vals with | [m, k] => sLookup C.tt C.mt t ok m k | _ => .fail)
 | .call c => (match c.callee with
  | .builtin .len => (match vals, c.argTypes.toList with | [x], [t] => (match mtOf C.mt t with | some _ => sLenMap C.mt t x | none => sLen C.tt t x) | _, _ => .fail)
  | .builtin .clear => (match vals, c.argTypes.toList with | [x], [t] => sClear C.tt t x | _, _ => .fail)
  | .builtin .min => (match vals with | [x, y] => sMinMax true x y | _ => .fail)
  | .builtin .max => (match vals with | [x, y] => sMinMax false x y | _ => .fail)
  | .builtin .append => (match vals, c.argTypes.toList with | [x, y], [t, t2] => sAppend C.tt t t2 idb x y | _, _ => .fail)
  | .value _ => (match vals with | .fn f caps :: vs => (match xOf C.X f with | some c => sCallX c idb (vs ++ caps.map atom) | none => sCall C.G f idb (vs ++ caps.map atom)) | _ => .fail)
  | _ => .fail)
 | _ => .fail
def At.ids : At → List Id
 | .own i => [i]
 | .ptr i _ => [i]
 | .opt i _ _ _ _ => [i]
 | .sub i _ _ _ _ => [i]
 | .chp i _ => [i]
 | .chf i _ _ => [i]
 | .lnk i _ j _ _ => [i, j]
 | .vp i _ _ _ _ => [i]
 | .vsl i _ _ _ => [i]
 | _ => []
def idsL : List At → List Id
 | [] => []
 | a :: r => a.ids ++ idsL r
def idsLL : List (List At) → List Id
 | [] => []
 | a :: r => idsL a ++ idsLL r
def idsT : List (Bool × List At) → List Id
 | [] => []
 | (_, a) :: r => idsL a ++ idsT r
def SV.ids : SV → List Id
 | .v _ l => idsL l
 | .fn _ l => idsL l
 | .tup l => idsT l
 | .junk => []
def Res.ids : Res → List Id
 | .var l => idsL l
 | .sl _ _ _ => []
 | .slo _ _ _ _ l => idsL l
 | .els _ l => idsLL l
 | .mp _ _ _ _ _ _ => []
 | .room i _ => [i]
 | .ch _ _ _ => []
 | .lvar l => idsL l
 | .bys _ => []
 | .pre i _ => [i]
def idsU : List (Id × Option Res) → List Id
 | [] => []
 | (i, some R) :: r => i :: R.ids ++ idsU r
 | (i, none) :: r => i :: idsU r
def idsS : List SV → List Id
 | [] => []
 | v :: r => v.ids ++ idsS r
def idsR : List (Id × Res) → List Id
 | [] => []
 | (i, R) :: r => i :: R.ids ++ idsR r
def idsK : List (List SV) → List Id
 | [] => []
 | v :: r => idsS v ++ idsK r
structure Inf where
 touch : List Id
 chg : List Id
 ids : List Id
def decOf : List (Nat × Bool) → Nat → Option Bool
 | [], _ => none
 | (j, b) :: r, i => bif Nat.beq j i then some b else decOf r i
def nums : List Nat := [0, 1, 2, 3, 4, 5, 6, 7, 8, 9, 10, 11, 12, 13, 14, 15, 16, 17, 18, 19, 20, 21, 22, 23, 24, 25, 26, 27, 28, 29, 30, 31, 32, 33, 34, 35, 36, 37, 38, 39, 40, 41, 42, 43, 44, 45, 46, 47, 48, 49, 50, 51, 52, 53, 54, 55, 56, 57, 58, 59, 60, 61, 62, 63, 64, 65, 66, 67, 68, 69, 70, 71, 72, 73, 74, 75, 76, 77, 78, 79, 80, 81, 82, 83, 84, 85, 86, 87, 88, 89, 90, 91, 92, 93, 94, 95, 96, 97, 98, 99, 100, 101, 102, 103, 104, 105, 106, 107, 108, 109, 110, 111, 112, 113, 114, 115, 116, 117, 118, 119]
def dstAt : List Oper → Nat → Option Tmp
 | [], _ => none
 | o :: _, 0 => o.dst
 | _ :: os, n + 1 => dstAt os n
def passed : SV := .tup []
section
variable {α : Type}
def runK (C : Ctx) (R : Nat) (decs : List (Nat × Bool)) (full : List Oper) : List Oper → List Nat → List SV → List (Id × Res) → List Prop → List Inf → (List SV → List (Id × Res) → List Prop → List Inf → α) → α → α
 | [], _, t, rs, vcs, infs, k, _ => k t rs vcs infs
 | _ :: _, [], _, _, _, _, _, d => d
 | o :: os, i :: is, t, rs, vcs, infs, k, d =>
  let skip : Unit → α := fun _ => match o.dst with
   | none => runK C R decs full os is t rs vcs (⟨[], [], []⟩ :: infs) k d
   | some dst => setK t dst passed fun t' => runK C R decs full os is t' rs vcs (⟨[], [], []⟩ :: infs) k d
  let go : Unit → α := fun _ => evsK t o.op.operands.toList fun vals =>
   match (opEff C o.op ⟨R, i, 0⟩ vals).exec (look rs) with
   | none => d
   | some (⟨v, upd, vc⟩, touch) => putsK rs upd fun rs' =>
     match o.dst with
     | none => runK C R decs full os is t rs' (vc ++ vcs) (⟨touch, upd.map (·.1), v.ids ++ idsU upd⟩ :: infs) k d
     | some dst => match decOf decs i with
      | none => setK t dst v fun t' => runK C R decs full os is t' rs' (vc ++ vcs) (⟨touch, upd.map (·.1), v.ids ++ idsU upd⟩ :: infs) k d
      | some b => match asB v with
       | none => d
       | some x => setK t dst (.v false [.kb b]) fun t' => runK C R decs full os is t' rs' (((x = b) :: vc) ++ vcs) (⟨touch, upd.map (·.1), idsU upd⟩ :: infs) k d
  match o.guard with
  | none => go ()
  | some (j, want) => match dstAt full j with
   | none => d
   | some g => getK t g fun s => match s with
    | .v false [.kb b] => bif eqB b want then go () else skip ()
    | .tup [] => skip ()
    | _ => d
end
def conj : List Prop → Prop
 | [] => True
 | [p] => p
 | p :: q :: r => conj (q :: r) ∧ p
def looksM : List Operand → Nat → Nat
 | [], m => m
 | .tmp t :: r, m => looksM r (Nat.lor m (Nat.shiftLeft 1 t))
 | _ :: r, m => looksM r m
def maskD : Option Tmp → Nat
 | none => 0
 | some t => Nat.shiftLeft 1 t
def looksAll (full : List Oper) (o : Oper) : Nat := looksM o.op.operands.toList (match o.guard with | none => 0 | some (j, _) => maskD (dstAt full j))
def bindsAny (e : Edge) : Bool := match e.ground with
 | .textOnly _ => false
 | .gcOnly _ => false
 | _ => true
structure Prev where
 j : Nat
 anc : Nat
 d : Nat
 l : Nat
 tch : List Id
 chg : List Id
def ancOf : List Prev → Nat → Nat
 | [], _ => 0
 | p :: ps, j => bif Nat.beq p.j j then p.anc else ancOf ps j
def ancs (prev : List Prev) (i : Nat) : List Edge → Nat → Option Nat
 | [], m => some m
 | e :: es, m => bif bindsAny e then (bif Nat.blt e.on i then ancs prev i es (Nat.lor m (Nat.lor (Nat.shiftLeft 1 e.on) (ancOf prev e.on))) else none) else ancs prev i es m
def zeroN (n : Nat) : Bool := Nat.beq n 0
def prevOk (anc d l : Nat) (tch chg : List Id) : List Prev → Bool
 | [] => true
 | p :: ps => (Nat.testBit anc p.j || (zeroN (Nat.land p.d l) && zeroN (Nat.land p.d d) && zeroN (Nat.land d p.l) && disjN p.chg tch && disjN p.chg chg && disjN p.tch chg)) && prevOk anc d l tch chg ps
def idsOk (R i anc : Nat) : List Id → Bool
 | [] => true
 | ⟨r, s, _⟩ :: ids => (Nat.blt r R || (Nat.beq r R && (Nat.beq s i || Nat.testBit anc s))) && idsOk R i anc ids
def idsOkSeq (R i : Nat) : List Id → Bool
 | [] => true
 | ⟨r, s, _⟩ :: ids => (Nat.blt r R || (Nat.beq r R && Nat.ble s i)) && idsOkSeq R i ids
def anyChk (R : Nat) (full : List Oper) : List Oper → List Inf → List Nat → List Prev → Bool
 | o :: os, f :: fs, i :: is, prev => match ancs prev i o.after.toList 0 with
  | none => false
  | some a => idsOk R i a f.ids && (prevOk a (maskD o.dst) (looksAll full o) f.touch f.chg prev && anyChk R full os fs is (⟨i, a, maskD o.dst, looksAll full o, f.touch, f.chg⟩ :: prev))
 | [], [], _, _ => true
 | _, _, _, _ => false
def seqChk (R : Nat) : List Inf → List Nat → Bool
 | f :: fs, i :: is => idsOkSeq R i f.ids && seqChk R fs is
 | [], _ => true
 | _, _ => false
def revA {β : Type} : List β → List β → List β
 | [], m => m
 | x :: xs, m => revA xs (x :: m)
def regChk (R : Nat) (draw : Bool) (full : List Oper) (infs : List Inf) : Bool :=
 match draw with
 | true => anyChk R full full (revA infs []) nums []
 | false => seqChk R (revA infs []) nums
def runR (C : Ctx) (R : Nat) (decs : List (Nat × Bool)) (ops : Array Oper) (st : St) : Option (St × Prop) :=
 match st with
 | ⟨t, rs, ctr, stk⟩ => bif Nat.blt ctr R then
   runK C R decs ops.toList ops.toList nums t rs [] [] (fun t' rs' vcs _ => some (⟨t', rs', R, stk⟩, conj vcs)) none
  else none
def chkR (C : Ctx) (R : Nat) (decs : List (Nat × Bool)) (ops : Array Oper) (draw : Bool) (st : St) : Bool :=
 match st with
 | ⟨t, rs, _, _⟩ => runK C R decs ops.toList ops.toList nums t rs [] [] (fun _ _ _ infs => regChk R draw ops.toList infs) false
end Go.Sx

namespace Go.Sx
open Go Go.RowKit
inductive Lab
 | no
 | per
 | bor
 | own (id : Id) (p : List Nat)
 | out
structure Gh where
 ρ : Id → Value
 g : Nat → Lab
def mkS (s : Str) : ByteArray := ⟨s.toArray⟩
def labOk (G : Gh) (o : Fo) (b : Nat) (id : Id) (p : List Nat) : Prop :=
 match o with
 | .p => G.g b = .per
 | .b => G.g b = .per ∨ G.g b = .bor
 | .w => G.g b = .own id p
def cellsAt (C : Array Value) (o n : Nat) : List Value := (C.toList.drop o).take n
def ErC (G : Gh) (w : World) (cs : List Value) (x : Nat) : Prop :=
 ∃ v, cs = [v] ∧ ((x = 0 ∧ v = .nilIface) ∨ (x = 1 ∧ G.g errB = .per ∧ ∃ C t fz A, w.heap[errB]? = some (.cells C t fz) ∧ C.toList = [v] ∧ v = .iface errT (.pointer (some A))) ∨ (x = 2 ∧ ∃ ty u, v = .iface ty u))
def Tr (G : Gh) (w : World) : (T : Ty) → Fl → Id → List Nat → List Value → T.den → Prop
 | .int k, _, _, _, cs, n => cs = [.int k n] ∧ inR k n
 | .bool, _, _, _, cs, b => cs = [.bool b]
 | .str, _, _, _, cs, s => cs = [.string (mkS s)] ∧ List.length s ≤ maxL
 | .sl e, F, id, p, cs, l => ∃ A n c, cs = [.slice A n c] ∧ n = List.length l ∧ n ≤ c ∧ n ≤ maxL ∧
   (F.hd.isO = false → e.noO F.el = true) ∧
   (((F.hd.isO = true → A = none) ∧ c = 0) ∨ ∃ b off C t fz, A = some ⟨b, off, none⟩ ∧ labOk G F.hd b id p ∧ w.heap[b]? = some (.cells C t fz) ∧ off + n * e.size ≤ C.size ∧
    (F.hd = .w → fz = (0, 0) ∧ off + c * e.size ≤ C.size) ∧
    ∀ (j : Nat) (x : e.den), (l : List e.den)[j]? = some x → Tr G w e F.el id (p ++ [j]) (cellsAt C (off + j * e.size) e.size) x)
 | .arr n e, _, _, _, cs, l => cs.length = n * e.size ∧ List.length l = n ∧
   ∀ (j : Nat) (x : e.den), (l : List e.den)[j]? = some x → Tr G w e pF default [] ((cs.drop (j * e.size)).take e.size) x
 | .pr a b, F, id, p, cs, x => ∃ c1 c2, cs = c1 ++ c2 ∧ Tr G w a F.l id (p ++ [0]) c1 x.1 ∧ Tr G w b F.r id (p ++ [1]) c2 x.2
 | .pt, _, _, _, cs, _ => cs = [.pointer none]
 | .er, _, _, _, cs, x => ErC G w cs x
theorem cellsAt_len {C : Array Value} {o n : Nat} (h : o + n ≤ C.size) : (cellsAt C o n).length = n := by
 unfold cellsAt
 rw [List.length_take, List.length_drop, Array.length_toList]
 omega
theorem Tr.len {G : Gh} {w : World} : ∀ {T : Ty} {F : Fl} {id : Id} {p : List Nat} {cs : List Value} {x : T.den}, Tr G w T F id p cs x → cs.length = T.size := by
 intro T
 induction T with
 | int k => intro F id p cs x h; rw [h.1]; rfl
 | bool => intro F id p cs x h; rw [show cs = _ from h]; rfl
 | str => intro F id p cs x h; rw [h.1]; rfl
 | sl e ih => intro F id p cs x h; obtain ⟨A, n, c, h, _⟩ := h; rw [h]; rfl
 | arr n e ih => intro F id p cs x h; exact h.1
 | pr a b iha ihb =>
  intro F id p cs x h
  obtain ⟨c1, c2, rfl, h1, h2⟩ := h
  rw [List.length_append, iha h1, ihb h2]
  rfl
 | pt => intro F id p cs x h; rw [show cs = _ from h]; rfl
 | er => intro F id p cs x h; obtain ⟨v, rfl, _⟩ := h; rfl
structure KeepPB (G G' : Gh) (w w' : World) : Prop where
 per : ∀ b, G.g b = .per → G'.g b = .per ∧ w'.heap[b]? = w.heap[b]?
 bor : ∀ b, G.g b = .bor → G'.g b = .bor ∧ w'.heap[b]? = w.heap[b]?
theorem KeepPB.refl (G : Gh) (w : World) : KeepPB G G w w := ⟨fun _ h => ⟨h, rfl⟩, fun _ h => ⟨h, rfl⟩⟩
theorem KeepPB.trans {G G1 G2 : Gh} {w w1 w2 : World} (h : KeepPB G G1 w w1) (k : KeepPB G1 G2 w1 w2) : KeepPB G G2 w w2 :=
 ⟨fun b hb => ⟨(k.per b (h.per b hb).1).1, (k.per b (h.per b hb).1).2.trans (h.per b hb).2⟩, fun b hb => ⟨(k.bor b (h.bor b hb).1).1, (k.bor b (h.bor b hb).1).2.trans (h.bor b hb).2⟩⟩
theorem labOk_keep {G G' : Gh} {w w' : World} (hk : KeepPB G G' w w') {o : Fo} (ho : o.isO = false) {b : Nat} {id id' : Id} {p p' : List Nat} (h : labOk G o b id p) :
  labOk G' o b id' p' ∧ w'.heap[b]? = w.heap[b]? := by
 cases o with
 | p => exact hk.per b h
 | b =>
  rcases h with hl | hl
  ·exact ⟨.inl (hk.per b hl).1, (hk.per b hl).2⟩
  ·exact ⟨.inr (hk.bor b hl).1, (hk.bor b hl).2⟩
 | w => cases ho
theorem noO_p : ∀ T : Ty, T.noO pF = true := by
 intro T
 induction T with
 | sl e ih => simpa [Ty.noO, pF, Fl.hd, Fl.el, Fo.isO] using ih
 | pr a b iha ihb => simp only [Ty.noO, pF, Fl.l, Fl.r, Bool.and_eq_true]; exact ⟨iha, ihb⟩
 | _ => rfl
theorem ErC.keep {G G' : Gh} {w w' : World} (hk : KeepPB G G' w w') {cs : List Value} {x : Nat} (h : ErC G w cs x) : ErC G' w' cs x := by
 obtain ⟨v, hv, h⟩ := h
 refine ⟨v, hv, h.imp id (Or.imp (fun ⟨h1, h2, C, t, fz, A, h3, h4⟩ => ⟨h1, (hk.per _ h2).1, C, t, fz, A, by rw [(hk.per _ h2).2]; exact h3, h4⟩) id)⟩
theorem Tr.keep {G G' : Gh} {w w' : World} (hk : KeepPB G G' w w') : ∀ {T : Ty} {F : Fl} {id id' : Id} {p p' : List Nat} {cs : List Value} {x : T.den},
  T.noO F = true → Tr G w T F id p cs x → Tr G' w' T F id' p' cs x := by
 intro T
 induction T with
 | int k => intro F id id' p p' cs x _ h; exact h
 | bool => intro F id id' p p' cs x _ h; exact h
 | str => intro F id id' p p' cs x _ h; exact h
 | sl e ih =>
  intro F id id' p p' cs x ho h
  simp only [Ty.noO, Bool.and_eq_true, Bool.not_eq_true'] at ho
  obtain ⟨A, n, c, hcs, hn, hc, hm, hwf, h⟩ := h
  refine ⟨A, n, c, hcs, hn, hc, hm, hwf, ?_⟩
  rcases h with h | ⟨b, off, C, t, fz, hA, hl, hh, hs, hw, hj⟩
  ·exact .inl h
  ·have hb := labOk_keep hk (id' := id') (p' := p') ho.1 hl
   exact .inr ⟨b, off, C, t, fz, hA, hb.1, by rw [hb.2]; exact hh, hs, hw, fun j x hx => ih ho.2 (hj j x hx)⟩
 | arr n e ih =>
  intro F id id' p p' cs x ho h
  exact ⟨h.1, h.2.1, fun j y hy => ih (noO_p e) (h.2.2 j y hy)⟩
 | pr a b iha ihb =>
  intro F id id' p p' cs x ho h
  simp only [Ty.noO, Bool.and_eq_true] at ho
  obtain ⟨c1, c2, rfl, h1, h2⟩ := h
  exact ⟨c1, c2, rfl, iha ho.1 h1, ihb ho.2 h2⟩
 | pt => intro F id id' p p' cs x _ h; exact h
 | er => intro F id id' p p' cs x _ h; exact ErC.keep hk h
theorem Tr.mono {G G' : Gh} {w w' : World} (hk : KeepPB G G' w w') : ∀ {T : Ty} {F : Fl} {id id' : Id} {p p' : List Nat} {cs : List Value} {x : T.den},
  (∀ b q, G.g b = .own id (p ++ q) → G'.g b = .own id' (p' ++ q) ∧ w'.heap[b]? = w.heap[b]?) → Tr G w T F id p cs x → Tr G' w' T F id' p' cs x := by
 intro T
 induction T with
 | int k => intro F id id' p p' cs x _ h; exact h
 | bool => intro F id id' p p' cs x _ h; exact h
 | str => intro F id id' p p' cs x _ h; exact h
 | sl e ih =>
  intro F id id' p p' cs x ho h
  obtain ⟨A, n, c, hcs, hn, hc, hm, hwf, h⟩ := h
  refine ⟨A, n, c, hcs, hn, hc, hm, hwf, ?_⟩
  rcases h with h | ⟨b, off, C, t, fz, hA, hl, hh, hs, hw, hj⟩
  ·exact .inl h
  ·have hb : labOk G' F.hd b id' p' ∧ w'.heap[b]? = w.heap[b]? := by
    cases hF : F.hd with
    | p => rw [hF] at hl; exact labOk_keep hk rfl hl
    | b => rw [hF] at hl; exact labOk_keep hk rfl hl
    | w =>
     rw [hF] at hl
     have := ho b [] (by rw [List.append_nil]; exact hl)
     rw [List.append_nil] at this
     exact this
   refine .inr ⟨b, off, C, t, fz, hA, hb.1, by rw [hb.2]; exact hh, hs, hw, fun j x hx => ?_⟩
   refine ih (fun b q hq => ?_) (hj j x hx)
   have := ho b ([j] ++ q) (by rw [← List.append_assoc]; exact hq)
   rw [← List.append_assoc] at this
   exact this
 | arr n e ih =>
  intro F id id' p p' cs x ho h
  exact ⟨h.1, h.2.1, fun j y hy => Tr.keep hk (noO_p e) (h.2.2 j y hy)⟩
 | pr a b iha ihb =>
  intro F id id' p p' cs x ho h
  obtain ⟨c1, c2, rfl, h1, h2⟩ := h
  refine ⟨c1, c2, rfl, iha (fun b q hq => ?_) h1, ihb (fun b q hq => ?_) h2⟩
  ·have := ho b ([0] ++ q) (by rw [← List.append_assoc]; exact hq)
   rw [← List.append_assoc] at this
   exact this
  ·have := ho b ([1] ++ q) (by rw [← List.append_assoc]; exact hq)
   rw [← List.append_assoc] at this
   exact this
 | pt => intro F id id' p p' cs x _ h; exact h
 | er => intro F id id' p p' cs x _ h; exact ErC.keep hk h
theorem noO_le : ∀ {T : Ty} {F F' : Fl}, flR Fo.le T F F' = true → T.noO F = true → T.noO F' = true := by
 intro T
 induction T with
 | sl e ih =>
  intro F F' h h0
  simp only [flR, Ty.noO, Bool.and_eq_true, Bool.not_eq_true'] at h h0 ⊢
  refine ⟨?_, ih h.2 h0.2⟩
  have h1 := h.1
  cases hF : F.hd <;> cases hF' : F'.hd <;> rw [hF, hF'] at h1 <;> first | rfl | (cases h1; done) | (rw [hF] at h0; cases h0.1)
 | pr a b iha ihb =>
  intro F F' h h0
  simp only [flR, Ty.noO, Bool.and_eq_true] at h h0 ⊢
  exact ⟨iha h.1 h0.1, ihb h.2 h0.2⟩
 | _ => intro F F' _ _; rfl
theorem noO_lend : ∀ {T : Ty} {F F' : Fl}, flR Fo.lend T F F' = true → T.noO F' = true := by
 intro T
 induction T with
 | sl e ih =>
  intro F F' h
  simp only [flR, Ty.noO, Bool.and_eq_true, Bool.not_eq_true'] at h ⊢
  refine ⟨?_, ih h.2⟩
  have h1 := h.1
  cases hF : F.hd <;> cases hF' : F'.hd <;> rw [hF, hF'] at h1 <;> first | rfl | (cases h1; done)
 | pr a b iha ihb =>
  intro F F' h
  simp only [flR, Ty.noO, Bool.and_eq_true] at h ⊢
  exact ⟨iha h.1, ihb h.2⟩
 | _ => intro F F' _; rfl
theorem Tr.le {G : Gh} {w : World} : ∀ {T : Ty} {F F' : Fl} {id : Id} {p : List Nat} {cs : List Value} {x : T.den},
  flR Fo.le T F F' = true → Tr G w T F id p cs x → Tr G w T F' id p cs x := by
 intro T
 induction T with
 | int k => intro F F' id p cs x _ h; exact h
 | bool => intro F F' id p cs x _ h; exact h
 | str => intro F F' id p cs x _ h; exact h
 | sl e ih =>
  intro F F' id p cs x hf h
  simp only [flR, Bool.and_eq_true] at hf
  obtain ⟨A, n, c, hcs, hn, hc, hm, hwf, h⟩ := h
  refine ⟨A, n, c, hcs, hn, hc, hm, fun hF' => noO_le hf.2 (hwf ?_), ?_⟩
  ·have h1 := hf.1
   cases hF : F.hd <;> cases hF2 : F'.hd <;> rw [hF, hF2] at h1 <;> first | rfl | (cases h1; done) | (rw [hF2] at hF'; cases hF')
  rcases h with h | ⟨b, off, C, t, fz, hA, hl, hh, hs, hw, hj⟩
  ·refine .inl ⟨fun hF' => h.1 ?_, h.2⟩
   have h1 := hf.1
   cases hF : F.hd <;> cases hF2 : F'.hd <;> rw [hF, hF2] at h1 <;> first | rfl | (cases h1; done) | (rw [hF2] at hF'; cases hF')
  ·refine .inr ⟨b, off, C, t, fz, hA, ?_, hh, hs, fun e => ?_, fun j x hx => ih hf.2 (hj j x hx)⟩
   ·have h1 := hf.1
    cases hF : F.hd <;> cases hF' : F'.hd <;> rw [hF, hF'] at h1 <;> first
     | (cases h1; done)
     | (rw [hF] at hl; exact hl)
     | (rw [hF] at hl; exact .inl hl)
   ·refine hw ?_
    have h1 := hf.1
    rw [e] at h1
    cases hF : F.hd <;> rw [hF] at h1 <;> first | rfl | cases h1
 | arr n e ih => intro F F' id p cs x _ h; exact h
 | pr a b iha ihb =>
  intro F F' id p cs x hf h
  simp only [flR, Bool.and_eq_true] at hf
  obtain ⟨c1, c2, rfl, h1, h2⟩ := h
  exact ⟨c1, c2, rfl, iha hf.1 h1, ihb hf.2 h2⟩
 | pt => intro F F' id p cs x _ h; exact h
 | er => intro F F' id p cs x _ h; exact h
structure Lends (G G' : Gh) (w : World) : Prop where
 per : ∀ b, G.g b = .per → G'.g b = .per
 bor : ∀ b, G.g b = .bor → G'.g b = .bor
theorem Tr.lend {G G' : Gh} {w : World} (hk : Lends G G' w) : ∀ {T : Ty} {F F' : Fl} {id id' : Id} {p p' : List Nat} {cs : List Value} {x : T.den},
  (∀ b q, G.g b = .own id (p ++ q) → G'.g b = .bor) → flR Fo.lend T F F' = true → Tr G w T F id p cs x → Tr G' w T F' id' p' cs x := by
 intro T
 induction T with
 | int k => intro F F' id id' p p' cs x _ _ h; exact h
 | bool => intro F F' id id' p p' cs x _ _ h; exact h
 | str => intro F F' id id' p p' cs x _ _ h; exact h
 | sl e ih =>
  intro F F' id id' p p' cs x ho hf h
  simp only [flR, Bool.and_eq_true] at hf
  obtain ⟨A, n, c, hcs, hn, hc, hm, hwf, h⟩ := h
  refine ⟨A, n, c, hcs, hn, hc, hm, fun _ => noO_lend hf.2, ?_⟩
  rcases h with h | ⟨b, off, C, t, fz, hA, hl, hh, hs, hw, hj⟩
  ·refine .inl ⟨fun hF' => ?_, h.2⟩
   have h1 := hf.1
   cases hF : F.hd <;> cases hF2 : F'.hd <;> rw [hF, hF2] at h1 <;> first | (cases h1; done) | (rw [hF2] at hF'; cases hF')
  ·refine .inr ⟨b, off, C, t, fz, hA, ?_, hh, hs, fun e => ?_, fun j x hx => ih (fun b q hq => ho b ([j] ++ q) (by rw [← List.append_assoc]; exact hq)) hf.2 (hj j x hx)⟩
   ·have h1 := hf.1
    have hw' : G.g b = .own id p → G'.g b = .bor := fun h => ho b [] (by rw [List.append_nil]; exact h)
    cases hF : F.hd <;> cases hF' : F'.hd <;> rw [hF, hF'] at h1 <;> first
     | (cases h1; done)
     | (rw [hF] at hl; exact hk.per b hl)
     | (rw [hF] at hl; exact .inl (hk.per b hl))
     | (rw [hF] at hl; exact hl.elim (fun h => .inl (hk.per b h)) (fun h => .inr (hk.bor b h)))
     | (rw [hF] at hl; exact .inr (hw' hl))
   ·have h1 := hf.1
    rw [e] at h1
    cases hF : F.hd <;> rw [hF] at h1 <;> cases h1
 | arr n e ih => intro F F' id id' p p' cs x ho _ h; exact ⟨h.1, h.2.1, fun j y hy => Tr.keep (G := G) (G' := G') ⟨fun b hb => ⟨hk.per b hb, rfl⟩, fun b hb => ⟨hk.bor b hb, rfl⟩⟩ (noO_p e) (h.2.2 j y hy)⟩
 | pr a b iha ihb =>
  intro F F' id id' p p' cs x ho hf h
  simp only [flR, Bool.and_eq_true] at hf
  obtain ⟨c1, c2, rfl, h1, h2⟩ := h
  exact ⟨c1, c2, rfl, iha (fun b q hq => ho b ([0] ++ q) (by rw [← List.append_assoc]; exact hq)) hf.1 h1, ihb (fun b q hq => ho b ([1] ++ q) (by rw [← List.append_assoc]; exact hq)) hf.2 h2⟩
 | pt => intro F F' id id' p p' cs x _ _ h; exact h
 | er => intro F F' id id' p p' cs x _ _ h; exact ErC.keep ⟨fun b hb => ⟨hk.per b hb, rfl⟩, fun b hb => ⟨hk.bor b hb, rfl⟩⟩ h
def psOf : Value → Option (List Value)
 | .func _ _ vs => some vs.toList
 | .slice none 0 0 => some [.pointer none]
 | _ => none
def MtA (G : Gh) (w : World) : At → List Value → Prop
 | .d T F x, cs => T.noO F = true ∧ Tr G w T F default [] cs x
 | .kb b, cs => cs = [.bool b]
 | .nils, cs => cs = [.slice none 0 0]
 | .own id, cs => cs = [G.ρ id]
 | .ptr id off, cs => ∃ b, G.ρ id = .pointer (some ⟨b, 0, none⟩) ∧ cs = [.pointer (some ⟨b, off, none⟩)]
 | .opt id i sz off _, cs => ∃ b o n c, G.ρ id = .slice (some ⟨b, o, none⟩) n c ∧ cs = [.pointer (some ⟨b, o + i * sz + off, none⟩)]
 | .rpt o T F x, cs => T.noO F = true ∧ o.isO = false ∧ ∃ b off C t fz, cs = [.pointer (some ⟨b, off, none⟩)] ∧ labOk G o b default [] ∧ w.heap[b]? = some (.cells C t fz) ∧ off + T.size ≤ C.size ∧
   Tr G w T F default [] (cellsAt C off T.size) x
 | .nilp, cs => cs = [.pointer none]
 | .junk, cs => ∃ v, Value.oneCell' v = true ∧ cs = [v]
 | .anyb P, cs => ∃ b, cs = [.bool b] ∧ (b = true → P)
 | .sub id lo hi sz inn, cs => ∃ A n c, G.ρ id = .slice A n c ∧ lo ≤ hi ∧ hi ≤ c ∧ (inn = true → hi ≤ n) ∧ cs = [.slice (if c = lo then A else A.map (·.add (lo * sz))) (hi - lo) (c - lo)]
 | .chp id i, cs => ∃ ps A, psOf (G.ρ id) = some ps ∧ ps[i]? = some (.pointer A) ∧ cs = [.pointer A]
 | .chf id i off, cs => ∃ ps b, psOf (G.ρ id) = some ps ∧ ps[i]? = some (.pointer (some ⟨b, 0, none⟩)) ∧ cs = [.pointer (some ⟨b, off, none⟩)]
 | .lnk id0 off id i sz, cs => (i = 0 ∧ ∃ b, G.ρ id0 = .pointer (some ⟨b, 0, none⟩) ∧ cs = [.pointer (some ⟨b, off, none⟩)]) ∨
   ∃ k ps b, i = k + 1 ∧ psOf (G.ρ id) = some ps ∧ ps[k]? = some (.pointer (some ⟨b, 0, none⟩)) ∧ cs = [.pointer (some ⟨b, sz, none⟩)]
 | .vp id off i _ e, cs => ∃ b, G.ρ id = .pointer (some ⟨b, 0, none⟩) ∧ cs = [.pointer (some ⟨b, off + i * e.size, none⟩)]
 | .vsl id off n _, cs => ∃ b, G.ρ id = .pointer (some ⟨b, 0, none⟩) ∧ cs = [.slice (some ⟨b, off, none⟩) n n]
def MtL (G : Gh) (w : World) : List At → List Value → Prop
 | [], cs => cs = []
 | a :: r, cs => ∃ c1 c2, cs = c1 ++ c2 ∧ MtA G w a c1 ∧ MtL G w r c2
theorem MtA.len {G : Gh} {w : World} {a : At} {cs : List Value} (h : MtA G w a cs) : cs.length = a.size := by
 cases a with
 | d T F x => exact h.2.len
 | kb b => rw [show cs = _ from h]; rfl
 | nils => rw [show cs = _ from h]; rfl
 | own id => rw [show cs = _ from h]; rfl
 | ptr id off => obtain ⟨b, _, h⟩ := h; rw [h]; rfl
 | opt id i sz off T => obtain ⟨b, o, n, c, _, h⟩ := h; rw [h]; rfl
 | rpt o T F x => obtain ⟨_, _, b, off, C, t, fz, h, _⟩ := h; rw [h]; rfl
 | nilp => rw [show cs = _ from h]; rfl
 | junk => obtain ⟨v, _, h⟩ := h; rw [h]; rfl
 | anyb P => obtain ⟨b, h, _⟩ := h; rw [h]; rfl
 | sub id lo hi sz inn => obtain ⟨A, n, c, _, _, _, _, h⟩ := h; rw [h]; rfl
 | chp id i => obtain ⟨ps, A, _, _, h⟩ := h; rw [h]; rfl
 | chf id i off => obtain ⟨ps, b, _, _, h⟩ := h; rw [h]; rfl
 | lnk id0 off id i sz => rcases h with ⟨_, b, _, h⟩ | ⟨k, ps, b, _, _, _, h⟩ <;> (rw [h]; rfl)
 | vp id off i n e => obtain ⟨b, _, h⟩ := h; rw [h]; rfl
 | vsl id off n sz => obtain ⟨b, _, h⟩ := h; rw [h]; rfl
theorem MtL.len {G : Gh} {w : World} : ∀ {l : List At} {cs : List Value}, MtL G w l cs → cs.length = sizeL l := by
 intro l
 induction l with
 | nil => intro cs h; rw [show cs = _ from h]; rfl
 | cons a r ih =>
  intro cs h
  obtain ⟨c1, c2, rfl, h1, h2⟩ := h
  rw [List.length_append, h1.len, ih h2]
  rfl
theorem MtL.append {G : Gh} {w : World} : ∀ {l m : List At} {c d : List Value}, MtL G w l c → MtL G w m d → MtL G w (l ++ m) (c ++ d) := by
 intro l
 induction l with
 | nil => intro m c d h k; rw [show c = _ from h]; exact k
 | cons a r ih =>
  intro m c d h k
  obtain ⟨c1, c2, rfl, h1, h2⟩ := h
  exact ⟨c1, c2 ++ d, List.append_assoc _ _ _, h1, ih h2 k⟩
theorem MtL.one {G : Gh} {w : World} {a : At} {c : List Value} (h : MtA G w a c) : MtL G w [a] c := ⟨c, [], by rw [List.append_nil], h, rfl⟩
theorem MtL.one_inv {G : Gh} {w : World} {a : At} {c : List Value} (h : MtL G w [a] c) : MtA G w a c := by
 obtain ⟨c1, c2, rfl, h1, h2⟩ := h
 rw [show c2 = [] from h2, List.append_nil]
 exact h1
def MtV (G : Gh) (w : World) (ag : Bool) (l : List At) (v : Value) : Prop :=
 match ag with
 | true => ∃ cs : List Value, v = .agg cs.toArray ∧ MtL G w l cs
 | false => v.oneCell' = true ∧ MtL G w l [v]
def MtVs (G : Gh) (w : World) : List (Bool × List At) → List Value → Prop
 | [], vs => vs = []
 | (ag, l) :: r, vs => ∃ v vs', vs = v :: vs' ∧ MtV G w ag l v ∧ MtVs G w r vs'
def MtC (G : Gh) (w : World) : List At → List Value → Prop
 | [], vs => vs = []
 | a :: r, vs => ∃ v vs', vs = v :: vs' ∧ v.oneCell' = true ∧ MtA G w a [v] ∧ MtC G w r vs'
def MtS (G : Gh) (w : World) : SV → Value → Prop
 | .v ag l, v => MtV G w ag l v
 | .fn f caps, v => ∃ vs : List Value, v = .func (.func f) #[] vs.toArray ∧ MtC G w caps vs
 | .tup l, v => ∃ vs : List Value, v = .tuple vs.toArray ∧ MtVs G w l vs
 | .junk, _ => True
def MtEls (G : Gh) (w : World) (sz : Nat) (C : Array Value) (off : Nat) : List (List At) → Prop
 | [] => True
 | l :: r => MtL G w l (cellsAt C off sz) ∧ MtEls G w sz C (off + sz) r
def MpOk (G : Gh) (w : World) (ak av : Bool) (K V : Ty) (F : Fl) : List (K.den × V.den) → List MapEntry → Prop
 | [], es => es = []
 | p :: l, es => ∃ e es', es = e :: es' ∧ MtV G w ak (atomsOf K pF p.1) e.key ∧ MtV G w av (atomsOf V F p.2) e.val ∧ MpOk G w ak av K V F l es'
def labC (G : Gh) (o : Bool) (id : Id) (k b : Nat) : Prop := match o with
 | true => G.g b = .own id [k]
 | false => G.g b = .bor
def ResOk (G : Gh) (w : World) (id : Id) : Res → Prop
 | .var cs => ∃ b C t, G.ρ id = .pointer (some ⟨b, 0, none⟩) ∧ G.g b = .own id [] ∧ w.heap[b]? = some (.cells C t (0, 0)) ∧ MtL G w cs C.toList
 | .sl e f x => Tr G w (.sl e) (.sl .w f) id [] [G.ρ id] x
 | .slo e f x j cs => ∃ b off C t n c, G.ρ id = .slice (some ⟨b, off, none⟩) n c ∧ n = x.length ∧ n ≤ c ∧ n ≤ maxL ∧ j < n ∧ G.g b = .own id [] ∧ w.heap[b]? = some (.cells C t (0, 0)) ∧
   off + c * e.size ≤ C.size ∧ (∀ (k : Nat) (y : e.den), k ≠ j → x[k]? = some y → Tr G w e f id [k] (cellsAt C (off + k * e.size) e.size) y) ∧ MtL G w cs (cellsAt C (off + j * e.size) e.size)
 | .els sz css => ∃ A n c, G.ρ id = .slice A n c ∧ n = css.length ∧ n ≤ c ∧ n ≤ maxL ∧
   ((A = none ∧ c = 0) ∨ ∃ b off C t, A = some ⟨b, off, none⟩ ∧ G.g b = .own id [] ∧ w.heap[b]? = some (.cells C t (0, 0)) ∧ off + c * sz ≤ C.size ∧ MtEls G w sz C off css)
 | .mp ak av K V F l => V.noO F = true ∧ ∃ r es clk, G.ρ id = .map (some r) ∧ G.g r = .own id [] ∧ w.heap[r]? = some (.map es clk) ∧ MpOk G w ak av K V F l es.toList
 | .room i k => ∃ A n c, G.ρ i = .slice A n c ∧ k ≤ c
 | .ch o e l => ∃ ps, psOf (G.ρ id) = some ps ∧ ps[l.length]? = some (.pointer none) ∧ ∀ (k : Nat) (y : e.den), l[k]? = some y → ∃ b C t cs nx, ps[k]? = some (.pointer (some ⟨b, 0, none⟩)) ∧ ps[k + 1]? = some (.pointer nx) ∧
   labC G o id k b ∧ w.heap[b]? = some (.cells C t (0, 0)) ∧ C.toList = cs ++ [.pointer nx] ∧ Tr G w e pF default [] cs y
 | .lvar cs => ∃ b C t, G.ρ id = .pointer (some ⟨b, 0, none⟩) ∧ G.g b = .bor ∧ w.heap[b]? = some (.cells C t (0, 0)) ∧ MtL G w cs C.toList
 | .bys l => ∃ b C t fz c, G.ρ id = .slice (some ⟨b, 0, none⟩) l.length c ∧ l.length ≤ c ∧ l.length ≤ maxL ∧ G.g b = .own id [] ∧ w.heap[b]? = some (.cells C t fz) ∧ l.length ≤ fz.1 ∧ l.length ≤ C.size ∧
   ∀ (j : Nat) (x : Int), l[j]? = some x → C[j]? = some (.int .u8 x) ∧ inR .u8 x
 | .pre i n => ∃ ps ps', psOf (G.ρ id) = some ps ∧ psOf (G.ρ i) = some ps' ∧ ∀ k, k < n → ps'[k]? = ps[k]?
theorem varOf_at {G : Gh} {w : World} {id : Id} {o : Option Res} {cs : List At} (h : varOf o = some cs) (hR : ∀ R, o = some R → ResOk G w id R) : ∃ b C t, G.ρ id = .pointer (some ⟨b, 0, none⟩) ∧ (G.g b = .own id [] ∨ G.g b = .bor) ∧ w.heap[b]? = some (.cells C t (0, 0)) ∧ MtL G w cs C.toList := by
 unfold varOf at h
 split at h
 ·cases h
  obtain ⟨b, C, t, h1, h2, h3, h4⟩ := hR _ rfl
  exact ⟨b, C, t, h1, .inl h2, h3, h4⟩
 ·cases h
  obtain ⟨b, C, t, h1, h2, h3, h4⟩ := hR _ rfl
  exact ⟨b, C, t, h1, .inr h2, h3, h4⟩
 ·cases h
end Go.Sx

namespace Go.Sx
open Go Go.RowKit
structure Env where
 w0 : World
 prot : Nat → Prop
 lab : Nat → Lab
 frames : List (Array Value)
def MtT (G : Gh) (w : World) (tm : Nat → SV) (len : Nat) (a : Array Value) : Prop :=
 len = a.size ∧ ∀ i, MtS G w (tm i) (a.getD i undef)
def MtK (G : Gh) (w : World) : List (List SV) → List (Array Value) → Prop
 | [], fs => fs = []
 | t :: r, fs => ∃ f fs', fs = f :: fs' ∧ MtT G w (getT t) t.length f ∧ MtK G w r fs'
def RhoOk (G : Gh) : Prop := ∀ id, (G.ρ id).oneCell' = true
structure SatF (E : Env) (tm : Nat → SV) (len : Nat) (lk : Id → Option Res) (stk : List (List SV)) (old : Id → Prop) (G : Gh) (a : Act) (w : World) : Prop where
 tms : MtT G w tm len a.tmps
 rs : ∀ id R, lk id = some R → ResOk G w id R
 st : MtK G w stk E.frames
 bnd : ∀ b, G.g b ≠ .no → b < w.heap.size
 df : a.defers = []
 one : RhoOk G
 tmO : ∀ i, ∀ id ∈ (tm i).ids, old id
 rsO : ∀ id R, lk id = some R → old id ∧ ∀ j ∈ R.ids, old j
 stO : ∀ id ∈ idsK stk, old id
 os : w.os = E.w0.os
 tape : w.tape = E.w0.tape
 output : w.output = E.w0.output
 size : E.w0.heap.size ≤ w.heap.size
 prot : ∀ b, E.prot b → b < E.w0.heap.size ∧ w.heap[b]? = E.w0.heap[b]? ∧ G.g b = E.lab b ∧ E.lab b ≠ .out ∧ ∀ id p, E.lab b ≠ .own id p
 outs : ∀ b, b < E.w0.heap.size → E.lab b = .out → G.g b = .out
def Sat (E : Env) (st : St) (G : Gh) (a : Act) (w : World) : Prop :=
 SatF E (getT st.tmps) st.tmps.length (look st.res) st.stk (fun id => id.r ≤ st.ctr) G a w
structure Chg (old : Id → Prop) (chg : Id → Prop) (G G' : Gh) (w w' : World) : Prop where
 rho : ∀ id, old id → G'.ρ id = G.ρ id
 pb : KeepPB G G' w w'
 own : ∀ b id p, G.g b = .own id p → ¬ chg id → G'.g b = .own id p ∧ w'.heap[b]? = w.heap[b]?
 no : ∀ b, b < w.heap.size → G.g b = .no → w'.heap[b]? = w.heap[b]? ∧ G'.g b = .no
 bnd : ∀ b, G'.g b ≠ .no → b < w'.heap.size
 one : RhoOk G → RhoOk G'
 os : w'.os = w.os
 tape : w'.tape = w.tape
 output : w'.output = w.output
 size : w.heap.size ≤ w'.heap.size
 out : ∀ b, b < w.heap.size → G.g b = .out → G'.g b = .out
theorem MtA.keep {old chg : Id → Prop} {G G' : Gh} {w w' : World} (h : Chg old chg G G' w w') {a : At} {cs : List Value} (ho : ∀ id ∈ a.ids, old id) (m : MtA G w a cs) : MtA G' w' a cs := by
 cases a with
 | d T F x => exact ⟨m.1, m.2.keep h.pb m.1⟩
 | kb b => exact m
 | nils => exact m
 | own id => have := h.rho id (ho id (by simp [At.ids])); rw [show cs = _ from m, ← this]; rfl
 | ptr id off =>
  have := h.rho id (ho id (by simp [At.ids]))
  obtain ⟨b, h1, h2⟩ := m
  exact ⟨b, this.trans h1, h2⟩
 | opt id i sz off T =>
  have := h.rho id (ho id (by simp [At.ids]))
  obtain ⟨b, o, n, c, h1, h2⟩ := m
  exact ⟨b, o, n, c, this.trans h1, h2⟩
 | rpt o T F x =>
  obtain ⟨h0, ho', b, off, C, t, fz, h1, h2, h3, h4, h5⟩ := m
  have hl := labOk_keep h.pb (id' := default) (p' := []) ho' h2
  exact ⟨h0, ho', b, off, C, t, fz, h1, hl.1, by rw [hl.2]; exact h3, h4, h5.keep h.pb h0⟩
 | nilp => exact m
 | junk => exact m
 | anyb P => exact m
 | sub id lo hi sz inn =>
  have := h.rho id (ho id (by simp [At.ids]))
  obtain ⟨A, n, c, h1, h2⟩ := m
  exact ⟨A, n, c, this.trans h1, h2⟩
 | chp id i =>
  have := h.rho id (ho id (by simp [At.ids]))
  obtain ⟨ps, A, h1, h2⟩ := m
  exact ⟨ps, A, by rw [this]; exact h1, h2⟩
 | chf id i off =>
  have := h.rho id (ho id (by simp [At.ids]))
  obtain ⟨ps, b, h1, h2⟩ := m
  exact ⟨ps, b, by rw [this]; exact h1, h2⟩
 | lnk id0 off id i sz =>
  have t0 := h.rho id0 (ho id0 (by simp [At.ids]))
  have t1 := h.rho id (ho id (by simp [At.ids]))
  rcases m with ⟨h1, b, h2, h3⟩ | ⟨k, ps, b, h1, h2, h3⟩
  ·exact .inl ⟨h1, b, t0.trans h2, h3⟩
  ·exact .inr ⟨k, ps, b, h1, by rw [t1]; exact h2, h3⟩
 | vp id off i n e =>
  have := h.rho id (ho id (by simp [At.ids]))
  obtain ⟨b, h1, h2⟩ := m
  exact ⟨b, this.trans h1, h2⟩
 | vsl id off n sz =>
  have := h.rho id (ho id (by simp [At.ids]))
  obtain ⟨b, h1, h2⟩ := m
  exact ⟨b, this.trans h1, h2⟩
theorem MtL.keep {old chg : Id → Prop} {G G' : Gh} {w w' : World} (h : Chg old chg G G' w w') : ∀ {l : List At} {cs : List Value}, (∀ id ∈ idsL l, old id) → MtL G w l cs → MtL G' w' l cs := by
 intro l
 induction l with
 | nil => intro cs _ m; exact m
 | cons a r ih =>
  intro cs ho m
  obtain ⟨c1, c2, rfl, h1, h2⟩ := m
  exact ⟨c1, c2, rfl, h1.keep h fun id hi => ho id (by simp [idsL, hi]), ih (fun id hi => ho id (by simp [idsL, hi])) h2⟩
theorem MtV.keep {old chg : Id → Prop} {G G' : Gh} {w w' : World} (h : Chg old chg G G' w w') {ag : Bool} {l : List At} {v : Value} (ho : ∀ id ∈ idsL l, old id) (m : MtV G w ag l v) : MtV G' w' ag l v := by
 cases ag with
 | true => obtain ⟨cs, h1, h2⟩ := m; exact ⟨cs, h1, h2.keep h ho⟩
 | false => exact ⟨m.1, m.2.keep h ho⟩
theorem MtVs.keep {old chg : Id → Prop} {G G' : Gh} {w w' : World} (h : Chg old chg G G' w w') : ∀ {l : List (Bool × List At)} {vs : List Value}, (∀ id ∈ idsT l, old id) → MtVs G w l vs → MtVs G' w' l vs := by
 intro l
 induction l with
 | nil => intro vs _ m; exact m
 | cons a r ih =>
  intro vs ho m
  obtain ⟨ag, l⟩ := a
  obtain ⟨v, vs', rfl, h1, h2⟩ := m
  exact ⟨v, vs', rfl, h1.keep h fun id hi => ho id (by simp [idsT, hi]), ih (fun id hi => ho id (by simp [idsT, hi])) h2⟩
theorem MtC.keep {old chg : Id → Prop} {G G' : Gh} {w w' : World} (h : Chg old chg G G' w w') : ∀ {l : List At} {vs : List Value}, (∀ id ∈ idsL l, old id) → MtC G w l vs → MtC G' w' l vs := by
 intro l
 induction l with
 | nil => intro vs _ m; exact m
 | cons a r ih =>
  intro vs ho m
  obtain ⟨v, vs', rfl, h1, h2, h3⟩ := m
  exact ⟨v, vs', rfl, h1, h2.keep h fun id hi => ho id (by simp [idsL, hi]), ih (fun id hi => ho id (by simp [idsL, hi])) h3⟩
theorem MtS.keep {old chg : Id → Prop} {G G' : Gh} {w w' : World} (h : Chg old chg G G' w w') {s : SV} {v : Value} (ho : ∀ id ∈ s.ids, old id) (m : MtS G w s v) : MtS G' w' s v := by
 cases s with
 | v ag l => exact MtV.keep h ho m
 | fn f caps => obtain ⟨vs, h1, h2⟩ := m; exact ⟨vs, h1, h2.keep h ho⟩
 | tup l => obtain ⟨vs, h1, h2⟩ := m; exact ⟨vs, h1, h2.keep h ho⟩
 | junk => trivial
theorem MtEls.keep {old chg : Id → Prop} {G G' : Gh} {w w' : World} (h : Chg old chg G G' w w') {sz : Nat} {C : Array Value} : ∀ {l : List (List At)} {off : Nat}, (∀ id ∈ idsLL l, old id) → MtEls G w sz C off l → MtEls G' w' sz C off l := by
 intro l
 induction l with
 | nil => intro off _ m; exact m
 | cons a r ih => intro off ho m; exact ⟨m.1.keep h fun id hi => ho id (by simp [idsLL, hi]), ih (fun id hi => ho id (by simp [idsLL, hi])) m.2⟩
theorem idsL_app (l m : List At) : idsL (l ++ m) = idsL l ++ idsL m := by
 induction l with
 | nil => rfl
 | cons a l ih => simp [idsL, ih]
theorem atomsOf_ids : ∀ {T : Ty} {F : Fl} {x : T.den}, idsL (atomsOf T F x) = [] := by
 intro T
 induction T with
 | pr a b iha ihb => intro F x; simp only [atomsOf]; rw [idsL_app, iha, ihb]; rfl
 | _ => intro F x; rfl
theorem MpOk.keep {old chg : Id → Prop} {G G' : Gh} {w w' : World} (h : Chg old chg G G' w w') {ak av : Bool} {K V : Ty} {F : Fl} : ∀ {l : List (K.den × V.den)} {es : List MapEntry}, MpOk G w ak av K V F l es → MpOk G' w' ak av K V F l es := by
 intro l
 induction l with
 | nil => intro es m; exact m
 | cons p l ih =>
  intro es m
  obtain ⟨e, es', h1, h2, h3, h4⟩ := m
  exact ⟨e, es', h1, h2.keep h (by rw [atomsOf_ids]; simp), h3.keep h (by rw [atomsOf_ids]; simp), ih h4⟩
theorem ResOk.keep {old chg : Id → Prop} {G G' : Gh} {w w' : World} (h : Chg old chg G G' w w') {id : Id} {R : Res} (hid : old id) (ho : ∀ j ∈ R.ids, old j) (hc : ¬ chg id) (m : ResOk G w id R) : ResOk G' w' id R := by
 have hown : ∀ b q, G.g b = .own id q → G'.g b = .own id q ∧ w'.heap[b]? = w.heap[b]? := fun b q hb => h.own b id q hb hc
 cases R with
 | var cs =>
  obtain ⟨b, C, t, h1, h2, h3, h4⟩ := m
  exact ⟨b, C, t, (h.rho id hid).trans h1, (hown b [] h2).1, by rw [(hown b [] h2).2]; exact h3, h4.keep h ho⟩
 | sl e f x =>
  show Tr G' w' (.sl e) (.sl .w f) id [] [G'.ρ id] x
  rw [h.rho id hid]
  exact Tr.mono h.pb (fun b q hb => by simpa using hown b q (by simpa using hb)) m
 | slo e f x j cs =>
  obtain ⟨b, off, C, t, n, c, h1, h2, h3, h4, h5, h6, h7, h8, h9, h10⟩ := m
  refine ⟨b, off, C, t, n, c, (h.rho id hid).trans h1, h2, h3, h4, h5, (hown b [] h6).1, by rw [(hown b [] h6).2]; exact h7, h8, fun k y hk hy => ?_, h10.keep h ho⟩
  exact Tr.mono h.pb (fun b q hb => hown b _ hb) (h9 k y hk hy)
 | els sz css =>
  obtain ⟨A, n, c, h1, h2, h3, h4, h5⟩ := m
  refine ⟨A, n, c, (h.rho id hid).trans h1, h2, h3, h4, ?_⟩
  rcases h5 with h5 | ⟨b, off, C, t, h6, h7, h8, h9, h10⟩
  ·exact .inl h5
  ·exact .inr ⟨b, off, C, t, h6, (hown b [] h7).1, by rw [(hown b [] h7).2]; exact h8, h9, h10.keep h ho⟩
 | mp ak av K V F l =>
  obtain ⟨h0, r, es, clk, h1, h2, h3, h4⟩ := m
  exact ⟨h0, r, es, clk, (h.rho id hid).trans h1, (hown r [] h2).1, by rw [(hown r [] h2).2]; exact h3, h4.keep h⟩
 | room i k =>
  obtain ⟨A, n, c, h1, h2⟩ := m
  exact ⟨A, n, c, (h.rho i (ho i (by simp [Res.ids]))).trans h1, h2⟩
 | ch o e l =>
  obtain ⟨ps, h1, h2, h3⟩ := m
  refine ⟨ps, by rw [h.rho id hid]; exact h1, h2, fun k y hy => ?_⟩
  obtain ⟨b, C, t, cs, nx, g1, g2, g3, g4, g5, g6⟩ := h3 k y hy
  have hb : labC G' o id k b ∧ w'.heap[b]? = w.heap[b]? := by
   cases o with
   | true => exact hown b [k] g3
   | false => exact h.pb.bor b g3
  exact ⟨b, C, t, cs, nx, g1, g2, hb.1, by rw [hb.2]; exact g4, g5, g6.keep h.pb (noO_p e)⟩
 | lvar cs =>
  obtain ⟨b, C, t, h1, h2, h3, h4⟩ := m
  exact ⟨b, C, t, (h.rho id hid).trans h1, (h.pb.bor b h2).1, by rw [(h.pb.bor b h2).2]; exact h3, h4.keep h ho⟩
 | bys l =>
  obtain ⟨b, C, t, fz, c, h1, h2, h3, h4, h5, h6⟩ := m
  have hb := hown b [] h4
  exact ⟨b, C, t, fz, c, (h.rho id hid).trans h1, h2, h3, hb.1, by rw [hb.2]; exact h5, h6⟩
 | pre i n =>
  obtain ⟨ps, ps', h1, h2, h3⟩ := m
  exact ⟨ps, ps', by rw [h.rho id hid]; exact h1, by rw [h.rho i (ho i (by simp [Res.ids]))]; exact h2, h3⟩
theorem mem_idsS_getT {t : List SV} : ∀ {i : Nat} {id : Id}, id ∈ (getT t i).ids → id ∈ idsS t := by
 induction t with
 | nil => intro i id h; simp [getT, SV.ids] at h
 | cons x xs ih => intro i id h; cases i with
  | zero => simp only [idsS, List.mem_append]; exact .inl h
  | succ i => simp only [idsS, List.mem_append]; exact .inr (ih h)
theorem MtK.keep {old chg : Id → Prop} {G G' : Gh} {w w' : World} (h : Chg old chg G G' w w') : ∀ {l : List (List SV)} {fs : List (Array Value)}, (∀ id ∈ idsK l, old id) → MtK G w l fs → MtK G' w' l fs := by
 intro l
 induction l with
 | nil => intro fs _ m; exact m
 | cons t r ih =>
  intro fs ho m
  obtain ⟨f, fs', rfl, h1, h2⟩ := m
  refine ⟨f, fs', rfl, ⟨h1.1, fun i => (h1.2 i).keep h fun id hi => ho id ?_⟩, ih (fun id hi => ho id (by simp [idsK, hi])) h2⟩
  simp only [idsK, List.mem_append]
  exact .inl (mem_idsS_getT hi)
def updL (lk : Id → Option Res) : List (Id × Option Res) → Id → Option Res
 | [] => lk
 | (i, x) :: us => updL (fun j => if j = i then x else lk j) us
def updT (tm : Nat → SV) (dst : Option Tmp) (len : Nat) (v : SV) : Nat → SV := fun i => if dst = some i ∧ i < len then v else tm i
theorem updL_cases (us : List (Id × Option Res)) : ∀ (lk : Id → Option Res) (id : Id) (R : Res), updL lk us id = some R →
  (id ∉ us.map (·.1) ∧ lk id = some R) ∨ (id, some R) ∈ us := by
 induction us with
 | nil => intro lk id R h; exact .inl ⟨by simp, h⟩
 | cons u us ih =>
  intro lk id R h
  obtain ⟨i, x⟩ := u
  rcases ih _ id R h with ⟨h1, h2⟩ | h1
  ·by_cases hi : id = i
   ·subst hi
    simp only [if_true] at h2
    exact .inr (by rw [← h2]; exact List.mem_cons_self)
   ·rw [if_neg hi] at h2
    exact .inl ⟨by simp only [List.map_cons, List.mem_cons, not_or]; exact ⟨hi, h1⟩, h2⟩
  ·exact .inr (List.mem_cons_of_mem _ h1)
theorem mem_idsU {us : List (Id × Option Res)} : ∀ {id : Id} {R : Res}, (id, some R) ∈ us → id ∈ idsU us ∧ ∀ j ∈ R.ids, j ∈ idsU us := by
 induction us with
 | nil => intro id R h; cases h
 | cons u us ih =>
  intro id R h
  obtain ⟨i, x⟩ := u
  cases h with
  | head => exact ⟨by simp [idsU], fun j hj => by simp [idsU, hj]⟩
  | tail _ h =>
   have := ih h
   cases x with
   | none => simp only [idsU, List.mem_cons]; exact ⟨.inr this.1, fun j hj => .inr (this.2 j hj)⟩
   | some S => simp only [idsU, List.mem_cons, List.mem_append]; exact ⟨.inr this.1, fun j hj => .inr (this.2 j hj)⟩
theorem getD_put (a : Act) (dst : Option Tmp) (v : Value) (i : Nat) : (a.put dst v).tmps.getD i undef = if dst = some i ∧ i < a.tmps.size then v else a.tmps.getD i undef := by
 cases dst with
 | none => simp [Act.put]
 | some d =>
  by_cases h : d = i
  ·subst h
   by_cases hl : d < a.tmps.size
   ·simp [Act.put, hl]
   ·simp [Act.put, hl]
  ·simp [Act.put, h, Array.getElem?_setIfInBounds_ne h]
theorem size_put (a : Act) (dst : Option Tmp) (v : Value) : (a.put dst v).tmps.size = a.tmps.size := by cases dst <;> simp [Act.put]
theorem defers_put (a : Act) (dst : Option Tmp) (v : Value) : (a.put dst v).defers = a.defers := by cases dst <;> rfl
theorem SatF.step {E : Env} {tm : Nat → SV} {len : Nat} {lk : Id → Option Res} {stk : List (List SV)} {old old' : Id → Prop} {G G' : Gh} {a : Act} {w w' : World} {dst : Option Tmp} {sv : SV} {v : Value}
  {us : List (Id × Option Res)} (s : SatF E tm len lk stk old G a w) (h : Chg old (fun id => id ∈ us.map (·.1)) G G' w w') (hv : dst ≠ none → MtS G' w' sv v)
  (hr : ∀ id R, (id, some R) ∈ us → ResOk G' w' id R) (hoo : ∀ id, old id → old' id) (hids : ∀ id ∈ sv.ids ++ idsU us, old' id) :
  SatF E (updT tm dst len sv) len (updL lk us) stk old' G' (a.put dst v) w' := by
 refine ⟨⟨by rw [size_put]; exact s.tms.1, fun i => ?_⟩, fun id R hR => ?_, s.st.keep h s.stO, h.bnd, by rw [defers_put]; exact s.df, h.one s.one, fun i id hi => ?_, fun id R hR => ?_, fun id hi => hoo id (s.stO id hi),
  h.os.trans s.os, h.tape.trans s.tape, h.output.trans s.output, Nat.le_trans s.size h.size, fun b hb => ?_, fun b hlt hb => h.out b (Nat.lt_of_lt_of_le hlt s.size) (s.outs b hlt hb)⟩
 ·rw [getD_put]
  unfold updT
  rw [← s.tms.1]
  split
  ·rename_i hc
   exact hv (by rw [hc.1]; simp)
  ·exact (s.tms.2 i).keep h (s.tmO i)
 ·rcases updL_cases us lk id R hR with ⟨h1, h2⟩ | h1
  ·exact (s.rs id R h2).keep h (s.rsO id R h2).1 (s.rsO id R h2).2 h1
  ·exact hr id R h1
 ·unfold updT at hi
  split at hi
  ·exact hids id (List.mem_append_left _ hi)
  ·exact hoo id (s.tmO i id hi)
 ·rcases updL_cases us lk id R hR with ⟨h1, h2⟩ | h1
  ·exact ⟨hoo id (s.rsO id R h2).1, fun j hj => hoo j ((s.rsO id R h2).2 j hj)⟩
  ·exact ⟨hids id (List.mem_append_right _ (mem_idsU h1).1), fun j hj => hids j (List.mem_append_right _ ((mem_idsU h1).2 j hj))⟩
 ·obtain ⟨h1, h2, h3, h4⟩ := s.prot b hb
  have hlt : b < w.heap.size := Nat.lt_of_lt_of_le h1 s.size
  cases hg : G.g b with
  | no => exact ⟨h1, ((h.no b hlt hg).1).trans h2, by rw [(h.no b hlt hg).2, ← h3, hg], h4⟩
  | per => exact ⟨h1, (h.pb.per b hg).2.trans h2, by rw [(h.pb.per b hg).1, ← h3, hg], h4⟩
  | bor => exact ⟨h1, (h.pb.bor b hg).2.trans h2, by rw [(h.pb.bor b hg).1, ← h3, hg], h4⟩
  | own id p => rw [hg] at h3; exact absurd h3.symm (h4.2 id p)
  | out => rw [hg] at h3; exact absurd h3.symm h4.1
end Go.Sx

namespace Go.Sx
open Go Go.RowKit
inductive DI
 | int (k : IntKind) | bool | str | sl (el : TypeId) | arr (n : Nat) (el : TypeId) | st (l : List (Nat × TypeId)) | ptr | ifc | other
def dinfo : Option TypeDesc → DI
 | some (.int k) => .int k
 | some .bool => .bool
 | some .string => .str
 | some (.slice e) => .sl e
 | some (.array n e) => .arr n e
 | some (.pointer _) => .ptr
 | some (.interface _) => .ifc
 | some (.struct fs) => .st (fs.toList.map fun f => (f.offset, f.type))
 | _ => .other
def zeroCells : Ty → List Value
 | .int k => [.int k 0]
 | .bool => [.bool false]
 | .str => [.string ⟨#[]⟩]
 | .sl _ => [.slice none 0 0]
 | .arr n e => (List.replicate n (zeroCells e)).flatten
 | .pr a b => zeroCells a ++ zeroCells b
 | .pt => [.pointer none]
 | .er => [.nilIface]
def mkV (ag : Bool) (cs : List Value) : Value := match ag with | true => .agg cs.toArray | false => cs.headD undef
def offsFrom (T : Ty) (nf : Nat) : Nat → List TypeId → List (Nat × TypeId)
 | _, [] => []
 | f, t :: r => (fieldOff T nf f, t) :: offsFrom T nf (f + 1) r
def TE.di (te : TE) : DI := match te.fts with
 | [] => (match te.T with
  | .int k => .int k
  | .bool => .bool
  | .str => .str
  | .sl _ => .sl te.el
  | .arr n _ => .arr n te.el
  | .pr _ _ => .other
  | .pt => .ptr
  | .er => .ifc)
 | t :: r => .st (offsFrom te.T te.nf 0 (t :: r))
def DI.agg : DI → Bool
 | .arr _ _ | .st _ => true
 | _ => false
structure TEOk (P : Program) (te : TE) : Prop where
 info : (P.info? te.t).map (fun i => (i.zero, i.size, i.bytes)) = some (some (mkV te.ag (zeroCells te.T)), te.T.size, te.by_)
 di : dinfo (P.underlying te.t) = te.di
 nf : te.nf = te.fts.length
 ag : te.ag = te.di.agg
def elChk (tt : TT) (el : TypeId) (e : Ty) : Bool := match ttOf tt el with | some te => te.T.beq e && !(Nat.beq te.T.size 0) | none => false
def fldChk (tt : TT) (T : Ty) (nf : Nat) : Nat → List TypeId → Bool
 | _, [] => true
 | f, t :: r => elChk tt t (fieldTy T pF nf f 0).1 && fldChk tt T nf (f + 1) r
def teChk (tt : TT) (te : TE) : Bool := match te.fts with
 | [] => (match te.T with
  | .sl e => elChk tt te.el e
  | .arr _ e => elChk tt te.el e
  | .pr _ _ => false
  | _ => true)
 | t :: r => fldChk tt te.T te.nf 0 (t :: r)
structure TtOk (P : Program) (tt : TT) : Prop where
 row : ∀ te ∈ tt, TEOk P te
 chk : tt.all (teChk tt) = true
theorem ttOf_mem {tt : TT} {t : TypeId} {te : TE} (h : ttOf tt t = some te) : te ∈ tt ∧ te.t = t := by
 induction tt with
 | nil => cases h
 | cons e es ih =>
  simp only [ttOf] at h
  cases hb : Nat.beq e.t t with
  | true => rw [hb] at h; simp only [cond_true, Option.some.injEq] at h; subst h; exact ⟨List.mem_cons_self, Nat.eq_of_beq_eq_true hb⟩
  | false => rw [hb] at h; exact ⟨List.mem_cons_of_mem _ (ih h).1, (ih h).2⟩
theorem TtOk.at {P : Program} {tt : TT} (T : TtOk P tt) {t : TypeId} {te : TE} (h : ttOf tt t = some te) : TEOk P te ∧ te.t = t ∧ teChk tt te = true :=
 ⟨T.row te (ttOf_mem h).1, (ttOf_mem h).2, List.all_eq_true.1 T.chk te (ttOf_mem h).1⟩
theorem elChk_spec {tt : TT} {el : TypeId} {e : Ty} (h : elChk tt el e = true) : ∃ te, ttOf tt el = some te ∧ te.T = e ∧ e.size ≠ 0 := by
 unfold elChk at h
 cases ht : ttOf tt el with
 | none => rw [ht] at h; cases h
 | some te =>
  rw [ht] at h
  simp only [Bool.and_eq_true, Bool.not_eq_true'] at h
  have he := Ty.eq_of_beq h.1
  exact ⟨te, rfl, he, fun h0 => by have := h.2; rw [he, h0] at this; simp at this⟩
section
variable {P : Program} {tt : TT} (T : TtOk P tt) {t : TypeId} {te : TE} (h : ttOf tt t = some te)
include T h
theorem info_at : ∃ i, P.info? t = some i ∧ i.zero = some (mkV te.ag (zeroCells te.T)) ∧ i.size = te.T.size ∧ i.bytes = te.by_ := by
 obtain ⟨r, rfl, _⟩ := T.at h
 have := r.info
 cases hi : P.info? te.t with
 | none => rw [hi] at this; cases this
 | some i => rw [hi] at this; simp at this; exact ⟨i, rfl, this.1, this.2.1, this.2.2⟩
theorem run_size_at (w : World) : (sizeOf t).run P w = .ok te.T.size w := by
 obtain ⟨i, hi, _, hs, _⟩ := info_at T h
 simp [sizeOf, typeInfo, hi, hs]
theorem run_zero_at (w : World) : (zeroValue t).run P w = .ok (mkV te.ag (zeroCells te.T)) w := by
 obtain ⟨i, hi, hz, _, _⟩ := info_at T h
 simp [zeroValue, typeInfo, hi, hz]
theorem und_at : ∃ d, P.underlying t = some d ∧ dinfo (some d) = te.di := by
 obtain ⟨r, rfl, c⟩ := T.at h
 have := r.di
 cases hu : P.underlying te.t with
 | some d => rw [hu] at this; exact ⟨d, rfl, this⟩
 | none =>
  rw [hu] at this
  exfalso
  unfold TE.di at this
  unfold teChk at c
  cases hf : te.fts with
  | nil =>
   rw [hf] at this c
   cases hT : te.T <;> rw [hT] at this c <;> simp [dinfo] at this c
  | cons x xs => rw [hf] at this; simp [dinfo] at this
theorem run_agg_at (w : World) : (isAgg t).run P w = .ok te.ag w := by
 obtain ⟨d, hd, hi⟩ := und_at T h
 obtain ⟨r, _, _⟩ := T.at h
 have ha := r.ag
 rw [← hi] at ha
 unfold isAgg
 rw [Sem.run_bind, run_underlying hd w]
 cases d <;> simp [dinfo, DI.agg] at ha ⊢ <;> exact ha
theorem size_one (ha : te.ag = false) : te.T.size = 1 := by
 obtain ⟨r, _, c⟩ := T.at h
 have h1 := r.ag
 rw [ha] at h1
 unfold TE.di at h1
 unfold teChk at c
 cases hf : te.fts with
 | nil =>
  rw [hf] at h1 c
  cases hT : te.T <;> rw [hT] at h1 c <;> simp [DI.agg] at h1 c <;> rfl
 | cons x xs => rw [hf] at h1; simp [DI.agg] at h1
end
theorem cell_of_heap {w : World} {b o : Nat} {C : Array Value} {t : TypeId} {fz : Nat × Nat} (h : w.heap[b]? = some (.cells C t fz)) (j : Nat) : w.cell? ⟨b, o + j, none⟩ = C[o + j]? := by
 simp [World.cell?, h]
theorem addr_add (b o j : Nat) : (⟨b, o, none⟩ : Addr).add j = ⟨b, o + j, none⟩ := by unfold Addr.add; split <;> simp_all
theorem cellsAt_get {C : Array Value} {o n j : Nat} {v : Value} (h : (cellsAt C o n)[j]? = some v) : C[o + j]? = some v := by
 unfold cellsAt at h
 rw [List.getElem?_take] at h
 split at h
 ·rw [List.getElem?_drop] at h
  simpa using h
 ·cases h
theorem cellsAt_rows {w : World} {b o n : Nat} {C : Array Value} {t : TypeId} {fz : Nat × Nat} (h : w.heap[b]? = some (.cells C t fz)) :
  ∀ j v, (cellsAt C o n)[j]? = some v → w.cell? ((⟨b, o, none⟩ : Addr).add j) = some v := fun j v hv => by
 rw [addr_add, cell_of_heap h]
 exact cellsAt_get hv
theorem run_load_at {P : Program} {tt : TT} (T : TtOk P tt) {t : TypeId} {te : TE} (h : ttOf tt t = some te) {w : World} {b o : Nat} {C : Array Value} {t' : TypeId} {fz : Nat × Nat}
  (hh : w.heap[b]? = some (.cells C t' fz)) (hs : o + te.T.size ≤ C.size) : (Instr.loadAt t (.pointer (some ⟨b, o, none⟩))).run P w = .ok (mkV te.ag (cellsAt C o te.T.size)) w := by
 have hl := cellsAt_len hs
 unfold Instr.loadAt Instr.sureAddr loadVar
 cases ha : te.ag with
 | true =>
  have := run_loadCells_list (P := P) w ⟨b, o, none⟩ (cellsAt C o te.T.size) (cellsAt_rows hh)
  rw [hl] at this
  simp [run_agg_at T h, run_size_at T h, ha, this, mkV]
 | false =>
  have h1 := size_one T h ha
  rw [h1] at hl hs ⊢
  obtain ⟨v, hv⟩ : ∃ v, cellsAt C o 1 = [v] := by
   match hc : cellsAt C o 1, hl with
   | [v], _ => exact ⟨v, rfl⟩
  have hc := cellsAt_rows (o := o) (n := 1) hh 0 v (by rw [hv]; rfl)
  rw [addr_add, Nat.add_zero] at hc
  simp [run_agg_at T h, ha, hc, mkV, hv]
def over (C : Array Value) (o : Nat) (vs : List Value) : Array Value := (C.toList.take o ++ vs ++ C.toList.drop (o + vs.length)).toArray
theorem run_store_at {P : Program} {tt : TT} (T : TtOk P tt) {t : TypeId} {te : TE} (h : ttOf tt t = some te) {w : World} {b o : Nat} {C : Array Value} {t' : TypeId} {v : Value}
  (hh : w.heap[b]? = some (.cells C t' (0, 0))) (hs : o + te.T.size ≤ C.size) (hv : v.cells.toList.length = te.T.size) (h1 : ∀ x ∈ v.cells.toList, x.oneCell' = true) :
  (Instr.storeAt t (.pointer (some ⟨b, o, none⟩)) v).run P w = .ok () (w.setRow b (over C o v.cells.toList)) := by
 have hst := run_storeCells_at P b o t' v.cells.toList 0 C w hh (by omega) h1
 have hz : v.cells.size = te.T.size := by rw [← hv, Array.length_toList]
 simp only [Nat.add_zero] at hst
 unfold Instr.storeAt Instr.sureAddr storeVar
 simp [run_size_at T h, hz, hst, over]
end Go.Sx

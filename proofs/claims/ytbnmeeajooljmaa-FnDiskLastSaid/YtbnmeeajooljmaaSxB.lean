/- Symbolic execution, part B: contracts of functions, the run of a region. Plain definitions. -/
import Derived.Test.YtbnmeeajooljmaaSxA
set_option linter.all false
namespace Go.Sx
open Go

/-! ### Contracts -/

/-- How an argument is handed over. 'val': a value, lent; 'own': a value whose owned arrays go over; 'rp': a pointer to memory that is lent; 'ref': a pointer to a variable, which may be written; 'clo': a function; its captured variables are handed over as 'ref' (true) or 'rp' (false). -/
inductive Mode
  | val (ag : Bool) (T : Ty) (F : Fl)
  | own (ag : Bool) (T : Ty) (F : Fl)
  | rp (T : Ty) (F : Fl)
  | ref (T : Ty) (F : Fl)
  | clo (f : FuncId) (l : List (Bool × Ty × Fl))
  | mu (ag : Bool) (e : Ty) (f : Fl)

@[reducible] def dens : List (Bool × Ty × Fl) → Type
  | [] => Unit
  | p :: r => p.2.1.den × dens r
@[reducible] def Mode.den : Mode → Type
  | .val _ T _ => T.den
  | .own _ T _ => T.den
  | .rp T _ => T.den
  | .ref T _ => T.den
  | .clo _ l => dens l
  | .mu _ e _ => (Ty.sl e).den
@[reducible] def mdens : List Mode → Type
  | [] => Unit
  | m :: r => m.den × mdens r

/-- A contract: how the arguments are handed over, what must hold of them, and the state at the end: the result, and what ids stand for: (0, k, 0) is the variable that argument k points to, (0, k, 64 (c + 1)) the one that its captured variable c is, (1, a, b) is new. -/
structure Ctr where
  f : FuncId
  ins : List Mode
  pre : mdens ins → Prop
  post : mdens ins → SV × List (Id × Res)

def ctrOf : List Ctr → FuncId → Option Ctr
  | [], _ => none
  | c :: cs, f => bif Nat.beq c.f f then some c else ctrOf cs f

/-- the contents of memory that a pointer points to, lent -/
def lendAt (T : Ty) (F : Fl) (a : At) : Req (T.den × List Id) :=
  bif !(T.noO F) then .fail else match a with
  | .rpt _ T' F' x => bif Ty.beq T' T && flR Fo.le T F' F then .ok (tcast T' T x, []) else .fail
  | .ptr id off => .need id fun R => match R with
    | some (.var cs) => match takeA cs off T.size with
      | some l => (pack T F l).bind fun p => match p with
        | ⟨x, [], [], w⟩ => .ok (x, id :: w)
        | _ => .fail
      | none => .fail
    | _ => .fail
  | _ => .fail
def eqB : Bool → Bool → Bool
  | true, b => b
  | false, b => !b
/-- what the arguments take in, are lent, and which variables they point to, with their names in the contract -/
structure Taken where
  ids : List Id
  bw : List Id
  refs : List (Id × Id)
/-- a pointer to a variable, which is handed over under the name n -/
def refAt (T : Ty) (F : Fl) (a : At) (n : Id) : Req (T.den × Taken) :=
  match a with
  | .ptr id off => match off with
    | 0 => .need id fun R => match R with
      | some (.var cs) => (pack T F cs).bind fun p => match p with
        | ⟨x, [], ids, w⟩ => .ok (x, ⟨ids, w, [(id, n)]⟩)
        | _ => .fail
      | _ => .fail
    | _ + 1 => .fail
  | _ => .fail
def capAll (k : Nat) : (l : List (Bool × Ty × Fl)) → (c : Nat) → List At → Req (dens l × Taken)
  | [], _, as => match as with
    | [] => .ok ((), ⟨[], [], []⟩)
    | _ => .fail
  | (b, T, F) :: r, c, as => match as with
    | a :: as => (match b with
      | true => refAt T F a ⟨0, k, 64 * (c + 1)⟩
      | false => (lendAt T F a).bind fun x => .ok (x.1, ⟨[], x.2, []⟩)).bind fun x => match x with
        | (y, ⟨i, w, rf⟩) => (capAll k r (c + 1) as).bind fun z => match z with
          | (ys, ⟨i', w', rf'⟩) => .ok ((y, ys), ⟨i ++ i', w ++ w', rf ++ rf'⟩)
    | _ => .fail
/-- one argument -/
def match1 (k : Nat) : (m : Mode) → SV → Req (m.den × Taken)
  | .val ag T F, s => match s with
    | .v ag' l => bif eqB ag ag' && T.noO F then (pack T F l).bind fun p => match p with
      | ⟨x, [], [], w⟩ => .ok (x, ⟨[], w, []⟩)
      | _ => .fail
      else .fail
    | _ => .fail
  | .own ag T F, s => match s with
    | .v ag' l => bif eqB ag ag' then (pack T F l).bind fun p => match p with
      | ⟨x, [], ids, w⟩ => .ok (x, ⟨ids, w, []⟩)
      | _ => .fail
      else .fail
    | _ => .fail
  | .rp T F, s => match s with
    | .v false [a] => (lendAt T F a).bind fun x => .ok (x.1, ⟨[], x.2, []⟩)
    | _ => .fail
  | .ref T F, s => match s with
    | .v false [a] => refAt T F a ⟨0, k, 0⟩
    | _ => .fail
  | .clo f l, s => match s with
    | .fn f' caps => bif Nat.beq f f' then capAll k l 0 caps else .fail
    | _ => .fail
  | .mu ag e f, s => match s with
    | .v ag' [.own id] => bif eqB ag ag' then .need id fun R => match R with
      | some (.sl _ _ _) => (pack (.sl e) (.sl .w f) [.own id]).bind fun p => match p with
        | ⟨x, [], ids, w⟩ => (match ids with
          | [i] => bif i.beq id then .ok (x, ⟨[], w, [(id, ⟨0, k, 0⟩)]⟩) else .fail
          | _ => .fail)
        | _ => .fail
      | _ => .fail else .fail
    | _ => .fail
def matchArgs : (k : Nat) → (ms : List Mode) → List SV → Req (mdens ms × Taken)
  | _, [], vs => match vs with
    | [] => .ok ((), ⟨[], [], []⟩)
    | _ => .fail
  | k, m :: ms, vs => match vs with
    | s :: vs => (match1 k m s).bind fun x => match x with
      | (y, ⟨i, w, rf⟩) => (matchArgs (k + 1) ms vs).bind fun z => match z with
        | (ys, ⟨i', w', rf'⟩) => .ok ((y, ys), ⟨i ++ i', w ++ w', rf ++ rf'⟩)
    | _ => .fail

/-- the caller's names for the contract's -/
def nameIn (M : List (Id × Id)) (j : Id) : Option Id := match M with
  | [] => none
  | (i, n) :: r => bif n.beq j then some i else nameIn r j
def renId (M : List (Id × Id)) (idb : Id) (j : Id) : Option Id := match j with
  | ⟨r, a, b⟩ => match r with
    | 0 => nameIn M ⟨0, a, b⟩
    | 1 => bif Nat.blt b 64 then some (idb.plus (64 * a + b)) else none
    | _ => none
def renA (M : List (Id × Id)) (idb : Id) : At → Option At
  | .own i => (match renId M idb i with | some j => some (.own j) | none => none)
  | .ptr i o => (match renId M idb i with | some j => some (.ptr j o) | none => none)
  | .opt i k sz off T => (match renId M idb i with | some j => some (.opt j k sz off T) | none => none)
  | .sub i lo hi sz inn => (match renId M idb i with | some j => some (.sub j lo hi sz inn) | none => none)
  | .chp i k => (match renId M idb i with | some j => some (.chp j k) | none => none)
  | .chf _ _ _ => none
  | .lnk _ _ _ _ _ => none
  | .vp _ _ _ _ _ => none
  | .vsl _ _ _ _ => none
  | a => some a
def renL (M : List (Id × Id)) (idb : Id) : List At → Option (List At)
  | [] => some []
  | a :: r => match renA M idb a with
    | none => none
    | some a' => match renL M idb r with
      | none => none
      | some r' => some (a' :: r')
def renT (M : List (Id × Id)) (idb : Id) : List (Bool × List At) → Option (List (Bool × List At))
  | [] => some []
  | (ag, l) :: r => match renL M idb l with
    | none => none
    | some l' => match renT M idb r with
      | none => none
      | some r' => some ((ag, l') :: r')
def renE (M : List (Id × Id)) (idb : Id) : List (List At) → Option (List (List At))
  | [] => some []
  | l :: r => match renL M idb l with
    | none => none
    | some l' => match renE M idb r with
      | none => none
      | some r' => some (l' :: r')
def renS (M : List (Id × Id)) (idb : Id) : SV → Option SV
  | .v ag l => (match renL M idb l with | some l' => some (.v ag l') | none => none)
  | .fn f l => (match renL M idb l with | some l' => some (.fn f l') | none => none)
  | .tup l => (match renT M idb l with | some l' => some (.tup l') | none => none)
  | .junk => some .junk
def renR (M : List (Id × Id)) (idb : Id) : Res → Option Res
  | .var l => (match renL M idb l with | some l' => some (.var l') | none => none)
  | .sl e f x => some (.sl e f x)
  | .slo e f x j l => (match renL M idb l with | some l' => some (.slo e f x j l') | none => none)
  | .els sz l => (match renE M idb l with | some l' => some (.els sz l') | none => none)
  | .mp ak av K V F l => some (.mp ak av K V F l)
  | .room _ _ => none
  | .ch o e l => bif o then some (.ch true e l) else none
  | .pre _ _ => none
  | .lvar _ => none
  | .bys _ => none
def renU (M : List (Id × Id)) (idb : Id) : List (Id × Res) → Option (List (Id × Option Res))
  | [] => some []
  | (i, R) :: r => match renId M idb i with
    | none => none
    | some i' => match renR M idb R with
      | none => none
      | some R' => match renU M idb r with
        | none => none
        | some r' => some ((i', some R') :: r')
/-- nothing in it rests on what is lent -/
def nbF : Fo → Fo → Bool := fun a _ => match a with | .b => false | _ => true
def nbA : At → Bool
  | .d T F _ => flR nbF T F F
  | .rpt o T F _ => nbF o o && flR nbF T F F
  | _ => true
def nbL : List At → Bool
  | [] => true
  | a :: r => nbA a && nbL r
def nbT : List (Bool × List At) → Bool
  | [] => true
  | (_, l) :: r => nbL l && nbT r
def nbE : List (List At) → Bool
  | [] => true
  | l :: r => nbL l && nbE r
def nbS : SV → Bool
  | .v _ l => nbL l
  | .fn _ l => nbL l
  | .tup l => nbT l
  | .junk => true
def nbR : Res → Bool
  | .var l => nbL l
  | .sl e f _ => flR nbF e f f
  | .slo e f _ _ l => flR nbF e f f && nbL l
  | .els _ l => nbE l
  | .mp _ _ _ V F _ => flR nbF V F F
  | .room _ _ => true
  | .ch o _ _ => o
  | .pre _ _ => true
  | .lvar _ => false
  | .bys _ => true
def nbU : List (Id × Res) → Bool
  | [] => true
  | (_, R) :: r => nbR R && nbU r
def sCall (G : List Ctr) (f : FuncId) (idb : Id) (vals : List SV) : Req Eff :=
  match ctrOf G f with
  | none => .fail
  | some c => (matchArgs 0 c.ins vals).bind fun m => match m with
    | (x, ⟨ids, bw, refs⟩) => bif nodupN (ids ++ refs.map (·.1)) && disjN bw (ids ++ refs.map (·.1)) then
        (match c.post x with
        | (sv, us) => bif !(emptyN bw || (nbS sv && nbU us)) then .fail else match renS refs idb sv, renU refs idb us with
          | some v, some u => .ok ⟨v, drops ids ++ drops (refs.map (·.1)) ++ u, [c.pre x]⟩
          | _, _ => .fail)
      else .fail

/-! A call whose arguments are what they are: 'rs' says for each name of the caller's what it is called by the function, and what it stands for; 'ls' the same for what is only lent. -/
structure Xctr where
  f : FuncId
  rs : List (Id × Id × Res)
  ls : List (Id × Id × Res)
  args : List SV
  post : SV × List (Id × Res)
def namsOf : List (Id × Id × Res) → List (Id × Id)
  | [] => []
  | (j, i, _) :: r => (j, i) :: namsOf r
def resOf : List (Id × Id × Res) → List (Id × Res)
  | [] => []
  | (_, i, R) :: r => (i, R) :: resOf r
def namA (M : List (Id × Id)) : At → Option At
  | .own i => (match nameIn M i with | some j => some (.own j) | none => none)
  | .ptr i o => (match nameIn M i with | some j => some (.ptr j o) | none => none)
  | .opt i k sz off T => (match nameIn M i with | some j => some (.opt j k sz off T) | none => none)
  | .sub i lo hi sz inn => (match nameIn M i with | some j => some (.sub j lo hi sz inn) | none => none)
  | .chp i k => (match nameIn M i with | some j => some (.chp j k) | none => none)
  | .chf _ _ _ => none
  | .lnk _ _ _ _ _ => none
  | .vp _ _ _ _ _ => none
  | .vsl _ _ _ _ => none
  | a => some a
def namL (M : List (Id × Id)) : List At → Option (List At)
  | [] => some []
  | a :: r => match namA M a with
    | none => none
    | some a' => match namL M r with
      | none => none
      | some r' => some (a' :: r')
def namE (M : List (Id × Id)) : List (List At) → Option (List (List At))
  | [] => some []
  | l :: r => match namL M l with
    | none => none
    | some l' => match namE M r with
      | none => none
      | some r' => some (l' :: r')
def namS (M : List (Id × Id)) : SV → Option SV
  | .v ag l => (match namL M l with | some l' => some (.v ag l') | none => none)
  | .fn f l => (match namL M l with | some l' => some (.fn f l') | none => none)
  | _ => none
def namSs (M : List (Id × Id)) : List SV → Option (List SV)
  | [] => some []
  | s :: r => match namS M s with
    | none => none
    | some s' => match namSs M r with
      | none => none
      | some r' => some (s' :: r')
def namR (M : List (Id × Id)) : Res → Option Res
  | .var l => (match namL M l with | some l' => some (.var l') | none => none)
  | .sl e f x => some (.sl e f x)
  | .slo e f x j l => (match namL M l with | some l' => some (.slo e f x j l') | none => none)
  | .els sz l => (match namE M l with | some l' => some (.els sz l') | none => none)
  | .mp ak av K V F l => some (.mp ak av K V F l)
  | .room _ _ => none
  | .ch o e l => some (.ch o e l)
  | .pre _ _ => none
  | .lvar _ => none
  | .bys _ => none
/-- the names that keep what they are: pointers to variables, owned slices -/
def idsP : List At → List Id
  | [] => []
  | a :: r => match a with
    | .ptr i 0 => i :: idsP r
    | .own i => i :: idsP r
    | _ => idsP r
def ptrsOf : List SV → List Id
  | [] => []
  | s :: r => match s with
    | .v _ l => idsP l ++ ptrsOf r
    | _ => ptrsOf r
def keptN (l : List Id) : List (Id × Id) → List (Id × Id)
  | [] => []
  | (j, i) :: r => bif hasN l i then (j, i) :: keptN l r else keptN l r
def matchX (M : List (Id × Id)) : List (Id × Id × Res) → Req (List Prop)
  | [] => .ok []
  | (j, _, R) :: r => .need j fun o => match o with
    | none => .fail
    | some R' => (matchX M r).bind fun l => .ok ((namR M R = some R') :: l)
/-- what is lent: what the function is told of it, what it is -/
def lenR (M : List (Id × Id)) (R R' : Res) : Option (List Prop) :=
  match R with
  | .lvar l => (match varOf (some R') with
    | some l' => some [namL M l = some l']
    | none => none)
  | .ch false e l => (match R' with
    | .ch _ e' l' => bif Ty.beq e' e then some [(tcast (.sl e') (.sl e) l' : List e.den) = l] else none
    | _ => none)
  | _ => none
def matchL (M : List (Id × Id)) : List (Id × Id × Res) → Req (List Prop)
  | [] => .ok []
  | (j, _, R) :: r => .need j fun o => match o with
    | none => .fail
    | some R' => match lenR M R R' with
      | none => .fail
      | some v => (matchL M r).bind fun l => .ok (v ++ l)
def Xctr.nams (c : Xctr) : List (Id × Id) := namsOf c.rs ++ namsOf c.ls
def isNilL {α : Type} : List α → Bool
  | [] => true
  | _ => false
def xOf : List Xctr → FuncId → Option Xctr
  | [], _ => none
  | c :: r, f => bif Nat.beq c.f f then some c else xOf r f
def sCallX (c : Xctr) (idb : Id) (vals : List SV) : Req Eff :=
  bif nodupN (c.nams.map (·.1)) && nodupN (c.nams.map (·.2)) && (isNilL c.ls || (nbS c.post.1 && nbU c.post.2)) then
    (matchX c.nams c.rs).bind fun l => (matchL c.nams c.ls).bind fun l2 => match renS (keptN (ptrsOf c.args) c.nams) idb c.post.1, renU (keptN (ptrsOf c.args) c.nams) idb c.post.2 with
      | some v, some u => .ok ⟨v, drops ((namsOf c.rs).map (·.1)) ++ u, (namSs c.nams c.args = some vals) :: (l ++ l2)⟩
      | _, _ => .fail
  else .fail

/-! ### The run of a region -/

structure Ctx where
  tt : TT
  mt : MT
  G : List Ctr
  X : List Xctr

def bytesL (s : ByteArray) : Str := s.data.toList
def evC : Value → SV
  | .int k n => bif decide (k.min ≤ n) && decide (n ≤ k.max) then .v false [.d (.int k) pF n] else .junk
  | .bool b => .v false [.kb b]
  | .string s => bif Nat.ble s.data.toList.length 65536 then .v false [.d .str pF (bytesL s)] else .junk
  | .slice none 0 0 => .v false [.nils]
  | .pointer none => .v false [.nilp]
  | _ => .junk
def evO (t : List SV) : Operand → SV
  | .tmp i => getT t i
  | .const v => evC v
  | .func f => .fn f []
  | .global _ => .junk
section
variable {α : Type}
def getK (l : List SV) (i : Nat) (k : SV → α) : α :=
  match l with
  | [] => k .junk
  | x :: xs => match i with
    | 0 => k x
    | i + 1 => getK xs i k
def evCK : Value → (SV → α) → α
  | .int kd n, k => bif decide (kd.min ≤ n) && decide (n ≤ kd.max) then k (.v false [.d (.int kd) pF n]) else k .junk
  | .bool b, k => k (.v false [.kb b])
  | .string s, k => bif Nat.ble s.data.toList.length 65536 then k (.v false [.d .str pF (bytesL s)]) else k .junk
  | .slice none 0 0, k => k (.v false [.nils])
  | .pointer none, k => k (.v false [.nilp])
  | _, k => k .junk
def evOK (t : List SV) (o : Operand) (k : SV → α) : α :=
  match o with
  | .tmp i => getK t i k
  | .const v => evCK v k
  | .func f => k (.fn f [])
  | .global _ => k .junk
def evsK (t : List SV) : List Operand → (List SV → α) → α
  | [], k => k []
  | o :: os, k => evOK t o fun v => evsK t os fun vs => k (v :: vs)
end

def asAts : List SV → Option (List At)
  | [] => some []
  | .v false [a] :: vs => (match asAts vs with | some l => some (a :: l) | none => none)
  | _ :: _ => none
/-- one operation on its operands' values -/
def opEff (C : Ctx) (op : Op) (idb : Id) (vals : List SV) : Req Eff :=
  match op with
  | .move _ | .assign _ => (match vals with | [v] => Eff.val v | _ => .fail)
  | .pick _ _ _ => (match vals with | [c, a, b] => sPick c a b | _ => .fail)
  | .alloc t => (match ttOf C.tt t with
    | some ⟨_, T, _, _, _, _, _⟩ => .ok ⟨atom (.ptr idb 0), [(idb, some (.var (zeroOf T)))], []⟩
    | none => .fail)
  | .box _ _ => (match vals with
    | [.v _ l] => .ok ⟨atom (.ptr idb 0), [(idb, some (.var l))], []⟩
    | _ => .fail)
  | .build t ps => sBuild C.tt t (ps.toList.map (·.1)) vals
  | .buildSlice t n ps => (match slT C.tt t with
    | some (T, _, _) => sBuildSlice idb T.size n (ps.toList.map (·.1)) vals
    | none => .fail)
  | .load t _ => (match vals with | [x] => bif isX x then sLoadX C.tt t x else sLoad C.tt t idb x | _ => .fail)
  | .store t _ _ => (match vals with | [x, y] => bif fitsT C.tt t y then (bif isX x then sStoreX idb x y else sStore idb x y) else .fail | _ => .fail)
  | .field t _ f => (match vals with | [x] => sField C.tt t f x | _ => .fail)
  | .nilCheck _ => (match vals with | [x] => bif isX x then sNilCheckX x else sNilCheck x | _ => .fail)
  | .binOp b xT _ _ _ => (match vals with | [x, y] => (bif eqT C.mt xT then sBinSt C.tt xT b x y else bif isNilpV y then sPtrNil C.tt xT b x else bif isArrV x then sBinArr C.tt xT b x y else match b, isNilsV y with | .eql, true => sEqNil C.tt xT x | _, _ => sBin C.tt xT b x y) | _ => .fail)
  | .unOp .not _ _ => (match vals with | [x] => sNot x | _ => .fail)
  | .convert src dst _ => (match vals with | [x] => sConvert C.tt idb src dst x | _ => .fail)
  | .makeFunc (.func f) first _ => (match first.toList, asAts vals with | [], some l => .ok ⟨.fn f l, [], []⟩ | _, _ => .fail)
  | .makeSlice t l _ => (match vals with | [x, y] => sMake C.tt t idb (litNat l) x y | _ => .fail)
  | .slice t _ lo hi none => (match vals, lo, hi with
    | [x], none, none => bif isPtrV x then sSliceX C.tt t x else sSlice C.tt t x none none
    | [x, a], some _, none => bif dupT C.tt t && isOwnV x then sCut C.tt t idb x a else sSlice C.tt t x (some a) none
    | [x, b], none, some _ => sSlice C.tt t x none (some b)
    | [x, a, b], some _, some _ => sSlice C.tt t x (some a) (some b)
    | _, _, _ => .fail)
  | .slice t _ (some _) (some _) (some _) => (match vals with | [x, a, b, m] => sSlice3 C.tt t x a b m | _ => .fail)
  | .fieldAddr s _ f => (match vals with | [x] => bif isX x then sFieldAddrX C.tt s f x else sFieldAddr C.tt s f x | _ => .fail)
  | .indexAddr t _ _ => (match vals with | [x, i] => bif isPtrV x then sIndexAddrX C.tt t x i else sIndexAddr C.tt t x i | _ => .fail)
  | .sliceToArrayPointer t _ => (match vals with | [x] => sToArr C.tt t x | _ => .fail)
  | .index t _ _ => (match vals with | [x, i] => sIndex C.tt t x i | _ => .fail)
  | .extract _ i => (match vals with | [x] => sExtract x i | _ => .fail)
  | .makeMap t none => sMakeMap C.tt C.mt t idb
  | .mapUpdate t _ _ _ => (match vals with | [m, k, v] => sMapUpdate C.tt C.mt t m k v | _ => .fail)
  | .lookup t _ _ ok => (match vals with | [m, k] => sLookup C.tt C.mt t ok m k | _ => .fail)
  | .call c => (match c.callee with
    | .builtin .len => (match vals, c.argTypes.toList with | [x], [t] => (match mtOf C.mt t with | some _ => sLenMap C.mt t x | none => sLen C.tt t x) | _, _ => .fail)
    | .builtin .clear => (match vals, c.argTypes.toList with | [x], [t] => sClear C.tt t x | _, _ => .fail)
    | .builtin .min => (match vals with | [x, y] => sMinMax true x y | _ => .fail)
    | .builtin .max => (match vals with | [x, y] => sMinMax false x y | _ => .fail)
    | .builtin .append => (match vals, c.argTypes.toList with | [x, y], [t, t2] => sAppend C.tt t t2 idb x y | _, _ => .fail)
    | .value _ => (match vals with | .fn f caps :: vs => (match xOf C.X f with | some c => sCallX c idb (vs ++ caps.map atom) | none => sCall C.G f idb (vs ++ caps.map atom)) | _ => .fail)
    | _ => .fail)
  | _ => .fail

/-! What an operation's effect names -/
def At.ids : At → List Id
  | .own i => [i]
  | .ptr i _ => [i]
  | .opt i _ _ _ _ => [i]
  | .sub i _ _ _ _ => [i]
  | .chp i _ => [i]
  | .chf i _ _ => [i]
  | .lnk i _ j _ _ => [i, j]
  | .vp i _ _ _ _ => [i]
  | .vsl i _ _ _ => [i]
  | _ => []
def idsL : List At → List Id
  | [] => []
  | a :: r => a.ids ++ idsL r
def idsLL : List (List At) → List Id
  | [] => []
  | a :: r => idsL a ++ idsLL r
def idsT : List (Bool × List At) → List Id
  | [] => []
  | (_, a) :: r => idsL a ++ idsT r
def SV.ids : SV → List Id
  | .v _ l => idsL l
  | .fn _ l => idsL l
  | .tup l => idsT l
  | .junk => []
def Res.ids : Res → List Id
  | .var l => idsL l
  | .sl _ _ _ => []
  | .slo _ _ _ _ l => idsL l
  | .els _ l => idsLL l
  | .mp _ _ _ _ _ _ => []
  | .room i _ => [i]
  | .ch _ _ _ => []
  | .lvar l => idsL l
  | .bys _ => []
  | .pre i _ => [i]
def idsU : List (Id × Option Res) → List Id
  | [] => []
  | (i, some R) :: r => i :: R.ids ++ idsU r
  | (i, none) :: r => i :: idsU r
def idsS : List SV → List Id
  | [] => []
  | v :: r => v.ids ++ idsS r
def idsR : List (Id × Res) → List Id
  | [] => []
  | (i, R) :: r => i :: R.ids ++ idsR r
def idsK : List (List SV) → List Id
  | [] => []
  | v :: r => idsS v ++ idsK r

/-- what an operation met: ids it asked for, ids it turned, ids that its effect names -/
structure Inf where
  touch : List Id
  chg : List Id
  ids : List Id

def decOf : List (Nat × Bool) → Nat → Option Bool
  | [], _ => none
  | (j, b) :: r, i => bif Nat.beq j i then some b else decOf r i
/-- numbers, written out -/
def nums : List Nat := [0, 1, 2, 3, 4, 5, 6, 7, 8, 9, 10, 11, 12, 13, 14, 15, 16, 17, 18, 19, 20, 21, 22, 23, 24, 25, 26, 27, 28, 29, 30, 31, 32, 33, 34, 35, 36, 37, 38, 39, 40, 41, 42, 43, 44, 45, 46, 47, 48, 49, 50, 51, 52, 53, 54, 55, 56, 57, 58, 59, 60, 61, 62, 63, 64, 65, 66, 67, 68, 69, 70, 71, 72, 73, 74, 75, 76, 77, 78, 79, 80, 81, 82, 83, 84, 85, 86, 87, 88, 89, 90, 91, 92, 93, 94, 95, 96, 97, 98, 99, 100, 101, 102, 103, 104, 105, 106, 107, 108, 109, 110, 111, 112, 113, 114, 115, 116, 117, 118, 119]
/-- where an operation writes -/
def dstAt : List Oper → Nat → Option Tmp
  | [], _ => none
  | o :: _, 0 => o.dst
  | _ :: os, n + 1 => dstAt os n
/-- the mark of an operation that was passed over -/
def passed : SV := .tup []

section
variable {α : Type}
/-- the operations from number i on, R the run's number -/
def runK (C : Ctx) (R : Nat) (decs : List (Nat × Bool)) (full : List Oper) : List Oper → List Nat → List SV → List (Id × Res) → List Prop → List Inf → (List SV → List (Id × Res) → List Prop → List Inf → α) → α → α
  | [], _, t, rs, vcs, infs, k, _ => k t rs vcs infs
  | _ :: _, [], _, _, _, _, _, d => d
  | o :: os, i :: is, t, rs, vcs, infs, k, d =>
    let skip : Unit → α := fun _ => match o.dst with
      | none => runK C R decs full os is t rs vcs (⟨[], [], []⟩ :: infs) k d
      | some dst => setK t dst passed fun t' => runK C R decs full os is t' rs vcs (⟨[], [], []⟩ :: infs) k d
    let go : Unit → α := fun _ => evsK t o.op.operands.toList fun vals =>
      match (opEff C o.op ⟨R, i, 0⟩ vals).exec (look rs) with
      | none => d
      | some (⟨v, upd, vc⟩, touch) => putsK rs upd fun rs' =>
          match o.dst with
          | none => runK C R decs full os is t rs' (vc ++ vcs) (⟨touch, upd.map (·.1), v.ids ++ idsU upd⟩ :: infs) k d
          | some dst => match decOf decs i with
            | none => setK t dst v fun t' => runK C R decs full os is t' rs' (vc ++ vcs) (⟨touch, upd.map (·.1), v.ids ++ idsU upd⟩ :: infs) k d
            | some b => match asB v with
              | none => d
              | some x => setK t dst (.v false [.kb b]) fun t' => runK C R decs full os is t' rs' (((x = b) :: vc) ++ vcs) (⟨touch, upd.map (·.1), idsU upd⟩ :: infs) k d
    match o.guard with
    | none => go ()
    | some (j, want) => match dstAt full j with
      | none => d
      | some g => getK t g fun s => match s with
        | .v false [.kb b] => bif eqB b want then go () else skip ()
        | .tup [] => skip ()
        | _ => d
end

def conj : List Prop → Prop
  | [] => True
  | [p] => p
  | p :: q :: r => conj (q :: r) ∧ p

/-! Which orders a region may be run in -/

def looksM : List Operand → Nat → Nat
  | [], m => m
  | .tmp t :: r, m => looksM r (Nat.lor m (Nat.shiftLeft 1 t))
  | _ :: r, m => looksM r m
def maskD : Option Tmp → Nat
  | none => 0
  | some t => Nat.shiftLeft 1 t
/-- the slots that an operation reads -/
def looksAll (full : List Oper) (o : Oper) : Nat := looksM o.op.operands.toList (match o.guard with | none => 0 | some (j, _) => maskD (dstAt full j))
def bindsAny (e : Edge) : Bool := match e.ground with
  | .textOnly _ => false
  | .gcOnly _ => false
  | _ => true
structure Prev where
  j : Nat
  anc : Nat
  d : Nat
  l : Nat
  tch : List Id
  chg : List Id
def ancOf : List Prev → Nat → Nat
  | [], _ => 0
  | p :: ps, j => bif Nat.beq p.j j then p.anc else ancOf ps j
/-- what comes before i in every order; none: an edge that leads on -/
def ancs (prev : List Prev) (i : Nat) : List Edge → Nat → Option Nat
  | [], m => some m
  | e :: es, m => bif bindsAny e then (bif Nat.blt e.on i then ancs prev i es (Nat.lor m (Nat.lor (Nat.shiftLeft 1 e.on) (ancOf prev e.on))) else none) else ancs prev i es m
def zeroN (n : Nat) : Bool := Nat.beq n 0
def prevOk (anc d l : Nat) (tch chg : List Id) : List Prev → Bool
  | [] => true
  | p :: ps => (Nat.testBit anc p.j || (zeroN (Nat.land p.d l) && zeroN (Nat.land p.d d) && zeroN (Nat.land d p.l) && disjN p.chg tch && disjN p.chg chg && disjN p.tch chg)) && prevOk anc d l tch chg ps
def idsOk (R i anc : Nat) : List Id → Bool
  | [] => true
  | ⟨r, s, _⟩ :: ids => (Nat.blt r R || (Nat.beq r R && (Nat.beq s i || Nat.testBit anc s))) && idsOk R i anc ids
def idsOkSeq (R i : Nat) : List Id → Bool
  | [] => true
  | ⟨r, s, _⟩ :: ids => (Nat.blt r R || (Nat.beq r R && Nat.ble s i)) && idsOkSeq R i ids
def anyChk (R : Nat) (full : List Oper) : List Oper → List Inf → List Nat → List Prev → Bool
  | o :: os, f :: fs, i :: is, prev => match ancs prev i o.after.toList 0 with
    | none => false
    | some a => idsOk R i a f.ids && (prevOk a (maskD o.dst) (looksAll full o) f.touch f.chg prev && anyChk R full os fs is (⟨i, a, maskD o.dst, looksAll full o, f.touch, f.chg⟩ :: prev))
  | [], [], _, _ => true
  | _, _, _, _ => false
def seqChk (R : Nat) : List Inf → List Nat → Bool
  | f :: fs, i :: is => idsOkSeq R i f.ids && seqChk R fs is
  | [], _ => true
  | _, _ => false
def revA {β : Type} : List β → List β → List β
  | [], m => m
  | x :: xs, m => revA xs (x :: m)
def regChk (R : Nat) (draw : Bool) (full : List Oper) (infs : List Inf) : Bool :=
  match draw with
  | true => anyChk R full full (revA infs []) nums []
  | false => seqChk R (revA infs []) nums

def runR (C : Ctx) (R : Nat) (decs : List (Nat × Bool)) (ops : Array Oper) (st : St) : Option (St × Prop) :=
  match st with
  | ⟨t, rs, ctr, stk⟩ => bif Nat.blt ctr R then
      runK C R decs ops.toList ops.toList nums t rs [] [] (fun t' rs' vcs _ => some (⟨t', rs', R, stk⟩, conj vcs)) none
    else none
/-- the check that goes with it -/
def chkR (C : Ctx) (R : Nat) (decs : List (Nat × Bool)) (ops : Array Oper) (draw : Bool) (st : St) : Bool :=
  match st with
  | ⟨t, rs, _, _⟩ => runK C R decs ops.toList ops.toList nums t rs [] [] (fun _ _ _ infs => regChk R draw ops.toList infs) false

end Go.Sx

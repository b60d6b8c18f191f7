
/-
  The value logic, part c: the intermediate code, its evaluation over abstract values, and how it is made out of the model's code.
-/
import Derived.Test.YthakdbpffcicfaaVb
namespace Go.V
open Go Go.RowKit
set_option linter.unusedVariables false

inductive Opd where
  | t (n : Nat)
  | c (v : AV)

/-- How a value is made plain where it is handed on. -/
inductive Co where
  | id
  | sl (n : Nat)
  | agg (l : List Co)

/-- A scalar's kind. -/
inductive Sk where
  | int (k : IntKind)
  | str
  | bool

/-- How two values are compared. -/
inductive Eqk where
  | no
  | bool
  | ptr
  | slice
  | iface
  | func
  | cells (ks : List Sk)

def Eqk.isIface : Eqk → Bool
  | .iface => true
  | _ => false

inductive IV where
  | mov (x : Opd)
  | pick (c a b : Opd)
  | bld (zs : List AV) (parts : List (Nat × Nat × Opd))
  | bsl (n : Nat) (parts : List (Opd × Co))
  | ld (agg : Bool) (n : Nat) (a : Opd)
  | fad (x : Opd) (off : Nat)
  | fld (agg : Bool) (n off : Nat) (x : Opd)
  | iad (n : Nat) (x i : Opd)
  | aad (n len : Nat) (x i : Opd)
  | idx (x i : Opd)
  | ida (agg : Bool) (n len : Nat) (x i : Opd)
  | sls (x : Opd) (lo hi : Option Opd)
  | slv (n : Nat) (x : Opd) (lo hi mx : Option Opd)
  | mfn (f : FuncId) (first caps : List Opd)
  | len (s : Bool) (x : Opd)
  | bin (op : BinOp) (e : Eqk) (x y : Opd)
  | un (op : UnOp) (x : Opd)
  | mm (big : Bool) (x y : Opd)
  | ext (x : Opd) (i : Nat)
  | nck (x : Opd)
  | cvi (k : IntKind) (x : Opd)
  | cvs (x : Opd)
  | mki (t : TypeId) (x : Opd) (co : Co)
  | tya (t : TypeId) (z : AV) (x : Opd)

inductive I where
  | v (i : IV)
  | box (x : Opd)
  | alo (zs : List AV)
  | st (n : Nat) (co : Co) (a x : Opd)
  | mks (n : Nat) (z : AV) (bytes : Nat) (len cap : Opd)
  | app (n : Nat) (z : AV) (bytes : Nat) (co : Co) (x y : Opd)
  | call (fv : Opd) (args : List (Opd × Co))

/-- An operation: its guard (a temporary, what it must be), where its value goes. -/
structure GI where
  g : Option (Nat × Bool)
  d : Option Nat
  i : I

inductive IC where
  | skip
  | reg (draw : Bool) (l : List GI)
  | drw (l : List (GI × List Nat))
  | seq (a b : IC)
  | cond (c : Opd) (a b : IC)
  | block (id : Nat) (a : IC)
  | loop (a : IC)
  | rng (f : Opd) (ps : List Nat) (a b : IC)
  | exit (id : Nat)
  | scope (a : IC)
  | label (l : Nat)
  | goto (l : Nat)
  | ret

/-! ### Evaluation -/

/-- What is to be done when the function is left: a loop over a function is struck off; a call. -/
inductive AD where
  | mark (i : Nat)
  | dfr (f : AV) (args : List AV)

/-- A frame: the temporaries, the deferred calls. -/
structure AF where
  tm : List (Nat × AV)
  dl : List AD

def get : List (Nat × AV) → Nat → AV
  | [], _ => .junk
  | (k, v) :: r, t => if k = t then v else get r t
def gt (af : AF) : Opd → AV
  | .t n => get af.tm n
  | .c v => v
def put (af : AF) (d : Option Nat) (v : AV) : AF :=
  match d with
  | some k => ⟨(k, v) :: af.tm, af.dl⟩
  | none => af

/-- What an evaluation comes to. -/
inductive Rs (α : Type) where
  | ret (a : α)
  | req (p : Prop) (r : Rs α)
  | bad

def Rs.bnd {α : Type} : Rs α → (α → Prop) → Prop
  | .ret a, k => k a
  | .req p r, k => p ∧ r.bnd k
  | .bad, _ => False
def Rs.map {α β : Type} (f : α → β) : Rs α → Rs β
  | .ret a => .ret (f a)
  | .req p r => .req p (r.map f)
  | .bad => .bad

theorem bnd_congr {α : Type} {r r' : Rs α} (h : r = r') (k : α → Prop) : r.bnd k = r'.bnd k := by rw [h]

def ent : List Ent → Nat → Ent
  | [], _ => .dead
  | e :: _, 0 => e
  | _ :: r, i + 1 => ent r i

def AV.isAgg : AV → Bool
  | .agg _ => true
  | _ => false

def tk (off n : Nat) (l : List AV) : List AV := (l.drop off).take n

mutual
def co (H : List Ent) : Co → AV → AV
  | .sl n, .nils => .sl n []
  | .sl _, .lit m es => .sl m es
  | .sl _, .row i len => (match ent H i with | .app n es => if es.length = len then .sl n es else .row i len | _ => .row i len)
  | .agg l, .agg vs => .agg (cos H l vs)
  | _, v => v
def cos (H : List Ent) : List Co → List AV → List AV
  | [], vs => vs
  | _ :: _, [] => []
  | c :: l, v :: vs => co H c v :: cos H l vs
end

def ldc (agg : Bool) (n off : Nat) (cs : List AV) : Rs AV :=
  match agg with
  | true => .req (off + n ≤ cs.length) (.ret (.agg (tk off n cs)))
  | false => .req (off < cs.length) (.ret (cs.getD off .junk))

def lde (agg : Bool) (n n' off : Nat) (e : AV) : Rs AV :=
  match agg with
  | true => if off = 0 ∧ n = n' then .req (e.isAgg = true) (.ret e) else .req (e.isAgg = true ∧ off + n ≤ n') (.ret (.agg (tk off n e.cells)))
  | false => bif e.isAgg then .req (off < n') (.ret (e.cells.getD off .junk)) else .req (off = 0 ∧ n' = 1 ∧ e.leaf = true) (.ret e)

def ldv (agg : Bool) (n : Nat) (H : List Ent) : AV → Rs AV
  | .ptr i off => (match ent H i with | .blk cs => ldc agg n off cs | _ => .bad)
  | .eptr n' es k off => lde agg n n' off (es.getD k .junk)
  | .rptr i n' k off => (match ent H i with
    | .app m es => .req (m = n' ∧ k < es.length) (lde agg n n' off (es.getD k .junk))
    | .mrow m es => .req (m = n' ∧ k < es.length) (lde agg n n' off (es.getD k .junk))
    | _ => .bad)
  | _ => .bad

def stc (n off : Nat) (v : AV) (cs : List AV) : Rs (List AV) :=
  if n = 1 then .req (off < cs.length ∧ v.leaf = true) (.ret (cs.set off v))
  else .req (v.isAgg = true ∧ v.cells.length = n ∧ off + n ≤ cs.length ∧ v.cells.all AV.leaf = true) (.ret (cs.take off ++ (v.cells ++ cs.drop (off + n))))

def stv (n : Nat) (c : Co) (H : List Ent) (v : AV) : AV → Rs (List Ent)
  | .ptr i off => (match ent H i with | .blk cs => (stc n off v cs).map fun cs' => H.set i (.blk cs') | _ => .bad)
  | .rptr i n' k off => (match ent H i with
    | .mrow m es => if off = 0 ∧ n = n' then .req (m = n' ∧ k < es.length ∧ ((co H c v).isAgg = true ∧ (co H c v).cells.length = n ∧ (co H c v).cells.all AV.leaf = true ∨ n = 1 ∧ (co H c v).leaf = true)) (.ret (H.set i (.mrow m (es.set k (co H c v)))))
      else .req (m = n' ∧ k < es.length ∧ (es.getD k .junk).isAgg = true) ((stc n off (co H c v) (es.getD k .junk).cells).map fun cs' => H.set i (.mrow m (es.set k (.agg cs'))))
    | _ => .bad)
  | _ => .bad

def fadv (off : Nat) : AV → Rs AV
  | .ptr i o => .ret (.ptr i (o + off))
  | .eptr n es k o => .ret (.eptr n es k (o + off))
  | .rptr i n k o => .ret (.rptr i n k (o + off))
  | _ => .bad

def fldv (agg : Bool) (n off : Nat) : AV → Rs AV
  | .agg cs => ldc agg n off cs
  | _ => .bad

def iadv (n : Nat) : AV → AV → Rs AV
  | .sl n' es, .int _ z => .req (n' = n ∧ 0 ≤ z ∧ z < es.length) (.ret (.eptr n' es z.toNat 0))
  | .lit n' es, .int _ z => .req (n' = n ∧ 0 ≤ z ∧ z < es.length) (.ret (.eptr n' es z.toNat 0))
  | .row i len, .int _ z => .req (0 ≤ z ∧ z < len) (.ret (.rptr i n z.toNat 0))
  | _, _ => .bad

def aadv (n len : Nat) : AV → AV → Rs AV
  | .ptr i off, .int _ z => .req (0 ≤ z ∧ z < len) (.ret (.ptr i (off + z.toNat * n)))
  | _, _ => .bad

def idxv : AV → AV → Rs AV
  | .str l, .int _ z => .req (0 ≤ z ∧ z < l.length) (.ret (.int .u8 (l.getD z.toNat 0).toNat))
  | _, _ => .bad

def idav (agg : Bool) (n len : Nat) : AV → AV → Rs AV
  | .agg cs, .int _ z => .req (0 ≤ z ∧ z < len) (ldc agg n (z.toNat * n) cs)
  | _, _ => .bad

def slsv : AV → Option AV → Option AV → Rs AV
  | .str l, none, none => .ret (.str l)
  | .str l, some (.int _ a), none => .req (0 ≤ a ∧ a ≤ l.length) (.ret (.str (l.drop a.toNat)))
  | .str l, none, some (.int _ b) => .req (0 ≤ b ∧ b ≤ l.length) (.ret (.str (l.take b.toNat)))
  | .str l, some (.int _ a), some (.int _ b) => .req (0 ≤ b ∧ b ≤ l.length ∧ 0 ≤ a ∧ a ≤ b) (.ret (.str ((l.take b.toNat).drop a.toNat)))
  | _, _, _ => .bad

/-- A piece of an immutable slice. -/
def slp (n : Nat) (es : List AV) : Option AV → Option AV → Rs AV
  | none, none => .ret (.sl n es)
  | some (.int _ a), none => .req (0 ≤ a ∧ a ≤ es.length) (.ret (.sl n (es.drop a.toNat)))
  | none, some (.int _ b) => .req (0 ≤ b ∧ b ≤ es.length) (.ret (.sl n (es.take b.toNat)))
  | some (.int _ a), some (.int _ b) => .req (0 ≤ b ∧ b ≤ es.length ∧ 0 ≤ a ∧ a ≤ b) (.ret (.sl n ((es.take b.toNat).drop a.toNat)))
  | _, _ => .bad

/-- x[:b:b] -/
def slf (n : Nat) (es : List AV) : Option AV → Option AV → Option AV → Rs AV
  | none, some (.int _ b), some (.int _ m) => .req (0 ≤ b ∧ b ≤ es.length ∧ m = b) (.ret (.lit n (es.take b.toNat)))
  | _, _, _ => .bad

def slvv (n : Nat) (H : List Ent) : AV → Option AV → Option AV → Option AV → Rs AV
  | .sl n' es, lo, hi, none => .req (n' = n) (slp n es lo hi)
  | .lit n' es, lo, hi, none => .req (n' = n) (slp n es lo hi)
  | .sl n' es, lo, hi, some m => .req (n' = n) (slf n es lo hi (some m))
  | .lit n' es, lo, hi, some m => .req (n' = n) (slf n es lo hi (some m))
  | .row i len, lo, hi, none => (match ent H i with | .app n' es => .req (n' = n ∧ es.length = len) (slp n es lo hi) | _ => .bad)
  | .row i len, lo, hi, some m => (match ent H i with | .app n' es => .req (n' = n ∧ es.length = len) (slf n es lo hi (some m)) | _ => .bad)
  | .nils, none, some (.int _ b), some (.int _ m) => .req (b = 0 ∧ m = 0) (.ret .nils)
  | _, _, _, _ => .bad

def lenv : Bool → AV → Rs AV
  | true, .str l => .ret (.int .i64 l.length)
  | false, .sl _ es => .ret (.int .i64 es.length)
  | false, .lit _ es => .ret (.int .i64 es.length)
  | false, .row _ len => .req (len ≤ maxLen) (.ret (.int .i64 len))
  | false, .vw _ _ len _ => .req (len ≤ maxLen) (.ret (.int .i64 len))
  | false, .nils => .ret (.int .i64 0)
  | _, _ => .bad

def eqc : AV → AV → Bool
  | .int _ a, .int _ b => decide (a = b)
  | .str a, .str b => decide (a = b)
  | .bool a, .bool b => a == b
  | _, _ => false
def eqcs : List AV → List AV → Bool
  | [], [] => true
  | a :: r, b :: s => eqc a b && eqcs r s
  | _, _ => false
/-- Of that kind? -/
def fitc : Sk → AV → Bool
  | .int k, .int k' _ => decide (k = k')
  | .str, .str _ => true
  | .bool, .bool _ => true
  | _, _ => false
def fitcs : List Sk → List AV → Bool
  | [], [] => true
  | k :: r, a :: s => fitc k a && fitcs r s
  | _, _ => false

/-- Equality by kind, where it is no integers and no texts. -/
def eqv : Eqk → AV → AV → Rs Bool
  | .bool, .bool a, .bool b => .ret (a == b)
  | .ptr, .nilp, .nilp => .ret true
  | .ptr, .ptr _ _, .nilp => .ret false
  | .ptr, .nilp, .ptr _ _ => .ret false
  | .iface, .nili, .nili => .ret true
  | .iface, .iface _ _, .nili => .ret false
  | .func, .nilf, .nilf => .ret true
  | .func, .fn _ _ _, .nilf => .ret false
  | .cells ks, .agg cs, .agg ds => .req (fitcs ks cs = true ∧ fitcs ks ds = true) (.ret (eqcs cs ds))
  | _, _, _ => .bad

def binI (op : BinOp) (k : IntKind) (a b : Int) : Rs AV :=
  match op with
  | .add => .ret (.int k (k.wrap (a + b)))
  | .sub => .ret (.int k (k.wrap (a - b)))
  | .mul => .ret (.int k (k.wrap (a * b)))
  | .quo => .req (b ≠ 0) (.ret (.int k (k.wrap (a.tdiv b))))
  | .rem => .req (b ≠ 0) (.ret (.int k (a.tmod b)))
  | .eql => .ret (.bool (decide (a = b)))
  | .neq => .ret (.bool (!decide (a = b)))
  | .lss => .ret (.bool (decide (a < b)))
  | .leq => .ret (.bool (decide (a ≤ b)))
  | .gtr => .ret (.bool (decide (b < a)))
  | .geq => .ret (.bool (decide (b ≤ a)))
  | _ => .bad

def binS (op : BinOp) (a b : List UInt8) : Rs AV :=
  match op with
  | .add => .req (a.length + b.length ≤ maxLen) (.ret (.str (a ++ b)))
  | .eql => .ret (.bool (decide (a = b)))
  | .neq => .ret (.bool (!decide (a = b)))
  | .lss => .ret (.bool (Op.bytesLess a b))
  | .leq => .ret (.bool (Op.bytesLess a b || decide (a = b)))
  | .gtr => .ret (.bool (!(Op.bytesLess a b || decide (a = b))))
  | .geq => .ret (.bool (!Op.bytesLess a b))
  | _ => .bad

def eqb (op : BinOp) (r : Rs Bool) : Rs AV :=
  match op with
  | .eql => r.map AV.bool
  | .neq => r.map fun b => AV.bool (!b)
  | _ => .bad

def binv (op : BinOp) (e : Eqk) : AV → AV → Rs AV
  | .int k a, .int k' b => if k = k' then binI op k a b else .bad
  | .str a, .str b => binS op a b
  | x, y => eqb op (eqv e x y)

def unv (op : UnOp) : AV → Rs AV
  | .bool b => (match op with | .not => .ret (.bool (!b)) | _ => .bad)
  | .int k n => (match op with | .neg => .ret (.int k (k.wrap (0 - n))) | _ => .bad)
  | _ => .bad

def mmv (big : Bool) : AV → AV → Rs AV
  | .int k x, .int k' y => if k = k' then (match big with | true => .ret (.int k (if y > x then y else x)) | false => .ret (.int k (if y < x then y else x))) else .bad
  | _, _ => .bad

def extv (i : Nat) : AV → Rs AV
  | .tup vs => .req (i < vs.length) (.ret (vs.getD i .junk))
  | _ => .bad

def nckv : AV → Rs AV
  | .ptr i o => .ret (.ptr i o)
  | .eptr n es k o => .ret (.eptr n es k o)
  | .rptr i n k o => .ret (.rptr i n k o)
  | .fn f a b => .ret (.fn f a b)
  | _ => .bad

def cviv (k : IntKind) : AV → Rs AV
  | .int _ n => .ret (.int k (k.wrap n))
  | _ => .bad

def cvsv : AV → Rs AV
  | .str l => .ret (.str l)
  | _ => .bad

def tyav (t : TypeId) (z : AV) : AV → Rs AV
  | .iface t' v => if t' = t then .ret (.tup [v, .bool true]) else .ret (.tup [z, .bool false])
  | .nili => .ret (.tup [z, .bool false])
  | _ => .bad

def pickv : AV → AV → AV → Rs AV
  | .bool c, a, b => .ret (if c = true then a else b)
  | _, _, _ => .bad

/-- Literal choice: of two unlike values none is named. -/
def spl (off : Nat) (cs zs : List AV) : List AV := zs.take off ++ (cs ++ zs.drop (off + cs.length))
def bldv (af : AF) : List (Nat × Nat × Opd) → List AV → Rs AV
  | [], zs => .ret (.agg zs)
  | (off, n, x) :: r, zs => .req ((gt af x).cells.length = n ∧ off + n ≤ zs.length ∧ ((gt af x).isAgg = true ∨ (gt af x).leaf = true)) (bldv af r (spl off (gt af x).cells zs))

def bslOK (n : Nat) : List AV → Prop
  | [] => True
  | v :: r => (v.cells.length = n ∧ ((v.isAgg = true ∧ v.cells.all AV.leaf = true) ∨ v.leaf = true)) ∧ bslOK n r

def gco (H : List Ent) (af : AF) : List (Opd × Co) → List AV
  | [] => []
  | (x, c) :: r => co H c (gt af x) :: gco H af r
def gts (af : AF) : List Opd → List AV
  | [] => []
  | x :: r => gt af x :: gts af r
def gto (af : AF) : Option Opd → Option AV
  | none => none
  | some x => some (gt af x)

def evv (af : AF) (H : List Ent) : IV → Rs AV
  | .mov x => .ret (gt af x)
  | .pick c a b => pickv (gt af c) (gt af a) (gt af b)
  | .bld zs parts => bldv af parts zs
  | .bsl n parts => .req (bslOK n (gco H af parts)) (.ret (.lit n (gco H af parts)))
  | .ld agg n a => ldv agg n H (gt af a)
  | .fad x off => fadv off (gt af x)
  | .fld agg n off x => fldv agg n off (gt af x)
  | .iad n x i => iadv n (gt af x) (gt af i)
  | .aad n len x i => aadv n len (gt af x) (gt af i)
  | .idx x i => idxv (gt af x) (gt af i)
  | .ida agg n len x i => idav agg n len (gt af x) (gt af i)
  | .sls x lo hi => slsv (gt af x) (gto af lo) (gto af hi)
  | .slv n x lo hi mx => slvv n H (gt af x) (gto af lo) (gto af hi) (gto af mx)
  | .mfn f first caps => .ret (.fn f (gts af first) (gts af caps))
  | .len s x => lenv s (gt af x)
  | .bin op e x y => binv op e (gt af x) (gt af y)
  | .un op x => unv op (gt af x)
  | .mm big x y => mmv big (gt af x) (gt af y)
  | .ext x i => extv i (gt af x)
  | .nck x => nckv (gt af x)
  | .cvi k x => cviv k (gt af x)
  | .cvs x => cvsv (gt af x)
  | .mki t x c => .ret (.iface t (co H c (gt af x)))
  | .tya t z x => tyav t z (gt af x)

def mksv (n : Nat) (z : AV) (bytes : Nat) (H : List Ent) : AV → AV → Rs (AV × List Ent)
  | .int _ l, .int _ c => .req (0 ≤ l ∧ l = c ∧ bytes * c ≤ 281474976710656 ∧ c ≤ maxLen) (.ret (.row H.length l.toNat, H ++ [.mrow n (List.replicate l.toNat z)]))
  | _, _ => .bad

/-- What is appended. -/
def appArg (n : Nat) (H : List Ent) : AV → Rs (List AV)
  | .sl n' es => .req (n' = n) (.ret es)
  | .lit n' es => .req (n' = n) (.ret es)
  | .nils => .ret []
  | .row i len => (match ent H i with | .app n' es => .req (n' = n ∧ es.length = len) (.ret es) | _ => .bad)
  | _ => .bad

/-- A row of that length may be laid. -/
def capOK (n bytes : Nat) : Prop := (n + n + 768) * bytes ≤ 281474976710656

def appTo (n bytes : Nat) (H : List Ent) (ys : List AV) : AV → Rs (AV × List Ent)
  | .nils => if ys.length = 0 then .ret (.nils, H) else .req (capOK ys.length bytes) (.ret (.row H.length ys.length, H ++ [.app n ys]))
  | .lit n' es => if ys.length = 0 then .req (n' = n) (.ret (.lit n es, H)) else .req (n' = n ∧ capOK (es.length + ys.length) bytes) (.ret (.row H.length (es.length + ys.length), H ++ [.app n (es ++ ys)]))
  | .row i len => (match ent H i with
    | .app n' es => .req (n' = n ∧ es.length = len ∧ capOK (len + ys.length) bytes) (.ret (.row H.length (len + ys.length), H.set i .dead ++ [.app n (es ++ ys)]))
    | _ => .bad)
  | _ => .bad

def appv (n bytes : Nat) (H : List Ent) (x y : AV) : Rs (AV × List Ent) :=
  match appArg n H y with
  | .ret ys => appTo n bytes H ys x
  | .req p (.ret ys) => .req p (appTo n bytes H ys x)
  | _ => .bad

def boxv (H : List Ent) (x : AV) : Rs (AV × List Ent) :=
  .req ((x.isAgg = true ∧ x.cells.all AV.leaf = true) ∨ x.leaf = true) (.ret (.ptr H.length 0, H ++ [.blk x.cells]))

/-- All but calls. -/
def evi (af : AF) (H : List Ent) : I → Rs (AV × List Ent)
  | .v i => (evv af H i).map fun v => (v, H)
  | .box x => boxv H (gt af x)
  | .alo zs => .ret (.ptr H.length 0, H ++ [.blk zs])
  | .st n c a x => (stv n c H (gt af x) (gt af a)).map fun H' => (.tup [], H')
  | .mks n z bytes len cap => mksv n z bytes H (gt af len) (gt af cap)
  | .app n _ bytes _ x y => appv n bytes H (gt af x) (gt af y)
  | .call _ _ => .bad

/-! ### Out of the model's code -/

def ofV : Value → Option AV
  | .bool b => some (.bool b)
  | .int k n => if (Lit.int k n).wf then some (.int k n) else none
  | .string s => if s.data.toList.length ≤ 4294967296 then some (.str s.data.toList) else none
  | .pointer none => some .nilp
  | .slice none 0 0 => some .nils
  | .map none => some .nilm
  | .func (.func f) first caps => if first.size = 0 ∧ caps.size = 0 then some (.fn f [] []) else none
  | .nilFunc => some .nilf
  | .nilIface => some .nili
  | _ => none
def ofVs : List Value → Option (List AV)
  | [] => some []
  | v :: r => match ofV v, ofVs r with
    | some a, some l => some (a :: l)
    | _, _ => none
/-- A constant, a zero value: a cell, or cells. -/
def ofW : Value → Option AV
  | .agg cs => (ofVs cs.toList).map AV.agg
  | v => ofV v

def cO : Operand → Option Opd
  | .tmp t => some (.t t)
  | .const v => (ofW v).map Opd.c
  | .func f => some (.c (.fn f [] []))
  | .global _ => none
def cOs : List Operand → Option (List Opd)
  | [] => some []
  | x :: r => match cO x, cOs r with
    | some a, some l => some (a :: l)
    | _, _ => none
def cOo : Option Operand → Option (Option Opd)
  | none => some none
  | some x => (cO x).map some

/-- Struct or array? (known types alone) -/
def aggT (P : Program) (t : TypeId) : Option Bool :=
  match P.underlying t with
  | some (.struct _) => some true
  | some (.array _ _) => some true
  | some _ => some false
  | none => none
def sizeT (P : Program) (t : TypeId) : Option Nat := (P.info? t).map (·.size)
def bytesT (P : Program) (t : TypeId) : Option Nat := (P.info? t).map (·.bytes)
def zeroT (P : Program) (t : TypeId) : Option AV :=
  match (P.info? t).bind (·.zero) with
  | some z => ofW z
  | none => none
def elemT (P : Program) (t : TypeId) : Option TypeId :=
  match P.underlying t with
  | some (.slice e) => some e
  | _ => none

def coCells (P : Program) : Nat → TypeId → List Co
  | 0, _ => []
  | d + 1, t =>
    match P.underlying t with
    | some (.slice e) => [.sl (P.cellsOf e)]
    | some (.struct fs) => fs.toList.flatMap fun f => coCells P d f.type
    | some (.array n e) => (List.range n).flatMap fun _ => coCells P d e
    | _ => [.id]
/-- Is there anything to be made plain? -/
def Co.plain : Co → Bool
  | .id => true
  | _ => false
def coT (P : Program) (t : TypeId) : Co :=
  match P.underlying t with
  | some (.slice e) => .sl (P.cellsOf e)
  | some (.struct _) | some (.array _ _) => let l := coCells P 6 t; if l.all Co.plain then .id else .agg l
  | _ => .id
def cArgs (P : Program) : List Operand → List TypeId → Option (List (Opd × Co))
  | [], _ => some []
  | x :: r, ts => match cO x, cArgs P r ts.tail with
    | some a, some l => some ((a, match ts.head? with | some t => coT P t | none => .id) :: l)
    | _, _ => none

def skT (P : Program) (t : TypeId) : Option Sk :=
  match P.underlying t with
  | some (.int k) => some (.int k)
  | some .string => some .str
  | some .bool => some .bool
  | _ => none
/-- The fields are one cell each, one behind the other, none nameless, of scalar types. -/
def rowT (P : Program) : List Field → Nat → Option (List Sk)
  | [], _ => some []
  | f :: r, i => if f.name != "_" && f.offset == i then (match skT P f.type, rowT P r (i + 1) with | some k, some l => some (k :: l) | _, _ => none) else none
def eqT (P : Program) (t : TypeId) : Eqk :=
  match P.underlying t with
  | some .bool => .bool
  | some (.pointer _) => .ptr
  | some (.slice _) => .slice
  | some (.interface _) => .iface
  | some (.func _ _ _) => .func
  | some (.struct fs) => if !P.stoodInHeld t && !P.eqGuardType P.depth t then (match rowT P fs.toList 0 with | some ks => .cells ks | none => .no) else .no
  | _ => .no

def cParts (P : Program) (places : Nat → Option (Nat × Nat)) : List (Nat × Operand) → Option (List (Nat × Nat × Opd))
  | [] => some []
  | (i, x) :: r => match places i, cO x, cParts P places r with
    | some (off, n), some a, some l => some ((off, n, a) :: l)
    | _, _, _ => none
/-- The parts are so many, in order. -/
def cRow (P : Program) (c : Co) : List (Nat × Operand) → Nat → Option (List (Opd × Co))
  | [], _ => some []
  | (i, x) :: r, k => if i = k then (match cO x, cRow P c r (k + 1) with | some a, some l => some ((a, c) :: l) | _, _ => none) else none

def placesT (P : Program) (t : TypeId) : Nat → Option (Nat × Nat) :=
  match P.underlying t with
  | some (.struct fs) => fun i => match fs[i]? with
    | some f => (sizeT P f.type).map fun n => (f.offset, n)
    | none => none
  | some (.array _ e) => fun i => (sizeT P e).map fun n => (i * n, n)
  | _ => fun _ => none

/-- All parts' sizes are known. -/
def sizesOK (P : Program) (t : TypeId) : Bool :=
  match P.underlying t with
  | some (.struct fs) => fs.toList.all fun f => (sizeT P f.type).isSome
  | some (.array _ e) => (sizeT P e).isSome
  | _ => false

def zeroCells (P : Program) (t : TypeId) : Option (List AV) := (zeroT P t).map AV.cells

def cCall (P : Program) (c : Call) (type : TypeId) : Option I :=
  match c.callee with
  | .value f => match cO f, cArgs P c.args.toList c.argTypes.toList with
    | some a, some l => some (.call a l)
    | _, _ => none
  | .invoke _ _ => none
  | .builtin b =>
    match b, c.args.toList, c.argTypes.toList with
    | .len, [x], [t] =>
      match P.underlying t, cO x with
      | some .string, some a => some (.v (.len true a))
      | some (.slice _), some a => some (.v (.len false a))
      | _, _ => none
    | .max, [x, y], _ => match cO x, cO y with
      | some a, some b => some (.v (.mm true a b))
      | _, _ => none
    | .min, [x, y], _ => match cO x, cO y with
      | some a, some b => some (.v (.mm false a b))
      | _, _ => none
    | .append, [x, y], [t, t'] =>
      match elemT P t, elemT P t', cO x, cO y with
      | some e, some e', some a, some b =>
        match sizeT P e, bytesT P e, zeroT P e with
        | some n, some bytes, some z => if e = e' ∧ z.cells.length = n ∧ 0 < n ∧ z.cells.all AV.leaf ∧ 0 < bytes then some (.app n z bytes (coT P t) a b) else none
        | _, _, _ => none
      | _, _, _, _ => none
    | _, _, _ => none

def cI (P : Program) (o : Oper) : Option I :=
  match o.op with
  | .move x | .assign x => (cO x).map fun a => .v (.mov a)
  | .pick c a b => match cO c, cO a, cO b with
    | some c, some a, some b => some (.v (.pick c a b))
    | _, _, _ => none
  | .alloc t => match zeroT P t with
    | some z => some (.alo z.cells)
    | none => none
  | .box _ x => (cO x).map I.box
  | .build t parts => match zeroT P t, cParts P (placesT P t) parts.toList with
    | some (.agg zs), some l => if sizesOK P t then some (.v (.bld zs l)) else none
    | _, _ => none
  | .buildSlice t len parts => match elemT P t with
    | some e => match sizeT P e, cRow P (coT P e) parts.toList 0 with
      | some n, some l => if l.length = len ∧ len * n ≤ 16777216 ∧ (len * n = 0 ∨ ((P.info? e).bind (·.zero)).isSome) ∧ 0 < n then some (.v (.bsl n l)) else none
      | _, _ => none
    | none => none
  | .load t a => match aggT P t, sizeT P t, cO a with
    | some g, some n, some a => some (.v (.ld g n a))
    | _, _, _ => none
  | .store t a x => match sizeT P t, cO a, cO x with
    | some n, some a, some x => if 0 < n then some (.st n (coT P t) a x) else none
    | _, _, _ => none
  | .nilCheck x => (cO x).map fun a => .v (.nck a)
  | .binOp op t x y _ => match cO x, cO y with
    | some a, some b => if (eqT P t).isIface && !(Region.isConst x || Region.isConst y) then none else some (.v (.bin op (eqT P t) a b))
    | _, _ => none
  | .unOp op _ x => (cO x).map fun a => .v (.un op a)
  | .convert s d x => match P.underlying s, P.underlying d, cO x with
    | some (.int _), some (.int k), some a => some (.v (.cvi k a))
    | some .string, some .string, some a => some (.v (.cvs a))
    | _, _, _ => none
  | .makeInterface t x => match P.underlying t, cO x with
    | some (.interface _), _ => none
    | some _, some a => some (.v (.mki t a (coT P t)))
    | _, _ => none
  | .makeFunc (.func f) first caps => match cOs first.toList, cOs caps.toList with
    | some l, some m => some (.v (.mfn f l m))
    | _, _ => none
  | .makeSlice t len cap => match elemT P t, cO len, cO cap with
    | some e, some l, some c => match sizeT P e, bytesT P e, zeroT P e with
      | some n, some bytes, some z => if z.cells.length = n ∧ z.cells.all AV.leaf ∧ 0 < n then some (.mks n z bytes l c) else none
      | _, _, _ => none
    | _, _, _ => none
  | .slice t x lo hi mx => match P.underlying t, cO x, cOo lo, cOo hi, cOo mx with
    | some .string, some a, some l, some h, some none => some (.v (.sls a l h))
    | some (.slice e), some a, some l, some h, some m => (sizeT P e).map fun n => .v (.slv n a l h m)
    | _, _, _, _, _ => none
  | .fieldAddr t x f => match P.underlying t, cO x with
    | some (.struct fs), some a => match fs[f]? with
      | some fl => match sizeT P fl.type with
        | some n => if 0 < n then some (.v (.fad a fl.offset)) else none
        | none => none
      | none => none
    | _, _ => none
  | .field t x f => match P.underlying t, cO x with
    | some (.struct fs), some a => match fs[f]? with
      | some fl => match sizeT P fl.type, aggT P fl.type with
        | some n, some g => some (.v (.fld g n fl.offset a))
        | _, _ => none
      | none => none
    | _, _ => none
  | .indexAddr t x i => match P.underlying t, cO x, cO i with
    | some (.slice e), some a, some i => (sizeT P e).map fun n => .v (.iad n a i)
    | some (.array len e), some a, some i => (sizeT P e).map fun n => .v (.aad n len a i)
    | _, _, _ => none
  | .index t x i => match P.underlying t, cO x, cO i with
    | some .string, some a, some i => some (.v (.idx a i))
    | some (.array len e), some a, some i => match sizeT P e, aggT P e with
      | some n, some g => some (.v (.ida g n len a i))
      | _, _ => none
    | _, _, _ => none
  | .typeAssert x _ t true => match P.underlying t, zeroT P t, cO x with
    | some (.interface _), _, _ => none
    | some _, some z, some a => some (.v (.tya t z a))
    | _, _, _ => none
  | .extract x i => (cO x).map fun a => .v (.ext a i)
  | .call c => cCall P c o.type
  | _ => none

def cG (ops : Array Oper) : Option (Nat × Bool) → Option (Option (Nat × Bool))
  | none => some none
  | some (j, b) => match (ops[j]?).bind (·.dst) with
    | some d => some (some (d, b))
    | none => none
def cGI (P : Program) (ops : Array Oper) (ntmps : Nat) (o : Oper) : Option GI :=
  match cG ops o.guard, cI P o with
  | some g, some i => if o.dst.all (· < ntmps) then some ⟨g, o.dst, i⟩ else none
  | _, _ => none
def cL (P : Program) (ops : Array Oper) (ntmps : Nat) : List Oper → Option (List GI)
  | [] => some []
  | o :: r => match cGI P ops ntmps o, cL P ops ntmps r with
    | some a, some l => some (a :: l)
    | _, _ => none

end Go.V

import Derived.Test.YtodobkbnmjgkdaaGreatPb6
namespace Go.Proofs.YtodobkbnmjgkdaaGreat
open Go.RowKit (Below)
set_option linter.unusedVariables false
namespace HL
inductive GE where
  | v (n : Int) | vn (n : Nat) | l (n : Nat) | m (n : Nat)
  | bin (k : IntKind) (o : BinOp) (a b : GE) | cv (k : IntKind) (a : GE) | mn (a b : GE) | mx (a b : GE)
  | ofN (a : GE) | toN (a : GE) | aFw (a b : GE) | sn (s : SV) | sc (s : SV)
inductive GB where
  | v (b : Bool) | t | f | cmp (o : BinOp) (a b : GE) | no (b : GB)
inductive GA where
  | v (a : Addr) | b (n : Nat) | add (a : GA) (n : Nat) | ix (a : GA) (i : GE) (s : Nat)
inductive GP where
  | v (p : Option Addr) | sa (s : SV) | a (a : GA) | z | cut (c lo : GE) (p : GP) (s : Nat) | aDc (mx lo : GE) (p : GP) (s : Nat)
inductive GV where
  | int (k : IntKind) (e : GE) | bool (b : GB) | ptr (p : GP) | sv (s : SV) | sl (p : GP) (n c : GE)
  | agg (l : List GV) | tup (l : List GV) | fn (f : Nat) (a b : List GV) | kf (p : FuncId × Array Value) | raw (v : Value) | un
def aBa (k : IntKind) (n : Int) : Int := match k with
  | .i64 => p4 n
  | .u64 => u64 n
  | k => IntKind.wrap k n
def arW (k : IntKind) (o : BinOp) (a b : Int) : Int := match o with
  | .add => aBa k (a + b)
  | .sub => aBa k (a - b)
  | .mul => aBa k (a * b)
  | .quo => aBa k (Int.tdiv a b)
  | .rem => Int.tmod a b
  | .shl => aBa k (a * 2 ^ (min b.toNat (IntKind.bits k)))
  | .shr => Int.fdiv a (2 ^ (min b.toNat (IntKind.bits k)))
  | _ => 0
def ltW (a b : Int) : Bool := decide (a < b)
def leW (a b : Int) : Bool := decide (a ≤ b)
def gtW (a b : Int) : Bool := decide (a > b)
def geW (a b : Int) : Bool := decide (a ≥ b)
def mnW (a b : Int) : Int := if b < a then b else a
def mxW (a b : Int) : Int := if b > a then b else a
def ieW (a b : Nat) (p q : Option Addr) : Option Addr := if a = b then p else q
def aK4 (o : BinOp) (a b : Int) : Bool := match o with
  | .lss => ltW a b
  | .leq => leW a b
  | .gtr => gtW a b
  | .geq => geW a b
  | .eql => a == b
  | .neq => a != b
  | _ => false
def aJ0 (n : Nat) : Int := n
theorem aIz (n : Nat) : aJ0 (no_index (@OfNat.ofNat Nat n _)) = (@OfNat.ofNat Int n _) := rfl
mutual
def GE.I : GE → Int
  | .v n => n
  | .vn n => ((n : Nat) : Int)
  | .l n => aJ0 n
  | .m n => -aJ0 n
  | .bin k o a b => arW k o a.I b.I
  | .cv k a => aBa k a.I
  | .mn a b => mnW a.I b.I
  | .mx a b => mxW a.I b.I
  | .ofN a => ((a.N : Nat) : Int)
  | .toN a => ((a.I.toNat : Nat) : Int)
  | .aFw a b => ((a.N - b.N : Nat) : Int)
  | .sn s => ((s.n : Nat) : Int)
  | .sc s => ((s.c : Nat) : Int)
def GE.N : GE → Nat
  | .v n => n.toNat
  | .vn n => n
  | .l n => n
  | .toN a => a.I.toNat
  | .aFw a b => a.N - b.N
  | .sn s => s.n
  | .sc s => s.c
  | _ => 0
end
def GB.B : GB → Bool
  | .v b => b
  | .t => true
  | .f => false
  | .cmp o a b => aK4 o a.I b.I
  | .no b => !b.B
def GA.A : GA → Addr
  | .v a => a
  | .b n => ⟨n, 0, none⟩
  | .add a n => Addr.add a.A n
  | .ix a i s => a.A.add (i.I.toNat * s)
def GP.P : GP → Option Addr
  | .v p => p
  | .sa s => s.a
  | .a x => some x.A
  | .z => none
  | .cut c lo p s => ieW c.N lo.I.toNat p.P (p.P.map (·.add (lo.I.toNat * s)))
  | .aDc mx lo p s => ieW mx.I.toNat lo.I.toNat p.P (p.P.map (·.add (lo.I.toNat * s)))
mutual
def GV.V : GV → Value
  | .int k e => .int k e.I
  | .bool b => .bool b.B
  | .ptr p => .pointer p.P
  | .sv s => SV.v s
  | .sl p n c => .slice p.P n.N c.N
  | .agg l => .agg (GV.L l).toArray
  | .tup l => .tuple (GV.L l).toArray
  | .fn f a b => .func (.func f) (GV.L a).toArray (GV.L b).toArray
  | .kf p => .func (.func p.1) #[] p.2
  | .raw v => v
  | .un => undef
def GV.L : List GV → List Value
  | [] => []
  | x :: r => x.V :: GV.L r
end
def kfV (p : FuncId × Array Value) : Value := .func (.func p.1) #[] p.2
mutual
def GV.W : GV → Value
  | .sl p n c => SV.v ⟨p.P, n.N, c.N⟩
  | .agg l => .agg (GV.WL l).toArray
  | .kf p => kfV p
  | .fn f [] b => kfV (f, (GV.L b).toArray)
  | v => v.V
def GV.WL : List GV → List Value
  | [] => []
  | x :: r => x.W :: GV.WL r
end
def GV.WE : List (Nat × GV) → List (Nat × Value)
  | [] => []
  | (i, x) :: r => (i, x.W) :: GV.WE r
inductive GQ where
  | ld (t : TypeId) (a : GA) (M : Mem)
  | bq (o : BinOp) (t : TypeId) (x y : Operand) (a b : GV)
  | bqm (o : BinOp) (t : TypeId) (x y : Operand) (a b : GV) (M : Mem)
  | nM (t : TypeId) (l : List (Nat × GV))
  | idx (t : TypeId) (a b : GV)
  | lk (t : TypeId) (a b : GV) (ok : Bool) (M : Mem)
  | aF1 (tys : Array TypeId) (t : TypeId) (l : List GV) (M : Mem)
  | rdv (t : TypeId) (a : GV) (M : Mem)
inductive GL where
  | bsl (t : TypeId) (n : Nat) (l : List (Nat × GV))
  | mks (t : TypeId) (a b : GV)
  | mkm (t : TypeId) (a : Option GV)
  | app (tys : List TypeId) (t : TypeId) (l : List GV)
  | cpy (tys : List TypeId) (t : TypeId) (l : List GV)
  | del (tys : List TypeId) (t : TypeId) (l : List GV)
  | clr (tys : List TypeId) (t : TypeId) (l : List GV)
inductive GT where
  | no
  | bs (b : GB) (x y : GT)
  | nc (p : GP) (k : Addr → GT)
  | ob (q : GQ) (k : Value → GT)
  | nA (i : IntKind) (v : Value) (k : Int → GT)
  | shB (v : Value) (k : Bool → GT)
  | shP (v : Value) (k : Option Addr → GT)
  | shS (v : Value) (k : SV → GT)
  | shA (v : Value) (k : List Value → GT)
  | shT (v : Value) (k : List Value → GT)
  | shC (l : List Value) (k : Value → List Value → GT)
  | shN (l : List Value) (x : GT)
  | rng (i n : GE) (x : GT)
  | cut (lo hi c : GE) (x : GT)
  | aDc (lo hi mx c : GE) (x : GT)
  | div (k k' : IntKind) (y : GE) (x : GT)
  | shf (y : GE) (x : GT)
  | call (f : Nat) (l : List GV) (k : Value → Mem → GT) (M : Mem)
  | aLe (p : FuncId × Array Value) (l : List GV) (k : Value → Mem → GT) (M : Mem)
  | st (t : TypeId) (a : GA) (v : GV) (k : Mem → GT) (M : Mem)
  | nw (l : List GV) (t : TypeId) (k : Nat → Mem → GT) (M : Mem)
  | zJ (w : GL) (k : Value → Mem → GT) (M : Mem)
  | men (t : TypeId) (a b : GV) (k : Value → Int → Mem → GT) (M : Mem)
  | mes (t : TypeId) (a b c : GV) (k : Mem → GT) (M : Mem)
  | mup (t : TypeId) (a b c : GV) (k : Mem → GT) (M : Mem)
  | ex (k : Nat → GT)
  | pt (p : List Bool) (ns : List Nat) (e : List (Nat × GV)) (M : Mem)
  | rt (v : GV) (M : Mem)
  | agn (q : GQ) (v : GV) (x : GT)
  | cj (x y : GT)
def GV.E : List (Nat × GV) → List (Nat × Value)
  | [] => []
  | (i, x) :: r => (i, x.V) :: GV.E r
def aFT : List Nat → List Nat
  | [] => []
  | x :: r => x :: aFT r
section
variable (pr : Prim) (aB : fE) (R : VP)
def GQ.Q : GQ → Option Value
  | .ld t a M => pr.ld t a.A M
  | .bq o t x y a b => pr.bq o t x y a.V b.V
  | .bqm o t x y a b M => pr.bqm o t x y a.V b.V M
  | .nM t l => pr.nM t (GV.E l)
  | .idx t a b => pr.idx t a.V b.V
  | .lk t a b ok M => pr.lk t a.V b.V ok M
  | .aF1 tys t l M => pr.aF1 tys t (GV.L l) M
  | .rdv t a M => pr.rdv t a.V M
def GL.K (k : VP) (M : Mem) : GL → Prop
  | .bsl t n l => pr.bsl t n (GV.E l) k M
  | .mks t a b => pr.mks t a.V b.V k M
  | .mkm t (some a) => pr.mkm t (some a.V) k M
  | .mkm t none => pr.mkm t none k M
  | .app tys t l => pr.app (aFT tys).toArray t (GV.L l) k M
  | .cpy tys t l => pr.cpy (aFT tys).toArray t (GV.L l) k M
  | .del tys t l => pr.del (aFT tys).toArray t (GV.L l) k M
  | .clr tys t l => pr.clr (aFT tys).toArray t (GV.L l) k M
def GT.D : GT → Prop
  | .no => False
  | .bs b x y => HL.bs b.B x.D y.D
  | .nc p k => HL.nc p.P fun a => (k a).D
  | .ob q k => HL.ob (q.Q pr) fun v => (k v).D
  | .nA i v k => HL.nA i v fun n => (k n).D
  | .shB v k => HL.shB v fun n => (k n).D
  | .shP v k => HL.shP v fun n => (k n).D
  | .shS v k => HL.shS v fun n => (k n).D
  | .shA v k => HL.shA v fun n => (k n).D
  | .shT v k => HL.shT v fun n => (k n).D
  | .shC l k => HL.dA l fun u r => (k u r).D
  | .shN l x => HL.qB l x.D
  | .rng i n x => (0 ≤ i.I ∧ i.I < ((n.N : Nat) : Int)) ∧ x.D
  | .cut lo hi c x => (0 ≤ lo.I ∧ lo.I ≤ hi.I ∧ hi.I ≤ ((c.N : Nat) : Int)) ∧ x.D
  | .aDc lo hi mx c x => (0 ≤ lo.I ∧ lo.I ≤ hi.I ∧ hi.I ≤ mx.I ∧ mx.I ≤ ((c.N : Nat) : Int)) ∧ x.D
  | .div k k' y x => k = k' ∧ y.I ≠ 0 ∧ x.D
  | .shf y x => 0 ≤ y.I ∧ x.D
  | .call f l k M => pr.call f (GV.L l).toArray (fun v M => (k v M).D) M
  | .aLe p l k M => pr.call p.1 (GV.L l ++ p.2.toList).toArray (fun v M => (k v M).D) M
  | .st t a v k M => pr.st t a.A v.V (fun M => (k M).D) M
  | .nw l t k M => pr.nw (GV.L l) t (fun b M => (k b M).D) M
  | .zJ w k M => w.K pr (fun v M => (k v M).D) M
  | .men t a b k M => pr.men t a.V b.V (fun v n M => (k v n M).D) M
  | .mes t a b c k M => pr.mes t a.V b.V c.V (fun M => (k M).D) M
  | .mup t a b c k M => pr.mup t a.V b.V c.V (fun M => (k M).D) M
  | .ex k => ∃ n, (k n).D
  | .pt p ns e M => aB p ns (GV.WE e) M
  | .rt v M => R v.V M
  | .agn q v x => q.Q pr = some v.V ∧ x.D
  | .cj x y => x.D ∧ y.D
end
abbrev oE := List (Nat × GV)
def aCk (s : Nat) : oE → GV
  | [] => .un
  | (t, v) :: r => match Nat.beq t s with
    | true => v
    | false => aCk s r
def aEm (d : Option Nat) (v : GV) (env : oE) : oE := match d with
  | some s => (s, v) :: env
  | none => env
def frc (v : GV) (K : GV → GT) : GT := match v with
  | .int k e => K (.int k e)
  | .bool b => match b with
    | .t => K (.bool .t)
    | .f => K (.bool .f)
    | .v b => K (.bool (.v b))
    | .cmp o x y => K (.bool (.cmp o x y))
    | .no b => K (.bool (.no b))
  | .ptr p => match p with
    | .v p => K (.ptr (.v p))
    | .a a => match a with
      | .v a => K (.ptr (.a (.v a)))
      | .b n => K (.ptr (.a (.b n)))
      | .add a n => K (.ptr (.a (.add a n)))
      | .ix a i s => K (.ptr (.a (.ix a i s)))
    | .z => K (.ptr .z)
    | .sa s => K (.ptr (.sa s))
    | .cut c lo p s => K (.ptr (.cut c lo p s))
    | .aDc c lo p s => K (.ptr (.aDc c lo p s))
  | .sv s => K (.sv s)
  | .sl p n c => K (.sl p n c)
  | .agg l => K (.agg l)
  | .tup l => K (.tup l)
  | .fn f a b => K (.fn f a b)
  | .kf p => K (.kf p)
  | .raw v => K (.raw v)
  | .un => K .un
def zX : List GV → (List GV → GT) → GT
  | [], K => K []
  | x :: r, K => frc x fun x => zX r fun r => K (x :: r)
def aG5 : Nat → (Nat → GT) → GT
  | 0, K => K 0
  | n + 1, K => K (n + 1)
mutual
def aH0 : Value → GV
  | .int k n => .int k (match n with
    | .ofNat n => .l n
    | .negSucc n => .m (n + 1))
  | .bool true => .bool .t
  | .bool false => .bool .f
  | .pointer none => .ptr .z
  | .slice none 0 0 => .sl .z (.l 0) (.l 0)
  | .agg ⟨l⟩ => .agg (z4 l)
  | .tuple ⟨l⟩ => .tup (z4 l)
  | v => .raw v
def z4 : List Value → List GV
  | [] => []
  | x :: r => aH0 x :: z4 r
end
def aLj (k : K1) (v : Value) (K : GV → GT) : GT := match k with
  | .i k => .nA k v fun n => K (.int k (.v n))
  | .b => .shB v fun b => K (.bool (.v b))
  | .p => .shP v fun p => K (.ptr (.v p))
  | .s => .shS v fun s => K (.sv s)
  | .any => K (.raw v)
def aKp : List K1 → List Value → (List GV → GT) → GT
  | [], l, K => .shN l (K [])
  | k :: ks, l, K => .shC l fun u r => aLj k u fun v => aKp ks r fun l => K (v :: l)
section
variable (P : Program)
def isAgg (t : TypeId) : Bool := match P.underlying t with
  | some (.struct _) => true
  | some (.array _ _) => true
  | _ => false
def aK1 (t : TypeId) (v : Value) (K : GV → GT) : GT := match P.underlying t with
  | some (.struct _) => .shA v fun l => aKp (kinds P 8 t) l fun l => K (.agg l)
  | some (.array _ _) => .shA v fun l => aKp (kinds P 8 t) l fun l => K (.agg l)
  | x => aLj (aD8 x) v K
def aJL : List TypeId → List Value → (List GV → GT) → GT
  | [], l, K => .shN l (K [])
  | t :: ts, l, K => .shC l fun u r => aK1 P t u fun v => aJL ts r fun l => K (v :: l)
def aLC (t : TypeId) (v : Value) (K : GV → GT) : GT := match P.underlying t with
  | some (.tuple ts) => .shT v fun l => aJL P ts.toList l fun l => K (.tup l)
  | _ => aK1 P t v K
def aBh (t : TypeId) (v : Value) (K : GV → GT) : GT := match t with
  | 0 => K (.raw v)
  | t + 1 => aLC P (t + 1) v K
def aEW (t : TypeId) : Nat := match P.info? t with
  | some i => i.size
  | none => 0
def pY (env : oE) : Operand → GV
  | .tmp t => aCk t env
  | .const v => aH0 v
  | .global g => .raw (.pointer (some ⟨g, 0, none⟩))
  | .func f => .fn f [] []
def aAv (env : oE) : List Operand → List GV
  | [] => []
  | x :: r => pY env x :: aAv env r
def aJ4 (env : oE) : List (Nat × Operand) → List (Nat × GV)
  | [] => []
  | x :: r => (x.1, pY env x.2) :: aJ4 env r
def aJV : GV → List GV
  | .agg l => l
  | v => [v]
def aJw : Nat → List GV → List GV
  | 0, _ => []
  | _, [] => []
  | n + 1, x :: r => x :: aJw n r
def aJM : Nat → List GV → List GV
  | 0, l => l
  | _, [] => []
  | n + 1, _ :: r => aJM n r
def aJ1 : Nat → List GV → GV
  | _, [] => .un
  | 0, x :: _ => x
  | n + 1, _ :: r => aJ1 n r
def aKn : List GV → List GV → List GV
  | [], l => l
  | x :: r, l => x :: aKn r l
def aEY (t : TypeId) (i : Nat) : Option Field := match P.underlying t with
  | some (.struct fs) => fs.toList[i]?
  | _ => none
def aK2 : BinOp → Bool
  | .lss | .leq | .gtr | .geq | .eql | .neq => true
  | _ => false
def aLu : BinOp → Bool
  | .add | .sub | .mul => true
  | _ => false
def aLL : BinOp → Bool
  | .quo | .rem => true
  | _ => false
def aLT : BinOp → Bool
  | .shl | .shr => true
  | _ => false
def aLF (o : BinOp) (t : TypeId) (X Y : Operand) (ty : TypeId) (a b : GV) (M : Mem) (K : GV → GT) : GT :=
  let ask : GT := match aJH P o t X Y with
    | true => .ob (.bqm o t X Y a b M) fun v => aBh P ty v K
    | false => .ob (.bq o t X Y a b) fun v => aBh P ty v K
  match a with
  | .int k x => match b with
    | .int k' y => match aLu o with
      | true => K (.int k (.bin k o x y))
      | false => match aK2 o with
        | true => K (.bool (.cmp o x y))
        | false => match aLL o with
          | true => .div k k' y (K (.int k (.bin k o x y)))
          | false => match aLT o with
            | true => .shf y (K (.int k (.bin k o x y)))
            | false => ask
    | _ => ask
  | _ => ask
def aJZ (lt : Bool) : List GV → GV → GV
  | [], a => a
  | b :: r, a => match a with
    | .int k x => match b with
      | .int _ y => aJZ lt r (match lt with
        | true => .int k (.mn x y)
        | false => .int k (.mx x y))
      | _ => .un
    | _ => .un
def aKi (v : GV) (K : GP → GE → GE → GT) : GT := match v with
  | .sv s => K (.sa s) (.sn s) (.sc s)
  | .sl p n c => K p n c
  | _ => .no
def aHS (v : GV) (K : GE → GT) : GT := match v with
  | .int _ e => K e
  | _ => .no
def aHn (v : GV) (K : GA → GT) : GT := match v with
  | .ptr (.a a) => K a
  | _ => .no
def aKR (env : oE) (x : Option Operand) (d : GE) (K : GE → GT) : GT := match x with
  | some x => aHS (pY env x) K
  | none => K d
def aK9 (e : TypeId) : List GV := match zeroOf P e with
  | some z => z4 z.cells.toList
  | none => []
def aAy (w : GL) (t : TypeId) (M : Mem) (K : GV → Mem → GT) : GT := .zJ w (fun v M => aBh P t v fun v => K v M) M
def gop (o : Oper) (env : oE) (M : Mem) (K : GV → Mem → GT) : GT := match o.op with
  | .move x => frc (pY env x) fun v => K v M
  | .assign x => frc (pY env x) fun v => K v M
  | .nilCheck x => match pY env x with
    | .ptr p => match p with
      | .a a => K (.ptr (.a a)) M
      | .v p => .nc (.v p) fun a => K (.ptr (.a (.v a))) M
      | .z => .nc .z fun a => K (.ptr (.a (.v a))) M
      | .sa s => .nc (.sa s) fun a => K (.ptr (.a (.v a))) M
      | .cut c l p s => .no
      | .aDc c l p s => .no
    | .fn f a b => K (.fn f a b) M
    | .kf p => K (.kf p) M
    | _ => .no
  | .load t a => aHn (pY env a) fun a => .ob (.ld t a M) fun v => aBh P o.type v fun v => K v M
  | .store t a x => aHn (pY env a) fun a => frc (pY env x) fun v => .st t a v (fun M => K .un M) M
  | .alloc e => zX (aK9 P e) fun l => .nw l e (fun b M => K (.ptr (.a (.b b))) M) M
  | .box e x => frc (pY env x) fun v => zX (aJV v) fun l => .nw l e (fun b M => K (.ptr (.a (.b b))) M) M
  | .fieldAddr t x i => aHn (pY env x) fun a => match aEY P t i with
    | some f => match f.offset with
      | 0 => K (.ptr (.a a)) M
      | n + 1 => aG5 (n + 1) fun n => K (.ptr (.a (.add a n))) M
    | none => .no
  | .indexAddr t x i => match P.underlying t with
    | some (.slice e) => aKi (pY env x) fun p n c => aHS (pY env i) fun i => .nc p fun a => .rng i n (aG5 (aEW P e) fun s => K (.ptr (.a (.ix (.v a) i s))) M)
    | some (.array m e) => aHn (pY env x) fun a => aHS (pY env i) fun i => .rng i (.l m) (aG5 (aEW P e) fun s => K (.ptr (.a (.ix a i s))) M)
    | _ => .no
  | .slice t x lo hi mx => match P.underlying t with
    | some (.slice e) => aKi (pY env x) fun p n c => aKR env lo (.l 0) fun lo => aKR env hi (.ofN n) fun hi => aG5 (aEW P e) fun s => match mx with
      | none => .cut lo hi c (K (.sl (.cut c lo p s) (.aFw (.toN hi) (.toN lo)) (.aFw c (.toN lo))) M)
      | some mx => aHS (pY env mx) fun mx => .aDc lo hi mx c (K (.sl (.aDc mx lo p s) (.aFw (.toN hi) (.toN lo)) (.aFw (.toN mx) (.toN lo))) M)
    | _ => .no
  | .pick c a b => match pY env c with
    | .bool b' => match b' with
      | .t => frc (pY env a) fun v => K v M
      | .f => frc (pY env b) fun v => K v M
      | c => .bs c (frc (pY env a) fun v => K v M) (frc (pY env b) fun v => K v M)
    | _ => .no
  | .binOp op t x y _ => frc (pY env x) fun a => frc (pY env y) fun b => aLF P op t x y o.type a b M fun v => K v M
  | .unOp op _ x => match pY env x with
    | .bool b => match b with
      | .t => K (.bool .f) M
      | .f => K (.bool .t) M
      | b => K (.bool (.no b)) M
    | .int k e => match op with
      | .neg => K (.int k (.bin k .sub (.l 0) e)) M
      | _ => .no
    | _ => .no
  | .convert _ d x => aHS (pY env x) fun e => match P.underlying d with
    | some (.int k) => K (.int k (.cv k e)) M
    | _ => .no
  | .field t x i => match pY env x with
    | .agg l => match aEY P t i with
      | some f => match isAgg P f.type with
        | true => zX (aJw (aEW P f.type) (aJM f.offset l)) fun l => K (.agg l) M
        | false => frc (aJ1 f.offset l) fun v => K v M
      | none => .no
    | _ => .no
  | .index t x i => frc (pY env x) fun a => frc (pY env i) fun b => .ob (.idx t a b) fun v => aBh P o.type v fun v => K v M
  | .extract x i => match pY env x with
    | .tup l => frc (aJ1 i l) fun v => K v M
    | _ => .no
  | .build t ps => .ob (.nM t (aJ4 env ps.toList)) fun v => aBh P o.type v fun v => K v M
  | .makeFunc (.func f) a b => zX (aAv env a.toList) fun a => zX (aAv env b.toList) fun b => K (.fn f a b) M
  | .buildSlice t n ps => aAy P (.bsl t n (aJ4 env ps.toList)) o.type M K
  | .makeMap t r => aAy P (.mkm t (match r with
    | some x => some (pY env x)
    | none => none)) o.type M K
  | .lookup t x i ok => .ob (.lk t (pY env x) (pY env i) ok M) fun v => aBh P o.type v fun v => K v M
  | .mapEntry t m k => .men t (pY env m) (pY env k) (fun v n M => K (.tup [.raw v, .int .i64 (.v n)]) M) M
  | .entryStore t m k x => .mes t (pY env m) (pY env k) (pY env x) (fun M => K .un M) M
  | .mapUpdate t m k x => .mup t (pY env m) (pY env k) (pY env x) (fun M => K .un M) M
  | .insert t m k x => .mup t (pY env m) (pY env k) (pY env x) (fun M => K .un M) M
  | .makeSlice t l c => aAy P (.mks t (pY env l) (pY env c)) o.type M K
  | .call ⟨.value f, args, _⟩ => match pY env f with
    | .fn f a b => zX (aKn a (aKn (aAv env args.toList) b)) fun l => .call f l (fun v M => aBh P o.type v fun v => K v M) M
    | .kf p => zX (aAv env args.toList) fun l => .aLe p l (fun v M => aBh P o.type v fun v => K v M) M
    | _ => .no
  | .call ⟨.builtin .len, args, tys⟩ => match pY env (args.toList.headD (.tmp 0)) with
    | .sv s => K (.int .i64 (.ofN (.sn s))) M
    | .sl p n c => K (.int .i64 (.ofN n)) M
    | v => match aJx P tys[0]? with
      | true => .ob (.aF1 tys o.type [v] M) fun v => aBh P o.type v fun v => K v M
      | false => match P.underlying (tys.toList.headD 0) with
        | some (.array n _) => K (.int .i64 (.ofN (.l n))) M
        | _ => .no
  | .call ⟨.builtin .cap, args, _⟩ => aKi (pY env (args.toList.headD (.tmp 0))) fun p n c => K (.int .i64 (.ofN c)) M
  | .call ⟨.builtin .min, args, _⟩ => match aAv env args.toList with
    | a :: r => frc (aJZ true r a) fun v => K v M
    | [] => .no
  | .call ⟨.builtin .max, args, _⟩ => match aAv env args.toList with
    | a :: r => frc (aJZ false r a) fun v => K v M
    | [] => .no
  | .call ⟨.builtin .append, args, tys⟩ => zX (aAv env args.toList) fun l => aAy P (.app tys.toList o.type l) o.type M K
  | .call ⟨.builtin .copy, args, tys⟩ => zX (aAv env args.toList) fun l => aAy P (.cpy tys.toList o.type l) o.type M K
  | .call ⟨.builtin .delete, args, tys⟩ => zX (aAv env args.toList) fun l => aAy P (.del tys.toList o.type l) o.type M K
  | .call ⟨.builtin .clear, args, tys⟩ => zX (aAv env args.toList) fun l => aAy P (.clr tys.toList o.type l) o.type M K
  | _ => .no
def aJS (ops : List Oper) (i : Nat) (dst : Option Nat) (env : oE) (v : GV) (K : oE → GT) : GT := match guards ops i with
  | true => match v with
    | .bool b => match b with
      | .t => K (aEm dst (.bool .t) env)
      | .f => K (aEm dst (.bool .f) env)
      | b => .bs b (K (aEm dst (.bool .t) env)) (K (aEm dst (.bool .f) env))
    | _ => .no
  | false => K (aEm dst v env)
def ggd (ops : List Oper) (i : Nat) (o : Oper) (env : oE) (M : Mem) (K : oE → Mem → GT) : GT :=
  match o.guard with
  | none => gop P o env M fun v M => aJS ops i o.dst env v fun env => K env M
  | some (j, want) => match oH ops j with
    | none => .no
    | some t => match aCk t env with
      | .bool b => match b, want with
        | .t, true => gop P o env M fun v M => aJS ops i o.dst env v fun env => K env M
        | .f, false => gop P o env M fun v M => aJS ops i o.dst env v fun env => K env M
        | _, _ => K (aEm o.dst .un env) M
      | _ => K (aEm o.dst .un env) M
def aK6 (ops : List Oper) : Nat → List Oper → oE → Mem → (oE → Mem → GT) → GT
  | _, [], env, M, K => K env M
  | i, o :: r, env, M, K => ggd P ops i o env M fun env M => aK6 ops (i + 1) r env M K
def aGT (ops : List Oper) : List Nat → oE → Mem → (oE → GT) → GT
  | [], env, _, K => K env
  | i :: r, env, M, K => match ops[i]? with
    | some o => ggd P ops i o env M fun env _ => aGT ops r env M K
    | none => .no
def aH2 (o : Oper) (env : oE) (M : Mem) (K : GT) : GT := match o.dst with
  | some d => match o.op with
    | .load t a => aHn (pY env a) fun a => .agn (.ld t a M) (aCk d env) K
    | .lookup t x i ok => .agn (.lk t (pY env x) (pY env i) ok M) (aCk d env) K
    | _ => .no
  | none => .no
def aBO (ops : List Oper) : List Nat → oE → Mem → GT → GT
  | [], _, _, K => K
  | i :: r, env, M, K => match ops[i]? with
    | some o => match o.guard with
      | none => aH2 o env M (aBO ops r env M K)
      | some (j, want) => match oH ops j with
        | some t => match aCk t env with
          | .bool b => match b, want with
            | .t, true => aH2 o env M (aBO ops r env M K)
            | .f, false => aH2 o env M (aBO ops r env M K)
            | _, _ => aBO ops r env M K
          | _ => aBO ops r env M K
        | none => .no
    | none => .no
def aJA (f : Nat → GT) : List Nat → GT
  | [] => .no
  | [x] => f x
  | x :: y :: r => .cj (f x) (aJA f (y :: r))
def aGE (ops : List Oper) : Nat → List Nat → List Nat → Nat → oE → Mem → (oE → Mem → GT) → GT
  | 0, _, _, _, _, _, _ => .no
  | fuel + 1, news, olds, done, env, M, K =>
    aGT P ops news env M fun env => aBO ops olds env M (match sub (wW ops) done with
      | true => K env M
      | false => aJA (fun l => match ops[l]? with
        | some o => ggd P ops l o env M fun env M =>
            aG5 (done ||| 2 ^ l) fun d => aGE ops fuel (zO ops d done) (aC5 P ops d done) d env M K
        | none => .no) (aCn ops done))
def aKS (ops : List Oper) (env : oE) (M : Mem) (K : oE → Mem → GT) : GT := aGE P ops (ops.length + 1) (aKZ ops 0) [] 0 env M K
abbrev w7 := Exit → oE → Mem → GT
def aBr (K : oE → Mem → GT) (Q : w7) : w7 := fun e env M => match e with
  | .normal => K env M
  | e => Q e env M
def aLm (id : Nat) (Q : w7) : w7 := fun e env M => match e with
  | .exit id' => match Nat.beq id' id with
    | true => Q .normal env M
    | false => Q (.exit id') env M
  | e => Q e env M
def zB : List Nat → oE → oE
  | [], _ => []
  | s :: r, env => (s, aCk s env) :: zB r env
def gX : HC → List Bool → List Nat → w7 → oE → Mem → GT
  | .region _ ops dr, _, _, Q, env, M => match dr with
    | false => aK6 P ops.toList 0 ops.toList env M fun e m => Q .normal e m
    | true => aKS P ops.toList env M fun e m => Q .normal e m
  | .seq x y, p, ns, Q, env, M => gX x (false :: p) ns (aBr (gX y (true :: p) ns Q) Q) env M
  | .join live x y, p, ns, Q, env, M => gX x (false :: p) ns (aBr (fun env M => .pt (true :: p) ns (zB live env) M) Q) env M
  | .cond c x y, p, ns, Q, env, M => match pY env c with
    | .bool b => match b with
      | .t => gX x (false :: p) ns Q env M
      | .f => gX y (true :: p) ns Q env M
      | b => .bs b (gX x (false :: p) ns Q env M) (gX y (true :: p) ns Q env M)
    | _ => .no
  | .block id x, p, ns, Q, env, M => gX x (false :: p) ns (aLm id Q) env M
  | .loop live x, p, ns, Q, env, M => .ex fun k => .pt (false :: p) (k :: ns) (zB live env) M
  | .exit id, _, _, Q, env, M => Q (.exit id) env M
  | .ret, _, _, Q, env, M => Q .ret env M
  | .skip, _, _, Q, env, M => Q .normal env M
  | .bad _, _, _, _, _, _ => .no
def yF : HC → List Bool → List Bool → List Nat → List Nat → w7 → HC × w7 × List Nat
  | .seq x y, false :: q, p, ms, ns, Q => yF x q (false :: p) ms ns (aBr (gX P y (true :: p) ns Q) Q)
  | .seq x y, true :: q, p, ms, ns, Q => yF y q (true :: p) ms ns Q
  | .join live x y, false :: q, p, ms, ns, Q => yF x q (false :: p) ms ns (aBr (fun env M => .pt (true :: p) ns (zB live env) M) Q)
  | .join live x y, true :: q, p, ms, ns, Q => yF y q (true :: p) ms ns Q
  | .cond c x y, false :: q, p, ms, ns, Q => yF x q (false :: p) ms ns Q
  | .cond c x y, true :: q, p, ms, ns, Q => yF y q (true :: p) ms ns Q
  | .block id x, false :: q, p, ms, ns, Q => yF x q (false :: p) ms ns (aLm id Q)
  | .loop live x, false :: q, p, m :: ms, ns, Q => yF x q (false :: p) ms (m :: ns) (aBr (fun env M => .pt (false :: p) (m :: ns) (zB live env) M) Q)
  | h, _, _, ms, _, Q => (h, Q, ms)
def bO (h : HC) (Q : w7) : List Bool → List Nat → oE → Mem → GT
  | [], _, _, _ => .no
  | _ :: p, ns, e, M => match yF P h p.reverse [] (match ns with
      | [] => []
      | _ => ns.reverse) [] Q with
    | (.join _ _ y, Q', _) => gX P y (true :: p) ns Q' e M
    | (.loop live x, Q', _) => gX P x (false :: p) ns (aBr (fun env M => .pt (false :: p) ns (zB live env) M) Q') e M
    | _ => .no
def aJq : List ResultVar → oE → Mem → (List GV → GT) → GT
  | [], _, _, K => K []
  | .tmp t :: r, env, M, K => aJq r env M fun l => K (aCk t env :: l)
  | .cell c t :: r, env, M, K => .ob (.rdv t (aCk c env) M) fun u => aJq r env M fun l => K (.raw u :: l)
def gone : List GV → GV
  | [v] => v
  | l => .tup l
def aLx (rs : List ResultVar) : w7 := fun e env M => match e with
  | .normal => aJq rs env M fun l => .rt (gone l) M
  | .ret => aJq rs env M fun l => .rt (gone l) M
  | _ => .no
end
end HL
namespace HL
@[reducible] def aJ (pr : Prim) (aB : fE) (R : VP) (X : GT) {Y : GT} (h : X = Y := by conv => lhs; reduce) {T : Prop}
    (h2 : Y.D pr aB R = T := by conv => lhs; dsimp only [GT.D, GQ.Q, GL.K, GV.V, GV.L, GV.E, GV.W, GV.WL, GV.WE, GE.I, GE.N, GB.B, GA.A, GP.P, arW, aK4, aBa, aFT, aIz, List.cons_append, List.nil_append]; try dsimp only [ltW, leW, gtW, geW, mnW, mxW, ieW]) : Prop := T
def bd (fn : Func) : Code := fn.body.getD .skip
section
variable {P : Program} {w0 : World}
def pK (P : Program) (pr : Prim) (aB : fE) (h : HC) (fn : Func) (R : VP) : Prop := ∀ b p ns e M, reach h p.reverse ns.reverse = true →
  aB (b :: p) ns e M = zM P pr aB h (aBm pr fn.results.toList R) (b :: p) ns e M
def okG (P : Program) (f : FuncId) (fn : Func) (h : HC) (n : Nat) : Bool := fn.body.isSome && (oS P f && (okH fn.ntmps h && Nat.ble n fn.ntmps))
theorem c8 (hm : P.follows .mixedOrders = true) {f : FuncId} {fn : Func} {h : HC} {args : List Value} {R : VP} {M : Mem} {T : Prim → fE → Prop} (hf : P.funcs[f]? = some fn) (hc : h.code = bd fn)
    (hk : okG P f fn h args.length = true) (he : ∀ pr aB, wpX P pr aB h [] [] (aBm pr fn.results.toList R) (xI 0 args) M = T pr aB)
    (ht : ∀ aB, pK P (aH P w0) aB h fn R → T (aH P w0) aB) : C P w0 f args.toArray R M := by
  unfold okG at hk
  simp only [Bool.and_eq_true] at hk
  obtain ⟨h1, h2, h3, h4⟩ := hk
  have hb : fn.body = some (bd fn) := by
    unfold bd
    cases hb : fn.body with
    | none => rw [hb] at h1; cases h1
    | some c => rfl
  refine aEC hm hf hb h2 hc h3 (Nat.le_of_ble_eq_true h4) ?_
  rw [aE4]
  rw [he]
  exact ht _ fun b p ns e M hr => z7 hr e M
def gR (fn : Func) : w7 := aLx fn.results.toList
end
end HL
namespace HL
noncomputable abbrev PP : Program := Tryz.prog
theorem mixed : PP.follows .mixedOrders = true := by kernel_rfl
namespace Id
abbrev aK : FuncId := 5
abbrev cK : FuncId := 9
abbrev jN : FuncId := 10
abbrev iK : FuncId := 14
abbrev lZ : FuncId := 16
abbrev eX : FuncId := 19
abbrev eS : FuncId := 21
abbrev fI : FuncId := 22
abbrev vT : FuncId := 23
abbrev fA : FuncId := 25
abbrev rA : FuncId := 26
abbrev bG : FuncId := 31
abbrev j7 : FuncId := 35
abbrev kL : FuncId := 36
abbrev qQ : FuncId := 37
abbrev jU : FuncId := 40
abbrev lU : FuncId := 41
abbrev oC : FuncId := 42
abbrev kR : FuncId := 43
abbrev mB : FuncId := 44
abbrev gT : FuncId := 45
abbrev kP : FuncId := 46
abbrev oN : FuncId := 47
abbrev oV : FuncId := 48
abbrev iY : FuncId := 50
abbrev fW : FuncId := 51
abbrev lG : FuncId := 54
abbrev kW : FuncId := 55
abbrev m6 : FuncId := 57
abbrev jE : FuncId := 58
abbrev jD : FuncId := 60
abbrev mA : FuncId := 62
abbrev p7 : FuncId := 63
abbrev fK : FuncId := 64
abbrev cB : FuncId := 65
abbrev bR : FuncId := 66
abbrev gD : FuncId := 67
abbrev iT : FuncId := 68
abbrev nU : FuncId := 69
abbrev iP : FuncId := 70
abbrev qP : FuncId := 71
abbrev gH : FuncId := 72
abbrev mL : FuncId := 73
abbrev kF : FuncId := 74
abbrev pL : FuncId := 76
abbrev kV : FuncId := 79
abbrev cO : FuncId := 80
abbrev cG : FuncId := 81
abbrev pO : FuncId := 83
abbrev cQ : FuncId := 84
abbrev mD : FuncId := 85
abbrev j4 : FuncId := 86
abbrev qM : FuncId := 87
abbrev nQ : FuncId := 88
abbrev vJ : FuncId := 89
abbrev mM : FuncId := 90
abbrev lV : FuncId := 91
abbrev nW : FuncId := 92
abbrev oO : FuncId := 93
abbrev vP : FuncId := 94
abbrev iO : FuncId := 95
abbrev kT : FuncId := 96
abbrev lY : FuncId := 97
abbrev fX : FuncId := 98
abbrev kN : FuncId := 99
abbrev jO : FuncId := 100
abbrev fP : FuncId := 102
abbrev oQ : FuncId := 105
abbrev bY : FuncId := 114
abbrev kD : FuncId := 115
abbrev gW : FuncId := 116
abbrev kU : FuncId := 117
abbrev j6 : FuncId := 118
abbrev eT : FuncId := 119
abbrev dZ : FuncId := 120
abbrev gJ : FuncId := 121
abbrev mH : FuncId := 122
abbrev eK : FuncId := 123
abbrev cX : FuncId := 124
abbrev dL : FuncId := 125
abbrev kJ : FuncId := 126
abbrev dM : FuncId := 127
abbrev dE : FuncId := 128
abbrev jP : FuncId := 129
abbrev fF : FuncId := 132
abbrev iA : FuncId := 133
abbrev gC : FuncId := 134
abbrev pN : FuncId := 135
abbrev oL : FuncId := 136
abbrev n6 : FuncId := 137
abbrev jZ : FuncId := 138
abbrev gE : FuncId := 141
abbrev cP : FuncId := 142
abbrev j0 : FuncId := 143
abbrev qX : FuncId := 144
abbrev qR : FuncId := 145
abbrev lS : FuncId := 146
abbrev iC : FuncId := 149
abbrev jM : FuncId := 150
abbrev eY : FuncId := 151
abbrev oK : FuncId := 154
abbrev oP : FuncId := 155
abbrev jQ : FuncId := 156
abbrev rK : FuncId := 157
abbrev gL : FuncId := 158
abbrev nX : FuncId := 159
abbrev kI : FuncId := 160
abbrev jL : FuncId := 163
abbrev rE : FuncId := 164
abbrev mG : FuncId := 165
abbrev j5 : FuncId := 168
abbrev iS : FuncId := 169
abbrev oF : FuncId := 170
abbrev nP : FuncId := 171
abbrev j8 : FuncId := 172
abbrev cU : FuncId := 175
abbrev dC : FuncId := 181
abbrev iU : FuncId := 183
abbrev qY : FuncId := 184
abbrev fM : FuncId := 185
abbrev iN : FuncId := 186
abbrev lN : FuncId := 187
abbrev eC : FuncId := 188
abbrev vG : FuncId := 189
abbrev fY : FuncId := 190
abbrev cS : FuncId := 191
abbrev cH : FuncId := 193
abbrev c7 : FuncId := 194
abbrev n9 : FuncId := 195
abbrev bS : FuncId := 196
abbrev qT : FuncId := 197
abbrev l0 : FuncId := 198
abbrev bD : FuncId := 199
abbrev m9 : FuncId := 200
abbrev iX : FuncId := 201
abbrev sN : FuncId := 202
abbrev oI : FuncId := 207
abbrev bZ : FuncId := 208
abbrev nC : FuncId := 209
abbrev nO : FuncId := 210
abbrev lA : FuncId := 211
abbrev jB : FuncId := 212
abbrev uW : FuncId := 213
abbrev iQ : FuncId := 216
abbrev cT : FuncId := 217
abbrev kM : FuncId := 218
abbrev bN : FuncId := 219
abbrev sK : FuncId := 220
abbrev hJ : FuncId := 221
abbrev cF : FuncId := 224
abbrev lW : FuncId := 231
abbrev gG : FuncId := 232
abbrev cN : FuncId := 233
abbrev kH : FuncId := 234
abbrev lL : FuncId := 235
abbrev eA : FuncId := 238
abbrev mI : FuncId := 239
abbrev mF : FuncId := 240
abbrev iW : FuncId := 241
abbrev aAB : FuncId := 242
abbrev m5 : FuncId := 243
abbrev cI : FuncId := 244
abbrev dO : FuncId := 245
abbrev dD : FuncId := 246
abbrev cJ : FuncId := 247
abbrev kK : FuncId := 248
abbrev gY : FuncId := 249
abbrev p6 : FuncId := 251
abbrev fS : FuncId := 252
abbrev iZ : FuncId := 253
abbrev uO : FuncId := 254
abbrev gV : FuncId := 260
abbrev rP : FuncId := 263
abbrev aD : FuncId := 271
abbrev gB : FuncId := 272
abbrev oW : FuncId := 274
abbrev nD : FuncId := 275
abbrev uY : FuncId := 276
abbrev qG : FuncId := 278
abbrev iV : FuncId := 283
abbrev jX : FuncId := 287
end Id
end HL
end Go.Proofs.YtodobkbnmjgkdaaGreat

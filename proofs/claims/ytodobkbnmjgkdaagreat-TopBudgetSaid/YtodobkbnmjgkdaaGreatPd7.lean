import Derived.Test.YtodobkbnmjgkdaaGreatPd6
namespace Go.Proofs.YtodobkbnmjgkdaaGreat
open Go.RowKit (Below)
set_option linter.unusedVariables false
namespace HL
inductive GE where
  | v (n : Int) | vn (n : Nat) | l (n : Nat) | m (n : Nat)
  | bin (k : IntKind) (o : BinOp) (a b : GE) | cv (k : IntKind) (a : GE) | mn (a b : GE) | mx (a b : GE)
  | ofN (a : GE) | toN (a : GE) | aGz (a b : GE) | sn (s : SV) | sc (s : SV)
inductive GB where
  | v (b : Bool) | t | f | cmp (o : BinOp) (a b : GE) | no (b : GB)
inductive GA where
  | v (a : Addr) | b (n : Nat) | add (a : GA) (n : Nat) | ix (a : GA) (i : GE) (s : Nat)
inductive GP where
  | v (p : Option Addr) | sa (s : SV) | a (a : GA) | z | cut (c lo : GE) (p : GP) (s : Nat) | aC3 (mx lo : GE) (p : GP) (s : Nat)
inductive GV where
  | int (k : IntKind) (e : GE) | bool (b : GB) | ptr (p : GP) | sv (s : SV) | sl (p : GP) (n c : GE)
  | agg (l : List GV) | tup (l : List GV) | fn (f : Nat) (a b : List GV) | kf (p : FuncId × Array Value) | raw (v : Value) | un
def aAJ (k : IntKind) (n : Int) : Int := match k with
  | .i64 => qB n
  | .u64 => u64 n
  | k => IntKind.wrap k n
def arW (k : IntKind) (o : BinOp) (a b : Int) : Int := match o with
  | .add => aAJ k (a + b)
  | .sub => aAJ k (a - b)
  | .mul => aAJ k (a * b)
  | .quo => aAJ k (Int.tdiv a b)
  | .rem => Int.tmod a b
  | .shl => aAJ k (a * 2 ^ (min b.toNat (IntKind.bits k)))
  | .shr => Int.fdiv a (2 ^ (min b.toNat (IntKind.bits k)))
  | _ => 0
def ltW (a b : Int) : Bool := decide (a < b)
def leW (a b : Int) : Bool := decide (a ≤ b)
def gtW (a b : Int) : Bool := decide (a > b)
def geW (a b : Int) : Bool := decide (a ≥ b)
def mnW (a b : Int) : Int := if b < a then b else a
def mxW (a b : Int) : Int := if b > a then b else a
def ieW (a b : Nat) (p q : Option Addr) : Option Addr := if a = b then p else q
def aLx (o : BinOp) (a b : Int) : Bool := match o with
  | .lss => ltW a b
  | .leq => leW a b
  | .gtr => gtW a b
  | .geq => geW a b
  | .eql => a == b
  | .neq => a != b
  | _ => false
def aKq (n : Nat) : Int := n
theorem aJQ (n : Nat) : aKq (no_index (@OfNat.ofNat Nat n _)) = (@OfNat.ofNat Int n _) := rfl
mutual
def GE.I : GE → Int
  | .v n => n
  | .vn n => ((n : Nat) : Int)
  | .l n => aKq n
  | .m n => -aKq n
  | .bin k o a b => arW k o a.I b.I
  | .cv k a => aAJ k a.I
  | .mn a b => mnW a.I b.I
  | .mx a b => mxW a.I b.I
  | .ofN a => ((a.N : Nat) : Int)
  | .toN a => ((a.I.toNat : Nat) : Int)
  | .aGz a b => ((a.N - b.N : Nat) : Int)
  | .sn s => ((s.n : Nat) : Int)
  | .sc s => ((s.c : Nat) : Int)
def GE.N : GE → Nat
  | .v n => n.toNat
  | .vn n => n
  | .l n => n
  | .toN a => a.I.toNat
  | .aGz a b => a.N - b.N
  | .sn s => s.n
  | .sc s => s.c
  | _ => 0
end
def GB.B : GB → Bool
  | .v b => b
  | .t => true
  | .f => false
  | .cmp o a b => aLx o a.I b.I
  | .no b => !b.B
def GA.A : GA → Addr
  | .v a => a
  | .b n => ⟨n, 0, none⟩
  | .add a n => Addr.add a.A n
  | .ix a i s => a.A.add (i.I.toNat * s)
def GP.P : GP → Option Addr
  | .v p => p
  | .sa s => s.a
  | .a x => some x.A
  | .z => none
  | .cut c lo p s => ieW c.N lo.I.toNat p.P (p.P.map (·.add (lo.I.toNat * s)))
  | .aC3 mx lo p s => ieW mx.I.toNat lo.I.toNat p.P (p.P.map (·.add (lo.I.toNat * s)))
mutual
def GV.V : GV → Value
  | .int k e => .int k e.I
  | .bool b => .bool b.B
  | .ptr p => .pointer p.P
  | .sv s => SV.v s
  | .sl p n c => .slice p.P n.N c.N
  | .agg l => .agg (GV.L l).toArray
  | .tup l => .tuple (GV.L l).toArray
  | .fn f a b => .func (.func f) (GV.L a).toArray (GV.L b).toArray
  | .kf p => .func (.func p.1) #[] p.2
  | .raw v => v
  | .un => undef
def GV.L : List GV → List Value
  | [] => []
  | x :: r => x.V :: GV.L r
end
def kfV (p : FuncId × Array Value) : Value := .func (.func p.1) #[] p.2
mutual
def GV.W : GV → Value
  | .sl p n c => SV.v ⟨p.P, n.N, c.N⟩
  | .agg l => .agg (GV.WL l).toArray
  | .kf p => kfV p
  | .fn f [] b => kfV (f, (GV.L b).toArray)
  | v => v.V
def GV.WL : List GV → List Value
  | [] => []
  | x :: r => x.W :: GV.WL r
end
def GV.WE : List (Nat × GV) → List (Nat × Value)
  | [] => []
  | (i, x) :: r => (i, x.W) :: GV.WE r
inductive GQ where
  | ld (t : TypeId) (a : GA) (M : Mem)
  | bq (o : BinOp) (t : TypeId) (x y : Operand) (a b : GV)
  | bqm (o : BinOp) (t : TypeId) (x y : Operand) (a b : GV) (M : Mem)
  | pD (t : TypeId) (l : List (Nat × GV))
  | idx (t : TypeId) (a b : GV)
  | lk (t : TypeId) (a b : GV) (ok : Bool) (M : Mem)
  | aGC (tys : Array TypeId) (t : TypeId) (l : List GV) (M : Mem)
  | rdv (t : TypeId) (a : GV) (M : Mem)
inductive GL where
  | bsl (t : TypeId) (n : Nat) (l : List (Nat × GV))
  | mks (t : TypeId) (a b : GV)
  | mkm (t : TypeId) (a : Option GV)
  | app (tys : List TypeId) (t : TypeId) (l : List GV)
  | cpy (tys : List TypeId) (t : TypeId) (l : List GV)
  | del (tys : List TypeId) (t : TypeId) (l : List GV)
  | clr (tys : List TypeId) (t : TypeId) (l : List GV)
inductive GT where
  | no
  | bs (b : GB) (x y : GT)
  | nc (p : GP) (k : Addr → GT)
  | ob (q : GQ) (k : Value → GT)
  | lT (i : IntKind) (v : Value) (k : Int → GT)
  | shB (v : Value) (k : Bool → GT)
  | shP (v : Value) (k : Option Addr → GT)
  | shS (v : Value) (k : SV → GT)
  | shA (v : Value) (k : List Value → GT)
  | shT (v : Value) (k : List Value → GT)
  | shC (l : List Value) (k : Value → List Value → GT)
  | shN (l : List Value) (x : GT)
  | rng (i n : GE) (x : GT)
  | cut (lo hi c : GE) (x : GT)
  | aC3 (lo hi mx c : GE) (x : GT)
  | div (k k' : IntKind) (y : GE) (x : GT)
  | shf (y : GE) (x : GT)
  | call (f : Nat) (l : List GV) (k : Value → Mem → GT) (M : Mem)
  | aLr (p : FuncId × Array Value) (l : List GV) (k : Value → Mem → GT) (M : Mem)
  | st (t : TypeId) (a : GA) (v : GV) (k : Mem → GT) (M : Mem)
  | nw (l : List GV) (t : TypeId) (k : Nat → Mem → GT) (M : Mem)
  | zS (w : GL) (k : Value → Mem → GT) (M : Mem)
  | men (t : TypeId) (a b : GV) (k : Value → Int → Mem → GT) (M : Mem)
  | mes (t : TypeId) (a b c : GV) (k : Mem → GT) (M : Mem)
  | mup (t : TypeId) (a b c : GV) (k : Mem → GT) (M : Mem)
  | ex (k : Nat → GT)
  | pt (p : List Bool) (ns : List Nat) (e : List (Nat × GV)) (M : Mem)
  | rt (v : GV) (M : Mem)
  | agn (q : GQ) (v : GV) (x : GT)
  | cj (x y : GT)
def GV.E : List (Nat × GV) → List (Nat × Value)
  | [] => []
  | (i, x) :: r => (i, x.V) :: GV.E r
def aGg : List Nat → List Nat
  | [] => []
  | x :: r => x :: aGg r
section
variable (pr : Prim) (aB : fC) (R : VP)
def GQ.Q : GQ → Option Value
  | .ld t a M => pr.ld t a.A M
  | .bq o t x y a b => pr.bq o t x y a.V b.V
  | .bqm o t x y a b M => pr.bqm o t x y a.V b.V M
  | .pD t l => pr.pD t (GV.E l)
  | .idx t a b => pr.idx t a.V b.V
  | .lk t a b ok M => pr.lk t a.V b.V ok M
  | .aGC tys t l M => pr.aGC tys t (GV.L l) M
  | .rdv t a M => pr.rdv t a.V M
def GL.K (k : VP) (M : Mem) : GL → Prop
  | .bsl t n l => pr.bsl t n (GV.E l) k M
  | .mks t a b => pr.mks t a.V b.V k M
  | .mkm t (some a) => pr.mkm t (some a.V) k M
  | .mkm t none => pr.mkm t none k M
  | .app tys t l => pr.app (aGg tys).toArray t (GV.L l) k M
  | .cpy tys t l => pr.cpy (aGg tys).toArray t (GV.L l) k M
  | .del tys t l => pr.del (aGg tys).toArray t (GV.L l) k M
  | .clr tys t l => pr.clr (aGg tys).toArray t (GV.L l) k M
def GT.D : GT → Prop
  | .no => False
  | .bs b x y => HL.bs b.B x.D y.D
  | .nc p k => HL.nc p.P fun a => (k a).D
  | .ob q k => HL.ob (q.Q pr) fun v => (k v).D
  | .lT i v k => HL.lT i v fun n => (k n).D
  | .shB v k => HL.shB v fun n => (k n).D
  | .shP v k => HL.shP v fun n => (k n).D
  | .shS v k => HL.shS v fun n => (k n).D
  | .shA v k => HL.shA v fun n => (k n).D
  | .shT v k => HL.shT v fun n => (k n).D
  | .shC l k => HL.cK l fun u r => (k u r).D
  | .shN l x => HL.qA l x.D
  | .rng i n x => (0 ≤ i.I ∧ i.I < ((n.N : Nat) : Int)) ∧ x.D
  | .cut lo hi c x => (0 ≤ lo.I ∧ lo.I ≤ hi.I ∧ hi.I ≤ ((c.N : Nat) : Int)) ∧ x.D
  | .aC3 lo hi mx c x => (0 ≤ lo.I ∧ lo.I ≤ hi.I ∧ hi.I ≤ mx.I ∧ mx.I ≤ ((c.N : Nat) : Int)) ∧ x.D
  | .div k k' y x => k = k' ∧ y.I ≠ 0 ∧ x.D
  | .shf y x => 0 ≤ y.I ∧ x.D
  | .call f l k M => pr.call f (GV.L l).toArray (fun v M => (k v M).D) M
  | .aLr p l k M => pr.call p.1 (GV.L l ++ p.2.toList).toArray (fun v M => (k v M).D) M
  | .st t a v k M => pr.st t a.A v.V (fun M => (k M).D) M
  | .nw l t k M => pr.nw (GV.L l) t (fun b M => (k b M).D) M
  | .zS w k M => w.K pr (fun v M => (k v M).D) M
  | .men t a b k M => pr.men t a.V b.V (fun v n M => (k v n M).D) M
  | .mes t a b c k M => pr.mes t a.V b.V c.V (fun M => (k M).D) M
  | .mup t a b c k M => pr.mup t a.V b.V c.V (fun M => (k M).D) M
  | .ex k => ∃ n, (k n).D
  | .pt p ns e M => aB p ns (GV.WE e) M
  | .rt v M => R v.V M
  | .agn q v x => q.Q pr = some v.V ∧ x.D
  | .cj x y => x.D ∧ y.D
end
abbrev oD := List (Nat × GV)
def aCl (s : Nat) : oD → GV
  | [] => .un
  | (t, v) :: r => match Nat.beq t s with
    | true => v
    | false => aCl s r
def aEu (d : Option Nat) (v : GV) (env : oD) : oD := match d with
  | some s => (s, v) :: env
  | none => env
def frc (v : GV) (K : GV → GT) : GT := match v with
  | .int k e => K (.int k e)
  | .bool b => match b with
    | .t => K (.bool .t)
    | .f => K (.bool .f)
    | .v b => K (.bool (.v b))
    | .cmp o x y => K (.bool (.cmp o x y))
    | .no b => K (.bool (.no b))
  | .ptr p => match p with
    | .v p => K (.ptr (.v p))
    | .a a => match a with
      | .v a => K (.ptr (.a (.v a)))
      | .b n => K (.ptr (.a (.b n)))
      | .add a n => K (.ptr (.a (.add a n)))
      | .ix a i s => K (.ptr (.a (.ix a i s)))
    | .z => K (.ptr .z)
    | .sa s => K (.ptr (.sa s))
    | .cut c lo p s => K (.ptr (.cut c lo p s))
    | .aC3 c lo p s => K (.ptr (.aC3 c lo p s))
  | .sv s => K (.sv s)
  | .sl p n c => K (.sl p n c)
  | .agg l => K (.agg l)
  | .tup l => K (.tup l)
  | .fn f a b => K (.fn f a b)
  | .kf p => K (.kf p)
  | .raw v => K (.raw v)
  | .un => K .un
def aAf : List GV → (List GV → GT) → GT
  | [], K => K []
  | x :: r, K => frc x fun x => aAf r fun r => K (x :: r)
def aHh : Nat → (Nat → GT) → GT
  | 0, K => K 0
  | n + 1, K => K (n + 1)
mutual
def aIo : Value → GV
  | .int k n => .int k (match n with
    | .ofNat n => .l n
    | .negSucc n => .m (n + 1))
  | .bool true => .bool .t
  | .bool false => .bool .f
  | .pointer none => .ptr .z
  | .slice none 0 0 => .sl .z (.l 0) (.l 0)
  | .agg ⟨l⟩ => .agg (aAo l)
  | .tuple ⟨l⟩ => .tup (aAo l)
  | v => .raw v
def aAo : List Value → List GV
  | [] => []
  | x :: r => aIo x :: aAo r
end
def aLs (k : K1) (v : Value) (K : GV → GT) : GT := match k with
  | .i k => .lT k v fun n => K (.int k (.v n))
  | .b => .shB v fun b => K (.bool (.v b))
  | .p => .shP v fun p => K (.ptr (.v p))
  | .s => .shS v fun s => K (.sv s)
  | .any => K (.raw v)
def aKM : List K1 → List Value → (List GV → GT) → GT
  | [], l, K => .shN l (K [])
  | k :: ks, l, K => .shC l fun u r => aLs k u fun v => aKM ks r fun l => K (v :: l)
section
variable (P : Program)
def isAgg (t : TypeId) : Bool := match P.underlying t with
  | some (.struct _) => true
  | some (.array _ _) => true
  | _ => false
def aLa (t : TypeId) (v : Value) (K : GV → GT) : GT := match P.underlying t with
  | some (.struct _) => .shA v fun l => aKM (kinds P 8 t) l fun l => K (.agg l)
  | some (.array _ _) => .shA v fun l => aKM (kinds P 8 t) l fun l => K (.agg l)
  | x => aLs (aD7 x) v K
def aJ2 : List TypeId → List Value → (List GV → GT) → GT
  | [], l, K => .shN l (K [])
  | t :: ts, l, K => .shC l fun u r => aLa P t u fun v => aJ2 ts r fun l => K (v :: l)
def aL7 (t : TypeId) (v : Value) (K : GV → GT) : GT := match P.underlying t with
  | some (.tuple ts) => .shT v fun l => aJ2 P ts.toList l fun l => K (.tup l)
  | _ => aLa P t v K
def aBE (t : TypeId) (v : Value) (K : GV → GT) : GT := match t with
  | 0 => K (.raw v)
  | t + 1 => aL7 P (t + 1) v K
def aFL (t : TypeId) : Nat := match P.info? t with
  | some i => i.size
  | none => 0
def p7 (env : oD) : Operand → GV
  | .tmp t => aCl t env
  | .const v => aIo v
  | .global g => .raw (.pointer (some ⟨g, 0, none⟩))
  | .func f => .fn f [] []
def aA5 (env : oD) : List Operand → List GV
  | [] => []
  | x :: r => p7 env x :: aA5 env r
def aK6 (env : oD) : List (Nat × Operand) → List (Nat × GV)
  | [] => []
  | x :: r => (x.1, p7 env x.2) :: aK6 env r
def aK5 : GV → List GV
  | .agg l => l
  | v => [v]
def aJS : Nat → List GV → List GV
  | 0, _ => []
  | _, [] => []
  | n + 1, x :: r => x :: aJS n r
def aJ6 : Nat → List GV → List GV
  | 0, l => l
  | _, [] => []
  | n + 1, _ :: r => aJ6 n r
def aKK : Nat → List GV → GV
  | _, [] => .un
  | 0, x :: _ => x
  | n + 1, _ :: r => aKK n r
def aKX : List GV → List GV → List GV
  | [], l => l
  | x :: r, l => x :: aKX r l
def aFg (t : TypeId) (i : Nat) : Option Field := match P.underlying t with
  | some (.struct fs) => fs.toList[i]?
  | _ => none
def aLi : BinOp → Bool
  | .lss | .leq | .gtr | .geq | .eql | .neq => true
  | _ => false
def aL8 : BinOp → Bool
  | .add | .sub | .mul => true
  | _ => false
def aL6 : BinOp → Bool
  | .quo | .rem => true
  | _ => false
def aLO : BinOp → Bool
  | .shl | .shr => true
  | _ => false
def aLR (o : BinOp) (t : TypeId) (X Y : Operand) (ty : TypeId) (a b : GV) (M : Mem) (K : GV → GT) : GT :=
  let ask : GT := match aJ3 P o t X Y with
    | true => .ob (.bqm o t X Y a b M) fun v => aBE P ty v K
    | false => .ob (.bq o t X Y a b) fun v => aBE P ty v K
  match a with
  | .int k x => match b with
    | .int k' y => match aL8 o with
      | true => K (.int k (.bin k o x y))
      | false => match aLi o with
        | true => K (.bool (.cmp o x y))
        | false => match aL6 o with
          | true => .div k k' y (K (.int k (.bin k o x y)))
          | false => match aLO o with
            | true => .shf y (K (.int k (.bin k o x y)))
            | false => ask
    | _ => ask
  | _ => ask
def aKC (lt : Bool) : List GV → GV → GV
  | [], a => a
  | b :: r, a => match a with
    | .int k x => match b with
      | .int _ y => aKC lt r (match lt with
        | true => .int k (.mn x y)
        | false => .int k (.mx x y))
      | _ => .un
    | _ => .un
def aKf (v : GV) (K : GP → GE → GE → GT) : GT := match v with
  | .sv s => K (.sa s) (.sn s) (.sc s)
  | .sl p n c => K p n c
  | _ => .no
def aHj (v : GV) (K : GE → GT) : GT := match v with
  | .int _ e => K e
  | _ => .no
def aIz (v : GV) (K : GA → GT) : GT := match v with
  | .ptr (.a a) => K a
  | _ => .no
def aLg (env : oD) (x : Option Operand) (d : GE) (K : GE → GT) : GT := match x with
  | some x => aHj (p7 env x) K
  | none => K d
def aLF (e : TypeId) : List GV := match zeroOf P e with
  | some z => aAo z.cells.toList
  | none => []
def aBe (w : GL) (t : TypeId) (M : Mem) (K : GV → Mem → GT) : GT := .zS w (fun v M => aBE P t v fun v => K v M) M
def gop (o : Oper) (env : oD) (M : Mem) (K : GV → Mem → GT) : GT := match o.op with
  | .move x => frc (p7 env x) fun v => K v M
  | .assign x => frc (p7 env x) fun v => K v M
  | .nilCheck x => match p7 env x with
    | .ptr p => match p with
      | .a a => K (.ptr (.a a)) M
      | .v p => .nc (.v p) fun a => K (.ptr (.a (.v a))) M
      | .z => .nc .z fun a => K (.ptr (.a (.v a))) M
      | .sa s => .nc (.sa s) fun a => K (.ptr (.a (.v a))) M
      | .cut c l p s => .no
      | .aC3 c l p s => .no
    | .fn f a b => K (.fn f a b) M
    | .kf p => K (.kf p) M
    | _ => .no
  | .load t a => aIz (p7 env a) fun a => .ob (.ld t a M) fun v => aBE P o.type v fun v => K v M
  | .store t a x => aIz (p7 env a) fun a => frc (p7 env x) fun v => .st t a v (fun M => K .un M) M
  | .alloc e => aAf (aLF P e) fun l => .nw l e (fun b M => K (.ptr (.a (.b b))) M) M
  | .box e x => frc (p7 env x) fun v => aAf (aK5 v) fun l => .nw l e (fun b M => K (.ptr (.a (.b b))) M) M
  | .fieldAddr t x i => aIz (p7 env x) fun a => match aFg P t i with
    | some f => match f.offset with
      | 0 => K (.ptr (.a a)) M
      | n + 1 => aHh (n + 1) fun n => K (.ptr (.a (.add a n))) M
    | none => .no
  | .indexAddr t x i => match P.underlying t with
    | some (.slice e) => aKf (p7 env x) fun p n c => aHj (p7 env i) fun i => .nc p fun a => .rng i n (aHh (aFL P e) fun s => K (.ptr (.a (.ix (.v a) i s))) M)
    | some (.array m e) => aIz (p7 env x) fun a => aHj (p7 env i) fun i => .rng i (.l m) (aHh (aFL P e) fun s => K (.ptr (.a (.ix a i s))) M)
    | _ => .no
  | .slice t x lo hi mx => match P.underlying t with
    | some (.slice e) => aKf (p7 env x) fun p n c => aLg env lo (.l 0) fun lo => aLg env hi (.ofN n) fun hi => aHh (aFL P e) fun s => match mx with
      | none => .cut lo hi c (K (.sl (.cut c lo p s) (.aGz (.toN hi) (.toN lo)) (.aGz c (.toN lo))) M)
      | some mx => aHj (p7 env mx) fun mx => .aC3 lo hi mx c (K (.sl (.aC3 mx lo p s) (.aGz (.toN hi) (.toN lo)) (.aGz (.toN mx) (.toN lo))) M)
    | _ => .no
  | .pick c a b => match p7 env c with
    | .bool b' => match b' with
      | .t => frc (p7 env a) fun v => K v M
      | .f => frc (p7 env b) fun v => K v M
      | c => .bs c (frc (p7 env a) fun v => K v M) (frc (p7 env b) fun v => K v M)
    | _ => .no
  | .binOp op t x y _ => frc (p7 env x) fun a => frc (p7 env y) fun b => aLR P op t x y o.type a b M fun v => K v M
  | .unOp op _ x => match p7 env x with
    | .bool b => match b with
      | .t => K (.bool .f) M
      | .f => K (.bool .t) M
      | b => K (.bool (.no b)) M
    | .int k e => match op with
      | .neg => K (.int k (.bin k .sub (.l 0) e)) M
      | _ => .no
    | _ => .no
  | .convert _ d x => aHj (p7 env x) fun e => match P.underlying d with
    | some (.int k) => K (.int k (.cv k e)) M
    | _ => .no
  | .field t x i => match p7 env x with
    | .agg l => match aFg P t i with
      | some f => match isAgg P f.type with
        | true => aAf (aJS (aFL P f.type) (aJ6 f.offset l)) fun l => K (.agg l) M
        | false => frc (aKK f.offset l) fun v => K v M
      | none => .no
    | _ => .no
  | .index t x i => frc (p7 env x) fun a => frc (p7 env i) fun b => .ob (.idx t a b) fun v => aBE P o.type v fun v => K v M
  | .extract x i => match p7 env x with
    | .tup l => frc (aKK i l) fun v => K v M
    | _ => .no
  | .build t ps => .ob (.pD t (aK6 env ps.toList)) fun v => aBE P o.type v fun v => K v M
  | .makeFunc (.func f) a b => aAf (aA5 env a.toList) fun a => aAf (aA5 env b.toList) fun b => K (.fn f a b) M
  | .buildSlice t n ps => aBe P (.bsl t n (aK6 env ps.toList)) o.type M K
  | .makeMap t r => aBe P (.mkm t (match r with
    | some x => some (p7 env x)
    | none => none)) o.type M K
  | .lookup t x i ok => .ob (.lk t (p7 env x) (p7 env i) ok M) fun v => aBE P o.type v fun v => K v M
  | .mapEntry t m k => .men t (p7 env m) (p7 env k) (fun v n M => K (.tup [.raw v, .int .i64 (.v n)]) M) M
  | .entryStore t m k x => .mes t (p7 env m) (p7 env k) (p7 env x) (fun M => K .un M) M
  | .mapUpdate t m k x => .mup t (p7 env m) (p7 env k) (p7 env x) (fun M => K .un M) M
  | .insert t m k x => .mup t (p7 env m) (p7 env k) (p7 env x) (fun M => K .un M) M
  | .makeSlice t l c => aBe P (.mks t (p7 env l) (p7 env c)) o.type M K
  | .call ⟨.value f, args, _⟩ => match p7 env f with
    | .fn f a b => aAf (aKX a (aKX (aA5 env args.toList) b)) fun l => .call f l (fun v M => aBE P o.type v fun v => K v M) M
    | .kf p => aAf (aA5 env args.toList) fun l => .aLr p l (fun v M => aBE P o.type v fun v => K v M) M
    | _ => .no
  | .call ⟨.builtin .len, args, tys⟩ => match p7 env (args.toList.headD (.tmp 0)) with
    | .sv s => K (.int .i64 (.ofN (.sn s))) M
    | .sl p n c => K (.int .i64 (.ofN n)) M
    | v => match aJ4 P tys[0]? with
      | true => .ob (.aGC tys o.type [v] M) fun v => aBE P o.type v fun v => K v M
      | false => match P.underlying (tys.toList.headD 0) with
        | some (.array n _) => K (.int .i64 (.ofN (.l n))) M
        | _ => .no
  | .call ⟨.builtin .cap, args, _⟩ => aKf (p7 env (args.toList.headD (.tmp 0))) fun p n c => K (.int .i64 (.ofN c)) M
  | .call ⟨.builtin .min, args, _⟩ => match aA5 env args.toList with
    | a :: r => frc (aKC true r a) fun v => K v M
    | [] => .no
  | .call ⟨.builtin .max, args, _⟩ => match aA5 env args.toList with
    | a :: r => frc (aKC false r a) fun v => K v M
    | [] => .no
  | .call ⟨.builtin .append, args, tys⟩ => aAf (aA5 env args.toList) fun l => aBe P (.app tys.toList o.type l) o.type M K
  | .call ⟨.builtin .copy, args, tys⟩ => aAf (aA5 env args.toList) fun l => aBe P (.cpy tys.toList o.type l) o.type M K
  | .call ⟨.builtin .delete, args, tys⟩ => aAf (aA5 env args.toList) fun l => aBe P (.del tys.toList o.type l) o.type M K
  | .call ⟨.builtin .clear, args, tys⟩ => aAf (aA5 env args.toList) fun l => aBe P (.clr tys.toList o.type l) o.type M K
  | _ => .no
def aKk (ops : List Oper) (i : Nat) (dst : Option Nat) (env : oD) (v : GV) (K : oD → GT) : GT := match guards ops i with
  | true => match v with
    | .bool b => match b with
      | .t => K (aEu dst (.bool .t) env)
      | .f => K (aEu dst (.bool .f) env)
      | b => .bs b (K (aEu dst (.bool .t) env)) (K (aEu dst (.bool .f) env))
    | _ => .no
  | false => K (aEu dst v env)
def ggd (ops : List Oper) (i : Nat) (o : Oper) (env : oD) (M : Mem) (K : oD → Mem → GT) : GT :=
  match o.guard with
  | none => gop P o env M fun v M => aKk ops i o.dst env v fun env => K env M
  | some (j, want) => match oS ops j with
    | none => .no
    | some t => match aCl t env with
      | .bool b => match b, want with
        | .t, true => gop P o env M fun v M => aKk ops i o.dst env v fun env => K env M
        | .f, false => gop P o env M fun v M => aKk ops i o.dst env v fun env => K env M
        | _, _ => K (aEu o.dst .un env) M
      | _ => K (aEu o.dst .un env) M
def aLl (ops : List Oper) : Nat → List Oper → oD → Mem → (oD → Mem → GT) → GT
  | _, [], env, M, K => K env M
  | i, o :: r, env, M, K => ggd P ops i o env M fun env M => aLl ops (i + 1) r env M K
def aG0 (ops : List Oper) : List Nat → oD → Mem → (oD → GT) → GT
  | [], env, _, K => K env
  | i :: r, env, M, K => match ops[i]? with
    | some o => ggd P ops i o env M fun env _ => aG0 ops r env M K
    | none => .no
def aG9 (o : Oper) (env : oD) (M : Mem) (K : GT) : GT := match o.dst with
  | some d => match o.op with
    | .load t a => aIz (p7 env a) fun a => .agn (.ld t a M) (aCl d env) K
    | .lookup t x i ok => .agn (.lk t (p7 env x) (p7 env i) ok M) (aCl d env) K
    | _ => .no
  | none => .no
def aB4 (ops : List Oper) : List Nat → oD → Mem → GT → GT
  | [], _, _, K => K
  | i :: r, env, M, K => match ops[i]? with
    | some o => match o.guard with
      | none => aG9 o env M (aB4 ops r env M K)
      | some (j, want) => match oS ops j with
        | some t => match aCl t env with
          | .bool b => match b, want with
            | .t, true => aG9 o env M (aB4 ops r env M K)
            | .f, false => aG9 o env M (aB4 ops r env M K)
            | _, _ => aB4 ops r env M K
          | _ => aB4 ops r env M K
        | none => .no
    | none => .no
def aKa (f : Nat → GT) : List Nat → GT
  | [] => .no
  | [x] => f x
  | x :: y :: r => .cj (f x) (aKa f (y :: r))
def aH1 (ops : List Oper) : Nat → List Nat → List Nat → Nat → oD → Mem → (oD → Mem → GT) → GT
  | 0, _, _, _, _, _, _ => .no
  | fuel + 1, news, olds, done, env, M, K =>
    aG0 P ops news env M fun env => aB4 ops olds env M (match sub (xD ops) done with
      | true => K env M
      | false => aKa (fun l => match ops[l]? with
        | some o => ggd P ops l o env M fun env M =>
            aHh (done ||| 2 ^ l) fun d => aH1 ops fuel (zX ops d done) (aDI P ops d done) d env M K
        | none => .no) (aCy ops done))
def aLy (ops : List Oper) (env : oD) (M : Mem) (K : oD → Mem → GT) : GT := aH1 P ops (ops.length + 1) (aLq ops 0) [] 0 env M K
abbrev xC := Exit → oD → Mem → GT
def aBP (K : oD → Mem → GT) (Q : xC) : xC := fun e env M => match e with
  | .normal => K env M
  | e => Q e env M
def aLG (id : Nat) (Q : xC) : xC := fun e env M => match e with
  | .exit id' => match Nat.beq id' id with
    | true => Q .normal env M
    | false => Q (.exit id') env M
  | e => Q e env M
def zF : List Nat → oD → oD
  | [], _ => []
  | s :: r, env => (s, aCl s env) :: zF r env
def gX : HC → List Bool → List Nat → xC → oD → Mem → GT
  | .region _ ops dr, _, _, Q, env, M => match dr with
    | false => aLl P ops.toList 0 ops.toList env M fun e m => Q .normal e m
    | true => aLy P ops.toList env M fun e m => Q .normal e m
  | .seq x y, p, ns, Q, env, M => gX x (false :: p) ns (aBP (gX y (true :: p) ns Q) Q) env M
  | .join live x y, p, ns, Q, env, M => gX x (false :: p) ns (aBP (fun env M => .pt (true :: p) ns (zF live env) M) Q) env M
  | .cond c x y, p, ns, Q, env, M => match p7 env c with
    | .bool b => match b with
      | .t => gX x (false :: p) ns Q env M
      | .f => gX y (true :: p) ns Q env M
      | b => .bs b (gX x (false :: p) ns Q env M) (gX y (true :: p) ns Q env M)
    | _ => .no
  | .block id x, p, ns, Q, env, M => gX x (false :: p) ns (aLG id Q) env M
  | .loop live x, p, ns, Q, env, M => .ex fun k => .pt (false :: p) (k :: ns) (zF live env) M
  | .exit id, _, _, Q, env, M => Q (.exit id) env M
  | .ret, _, _, Q, env, M => Q .ret env M
  | .skip, _, _, Q, env, M => Q .normal env M
  | .bad _, _, _, _, _, _ => .no
def yF : HC → List Bool → List Bool → List Nat → List Nat → xC → HC × xC × List Nat
  | .seq x y, false :: q, p, ms, ns, Q => yF x q (false :: p) ms ns (aBP (gX P y (true :: p) ns Q) Q)
  | .seq x y, true :: q, p, ms, ns, Q => yF y q (true :: p) ms ns Q
  | .join live x y, false :: q, p, ms, ns, Q => yF x q (false :: p) ms ns (aBP (fun env M => .pt (true :: p) ns (zF live env) M) Q)
  | .join live x y, true :: q, p, ms, ns, Q => yF y q (true :: p) ms ns Q
  | .cond c x y, false :: q, p, ms, ns, Q => yF x q (false :: p) ms ns Q
  | .cond c x y, true :: q, p, ms, ns, Q => yF y q (true :: p) ms ns Q
  | .block id x, false :: q, p, ms, ns, Q => yF x q (false :: p) ms ns (aLG id Q)
  | .loop live x, false :: q, p, m :: ms, ns, Q => yF x q (false :: p) ms (m :: ns) (aBP (fun env M => .pt (false :: p) (m :: ns) (zF live env) M) Q)
  | h, _, _, ms, _, Q => (h, Q, ms)
def bO (h : HC) (Q : xC) : List Bool → List Nat → oD → Mem → GT
  | [], _, _, _ => .no
  | _ :: p, ns, e, M => match yF P h p.reverse [] (match ns with
      | [] => []
      | _ => ns.reverse) [] Q with
    | (.join _ _ y, Q', _) => gX P y (true :: p) ns Q' e M
    | (.loop live x, Q', _) => gX P x (false :: p) ns (aBP (fun env M => .pt (false :: p) ns (zF live env) M) Q') e M
    | _ => .no
def aIX : List ResultVar → oD → Mem → (List GV → GT) → GT
  | [], _, _, K => K []
  | .tmp t :: r, env, M, K => aIX r env M fun l => K (aCl t env :: l)
  | .cell c t :: r, env, M, K => .ob (.rdv t (aCl c env) M) fun u => aIX r env M fun l => K (.raw u :: l)
def gone : List GV → GV
  | [v] => v
  | l => .tup l
def aMf (rs : List ResultVar) : xC := fun e env M => match e with
  | .normal => aIX rs env M fun l => .rt (gone l) M
  | .ret => aIX rs env M fun l => .rt (gone l) M
  | _ => .no
end
end HL
namespace HL
@[reducible] def aL (pr : Prim) (aB : fC) (R : VP) (X : GT) {Y : GT} (h : X = Y := by conv => lhs; reduce) {T : Prop}
    (h2 : Y.D pr aB R = T := by conv => lhs; dsimp only [GT.D, GQ.Q, GL.K, GV.V, GV.L, GV.E, GV.W, GV.WL, GV.WE, GE.I, GE.N, GB.B, GA.A, GP.P, arW, aLx, aAJ, aGg, aJQ, List.cons_append, List.nil_append]; try dsimp only [ltW, leW, gtW, geW, mnW, mxW, ieW]) : Prop := T
def bd (fn : Func) : Code := fn.body.getD .skip
section
variable {P : Program} {w0 : World}
def pF (P : Program) (pr : Prim) (aB : fC) (h : HC) (fn : Func) (R : VP) : Prop := ∀ b p ns e M, reach h p.reverse ns.reverse = true →
  aB (b :: p) ns e M = zY P pr aB h (aBA pr fn.results.toList R) (b :: p) ns e M
def okG (P : Program) (f : FuncId) (fn : Func) (h : HC) (n : Nat) : Bool := fn.body.isSome && (oI P f && (okH fn.ntmps h && Nat.ble n fn.ntmps))
theorem dB (hm : P.follows .mixedOrders = true) {f : FuncId} {fn : Func} {h : HC} {args : List Value} {R : VP} {M : Mem} {T : Prim → fC → Prop} (hf : P.funcs[f]? = some fn) (hc : h.code = bd fn)
    (hk : okG P f fn h args.length = true) (he : ∀ pr aB, wpX P pr aB h [] [] (aBA pr fn.results.toList R) (xP 0 args) M = T pr aB)
    (ht : ∀ aB, pF P (aJ P w0) aB h fn R → T (aJ P w0) aB) : C P w0 f args.toArray R M := by
  unfold okG at hk
  simp only [Bool.and_eq_true] at hk
  obtain ⟨h1, h2, h3, h4⟩ := hk
  have hb : fn.body = some (bd fn) := by
    unfold bd
    cases hb : fn.body with
    | none => rw [hb] at h1; cases h1
    | some c => rfl
  refine aFC hm hf hb h2 hc h3 (Nat.le_of_ble_eq_true h4) ?_
  rw [aEV]
  rw [he]
  exact ht _ fun b p ns e M hr => aAl hr e M
def gR (fn : Func) : xC := aMf fn.results.toList
end
end HL
namespace HL
noncomputable abbrev PP:Program:=Tryz.prog
theorem mixed:PP.follows .mixedOrders = true:=by kernel_rfl
namespace Id
abbrev aD:FuncId:=6
abbrev cQ:FuncId:=9
abbrev jK:FuncId:=10
abbrev iL:FuncId:=14
abbrev mJ:FuncId:=16
abbrev eZ:FuncId:=19
abbrev eW:FuncId:=21
abbrev fP:FuncId:=22
abbrev vX:FuncId:=23
abbrev fD:FuncId:=25
abbrev kC:FuncId:=27
abbrev pC:FuncId:=28
abbrev cD:FuncId:=29
abbrev oQ:FuncId:=30
abbrev bG:FuncId:=31
abbrev kJ:FuncId:=35
abbrev kG:FuncId:=36
abbrev rN:FuncId:=37
abbrev jV:FuncId:=40
abbrev mE:FuncId:=41
abbrev oA:FuncId:=42
abbrev j9:FuncId:=43
abbrev mI:FuncId:=44
abbrev gY:FuncId:=45
abbrev kS:FuncId:=46
abbrev nU:FuncId:=47
abbrev pA:FuncId:=48
abbrev jC:FuncId:=50
abbrev fX:FuncId:=51
abbrev lE:FuncId:=54
abbrev j3:FuncId:=55
abbrev m9:FuncId:=57
abbrev jG:FuncId:=58
abbrev iT:FuncId:=60
abbrev mF:FuncId:=62
abbrev qD:FuncId:=63
abbrev fJ:FuncId:=64
abbrev cB:FuncId:=65
abbrev bQ:FuncId:=66
abbrev gJ:FuncId:=67
abbrev jF:FuncId:=68
abbrev oN:FuncId:=69
abbrev iW:FuncId:=70
abbrev rJ:FuncId:=71
abbrev gL:FuncId:=72
abbrev mM:FuncId:=73
abbrev kT:FuncId:=74
abbrev pP:FuncId:=76
abbrev kM:FuncId:=79
abbrev cU:FuncId:=80
abbrev cH:FuncId:=81
abbrev pV:FuncId:=83
abbrev cS:FuncId:=84
abbrev lY:FuncId:=85
abbrev kF:FuncId:=86
abbrev qW:FuncId:=87
abbrev oC:FuncId:=88
abbrev vE:FuncId:=89
abbrev mH:FuncId:=90
abbrev mB:FuncId:=91
abbrev oF:FuncId:=92
abbrev o0:FuncId:=93
abbrev vW:FuncId:=94
abbrev iR:FuncId:=95
abbrev kI:FuncId:=96
abbrev lV:FuncId:=97
abbrev fY:FuncId:=98
abbrev kH:FuncId:=99
abbrev jR:FuncId:=100
abbrev fR:FuncId:=102
abbrev oM:FuncId:=105
abbrev bZ:FuncId:=114
abbrev kV:FuncId:=115
abbrev gT:FuncId:=116
abbrev kR:FuncId:=117
abbrev kY:FuncId:=118
abbrev eU:FuncId:=119
abbrev eH:FuncId:=120
abbrev gM:FuncId:=121
abbrev mL:FuncId:=122
abbrev eP:FuncId:=123
abbrev dC:FuncId:=124
abbrev dO:FuncId:=125
abbrev j6:FuncId:=126
abbrev dQ:FuncId:=127
abbrev dF:FuncId:=128
abbrev jS:FuncId:=129
abbrev fH:FuncId:=132
abbrev iC:FuncId:=133
abbrev gH:FuncId:=134
abbrev pH:FuncId:=135
abbrev pB:FuncId:=136
abbrev oK:FuncId:=137
abbrev kZ:FuncId:=138
abbrev gI:FuncId:=141
abbrev cT:FuncId:=142
abbrev kD:FuncId:=143
abbrev qR:FuncId:=144
abbrev qX:FuncId:=145
abbrev mP:FuncId:=146
abbrev iD:FuncId:=149
abbrev jO:FuncId:=150
abbrev eY:FuncId:=151
abbrev oZ:FuncId:=154
abbrev nZ:FuncId:=155
abbrev jP:FuncId:=156
abbrev qQ:FuncId:=157
abbrev gO:FuncId:=158
abbrev nT:FuncId:=159
abbrev kN:FuncId:=160
abbrev jM:FuncId:=163
abbrev qT:FuncId:=164
abbrev mG:FuncId:=165
abbrev kK:FuncId:=168
abbrev iP:FuncId:=169
abbrev oE:FuncId:=170
abbrev oU:FuncId:=171
abbrev kB:FuncId:=172
abbrev c9:FuncId:=175
abbrev dG:FuncId:=181
abbrev iY:FuncId:=183
abbrev qY:FuncId:=184
abbrev fI:FuncId:=185
abbrev iQ:FuncId:=186
abbrev lO:FuncId:=187
abbrev eE:FuncId:=188
abbrev v9:FuncId:=189
abbrev fZ:FuncId:=190
abbrev cZ:FuncId:=191
abbrev cI:FuncId:=193
abbrev dD:FuncId:=194
abbrev oG:FuncId:=195
abbrev bS:FuncId:=196
abbrev rD:FuncId:=197
abbrev mK:FuncId:=198
abbrev bD:FuncId:=199
abbrev nC:FuncId:=200
abbrev iS:FuncId:=201
abbrev tF:FuncId:=202
abbrev n6:FuncId:=207
abbrev bY:FuncId:=208
abbrev nH:FuncId:=209
abbrev n9:FuncId:=210
abbrev lC:FuncId:=211
abbrev jE:FuncId:=212
abbrev vA:FuncId:=213
abbrev jB:FuncId:=216
abbrev c8:FuncId:=217
abbrev kP:FuncId:=218
abbrev bN:FuncId:=219
abbrev sS:FuncId:=220
abbrev gW:FuncId:=221
abbrev cG:FuncId:=224
abbrev mA:FuncId:=231
abbrev gF:FuncId:=232
abbrev cV:FuncId:=233
abbrev j8:FuncId:=234
abbrev lQ:FuncId:=235
abbrev eD:FuncId:=238
abbrev l0:FuncId:=239
abbrev mN:FuncId:=240
abbrev jD:FuncId:=241
abbrev aAM:FuncId:=242
abbrev nE:FuncId:=243
abbrev cJ:FuncId:=244
abbrev dR:FuncId:=245
abbrev dH:FuncId:=246
abbrev cL:FuncId:=247
abbrev kW:FuncId:=248
abbrev gU:FuncId:=249
abbrev qE:FuncId:=251
abbrev fT:FuncId:=252
abbrev jA:FuncId:=253
abbrev uV:FuncId:=254
abbrev hU:FuncId:=260
abbrev rU:FuncId:=263
abbrev aE:FuncId:=271
abbrev gK:FuncId:=272
abbrev nS:FuncId:=274
abbrev nJ:FuncId:=275
abbrev vL:FuncId:=276
abbrev qM:FuncId:=278
abbrev iX:FuncId:=283
abbrev jZ:FuncId:=287
end Id
end HL
end Go.Proofs.YtodobkbnmjgkdaaGreat

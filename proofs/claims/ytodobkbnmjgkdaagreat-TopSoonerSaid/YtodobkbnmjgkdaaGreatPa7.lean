import Derived.Test.YtodobkbnmjgkdaaGreatPa6
set_option linter.unusedVariables false
namespace Go.Proofs.YtodobkbnmjgkdaaGreat.HL
inductive GE where
  | v (n : Int) | vn (n : Nat) | l (n : Nat) | m (n : Nat)
  | bin (k : IntKind) (o : BinOp) (a b : GE) | cv (k : IntKind) (a : GE) | mn (a b : GE) | mx (a b : GE)
  | ofN (a : GE) | toN (a : GE) | subN (a b : GE) | sn (s : SV) | sc (s : SV)
inductive GB where
  | v (b : Bool) | t | f | cmp (o : BinOp) (a b : GE) | no (b : GB)
inductive GA where
  | v (a : Addr) | b (n : Nat) | add (a : GA) (n : Nat) | ix (a : GA) (i : GE) (s : Nat)
inductive GP where
  | v (p : Option Addr) | sa (s : SV) | a (a : GA) | z | cut (c lo : GE) (p : GP) (s : Nat) | cut3 (mx lo : GE) (p : GP) (s : Nat)
inductive GV where
  | int (k : IntKind) (e : GE) | bool (b : GB) | ptr (p : GP) | sv (s : SV) | sl (p : GP) (n c : GE)
  | agg (l : List GV) | tup (l : List GV) | fn (f : Nat) (a b : List GV) | kf (p : FuncId × Array Value) | raw (v : Value) | un
def wrapW (k : IntKind) (n : Int) : Int := match k with
  | .i64 => w64 n
  | .u64 => u64 n
  | k => IntKind.wrap k n
def arW (k : IntKind) (o : BinOp) (a b : Int) : Int := match o with
  | .add => wrapW k (a + b)
  | .sub => wrapW k (a - b)
  | .mul => wrapW k (a * b)
  | .quo => wrapW k (Int.tdiv a b)
  | .rem => Int.tmod a b
  | .shl => wrapW k (a * 2 ^ (min b.toNat (IntKind.bits k)))
  | .shr => Int.fdiv a (2 ^ (min b.toNat (IntKind.bits k)))
  | _ => 0
def ltW (a b : Int) : Bool := decide (a < b)
def leW (a b : Int) : Bool := decide (a ≤ b)
def gtW (a b : Int) : Bool := decide (a > b)
def geW (a b : Int) : Bool := decide (a ≥ b)
def mnW (a b : Int) : Int := if b < a then b else a
def mxW (a b : Int) : Int := if b > a then b else a
def ieW (a b : Nat) (p q : Option Addr) : Option Addr := if a = b then p else q
def cmpW (o : BinOp) (a b : Int) : Bool := match o with
  | .lss => ltW a b
  | .leq => leW a b
  | .gtr => gtW a b
  | .geq => geW a b
  | .eql => a == b
  | .neq => a != b
  | _ => false
def litI (n : Nat) : Int := n
theorem litI_eq (n : Nat) : litI (no_index (@OfNat.ofNat Nat n _)) = (@OfNat.ofNat Int n _) := rfl
mutual
def GE.I : GE → Int
  | .v n => n
  | .vn n => ((n : Nat) : Int)
  | .l n => litI n
  | .m n => -litI n
  | .bin k o a b => arW k o a.I b.I
  | .cv k a => wrapW k a.I
  | .mn a b => mnW a.I b.I
  | .mx a b => mxW a.I b.I
  | .ofN a => ((a.N : Nat) : Int)
  | .toN a => ((a.I.toNat : Nat) : Int)
  | .subN a b => ((a.N - b.N : Nat) : Int)
  | .sn s => ((s.n : Nat) : Int)
  | .sc s => ((s.c : Nat) : Int)
def GE.N : GE → Nat
  | .v n => n.toNat
  | .vn n => n
  | .l n => n
  | .toN a => a.I.toNat
  | .subN a b => a.N - b.N
  | .sn s => s.n
  | .sc s => s.c
  | _ => 0
end
def GB.B : GB → Bool
  | .v b => b
  | .t => true
  | .f => false
  | .cmp o a b => cmpW o a.I b.I
  | .no b => !b.B
def GA.A : GA → Addr
  | .v a => a
  | .b n => ⟨n, 0, none⟩
  | .add a n => Addr.add a.A n
  | .ix a i s => a.A.add (i.I.toNat * s)
def GP.P : GP → Option Addr
  | .v p => p
  | .sa s => s.a
  | .a x => some x.A
  | .z => none
  | .cut c lo p s => ieW c.N lo.I.toNat p.P (p.P.map (·.add (lo.I.toNat * s)))
  | .cut3 mx lo p s => ieW mx.I.toNat lo.I.toNat p.P (p.P.map (·.add (lo.I.toNat * s)))
mutual
def GV.V : GV → Value
  | .int k e => .int k e.I
  | .bool b => .bool b.B
  | .ptr p => .pointer p.P
  | .sv s => SV.v s
  | .sl p n c => .slice p.P n.N c.N
  | .agg l => .agg (GV.L l).toArray
  | .tup l => .tuple (GV.L l).toArray
  | .fn f a b => .func (.func f) (GV.L a).toArray (GV.L b).toArray
  | .kf p => .func (.func p.1) #[] p.2
  | .raw v => v
  | .un => undef
def GV.L : List GV → List Value
  | [] => []
  | x :: r => x.V :: GV.L r
end
def kfV (p : FuncId × Array Value) : Value := .func (.func p.1) #[] p.2
mutual
def GV.W : GV → Value
  | .sl p n c => SV.v ⟨p.P, n.N, c.N⟩
  | .agg l => .agg (GV.WL l).toArray
  | .kf p => kfV p
  | .fn f [] b => kfV (f, (GV.L b).toArray)
  | v => v.V
def GV.WL : List GV → List Value
  | [] => []
  | x :: r => x.W :: GV.WL r
end
def GV.WE : List (Nat × GV) → List (Nat × Value)
  | [] => []
  | (i, x) :: r => (i, x.W) :: GV.WE r
inductive GQ where
  | ld (t : TypeId) (a : GA) (M : Mem)
  | bq (o : BinOp) (t : TypeId) (x y : Operand) (a b : GV)
  | bqm (o : BinOp) (t : TypeId) (x y : Operand) (a b : GV) (M : Mem)
  | bld (t : TypeId) (l : List (Nat × GV))
  | idx (t : TypeId) (a b : GV)
  | lk (t : TypeId) (a b : GV) (ok : Bool) (M : Mem)
  | mlen (tys : Array TypeId) (t : TypeId) (l : List GV) (M : Mem)
  | rdv (t : TypeId) (a : GV) (M : Mem)
inductive GL where
  | bsl (t : TypeId) (n : Nat) (l : List (Nat × GV))
  | mks (t : TypeId) (a b : GV)
  | mkm (t : TypeId) (a : Option GV)
  | app (tys : List TypeId) (t : TypeId) (l : List GV)
  | cpy (tys : List TypeId) (t : TypeId) (l : List GV)
  | del (tys : List TypeId) (t : TypeId) (l : List GV)
  | clr (tys : List TypeId) (t : TypeId) (l : List GV)
inductive GT where
  | no
  | bs (b : GB) (x y : GT)
  | nc (p : GP) (k : Addr → GT)
  | ob (q : GQ) (k : Value → GT)
  | shI (i : IntKind) (v : Value) (k : Int → GT)
  | shB (v : Value) (k : Bool → GT)
  | shP (v : Value) (k : Option Addr → GT)
  | shS (v : Value) (k : SV → GT)
  | shA (v : Value) (k : List Value → GT)
  | shT (v : Value) (k : List Value → GT)
  | shC (l : List Value) (k : Value → List Value → GT)
  | shN (l : List Value) (x : GT)
  | rng (i n : GE) (x : GT)
  | cut (lo hi c : GE) (x : GT)
  | cut3 (lo hi mx c : GE) (x : GT)
  | div (k k' : IntKind) (y : GE) (x : GT)
  | shf (y : GE) (x : GT)
  | call (f : Nat) (l : List GV) (k : Value → Mem → GT) (M : Mem)
  | calk (p : FuncId × Array Value) (l : List GV) (k : Value → Mem → GT) (M : Mem)
  | st (t : TypeId) (a : GA) (v : GV) (k : Mem → GT) (M : Mem)
  | nw (l : List GV) (t : TypeId) (k : Nat → Mem → GT) (M : Mem)
  | loud (w : GL) (k : Value → Mem → GT) (M : Mem)
  | men (t : TypeId) (a b : GV) (k : Value → Int → Mem → GT) (M : Mem)
  | mes (t : TypeId) (a b c : GV) (k : Mem → GT) (M : Mem)
  | mup (t : TypeId) (a b c : GV) (k : Mem → GT) (M : Mem)
  | ex (k : Nat → GT)
  | pt (p : List Bool) (ns : List Nat) (e : List (Nat × GV)) (M : Mem)
  | rt (v : GV) (M : Mem)
  | agn (q : GQ) (v : GV) (x : GT)
  | cj (x y : GT)
def GV.E : List (Nat × GV) → List (Nat × Value)
  | [] => []
  | (i, x) :: r => (i, x.V) :: GV.E r
def natL : List Nat → List Nat
  | [] => []
  | x :: r => x :: natL r
section
variable (pr : Prim) (pts : Pts) (R : VP)
def GQ.Q : GQ → Option Value
  | .ld t a M => pr.ld t a.A M
  | .bq o t x y a b => pr.bq o t x y a.V b.V
  | .bqm o t x y a b M => pr.bqm o t x y a.V b.V M
  | .bld t l => pr.bld t (GV.E l)
  | .idx t a b => pr.idx t a.V b.V
  | .lk t a b ok M => pr.lk t a.V b.V ok M
  | .mlen tys t l M => pr.mlen tys t (GV.L l) M
  | .rdv t a M => pr.rdv t a.V M
def GL.K (k : VP) (M : Mem) : GL → Prop
  | .bsl t n l => pr.bsl t n (GV.E l) k M
  | .mks t a b => pr.mks t a.V b.V k M
  | .mkm t (some a) => pr.mkm t (some a.V) k M
  | .mkm t none => pr.mkm t none k M
  | .app tys t l => pr.app (natL tys).toArray t (GV.L l) k M
  | .cpy tys t l => pr.cpy (natL tys).toArray t (GV.L l) k M
  | .del tys t l => pr.del (natL tys).toArray t (GV.L l) k M
  | .clr tys t l => pr.clr (natL tys).toArray t (GV.L l) k M
def GT.D : GT → Prop
  | .no => False
  | .bs b x y => HL.bs b.B x.D y.D
  | .nc p k => HL.nc p.P fun a => (k a).D
  | .ob q k => HL.ob (q.Q pr) fun v => (k v).D
  | .shI i v k => HL.shI i v fun n => (k n).D
  | .shB v k => HL.shB v fun n => (k n).D
  | .shP v k => HL.shP v fun n => (k n).D
  | .shS v k => HL.shS v fun n => (k n).D
  | .shA v k => HL.shA v fun n => (k n).D
  | .shT v k => HL.shT v fun n => (k n).D
  | .shC l k => HL.shCons l fun u r => (k u r).D
  | .shN l x => HL.shNil l x.D
  | .rng i n x => (0 ≤ i.I ∧ i.I < ((n.N : Nat) : Int)) ∧ x.D
  | .cut lo hi c x => (0 ≤ lo.I ∧ lo.I ≤ hi.I ∧ hi.I ≤ ((c.N : Nat) : Int)) ∧ x.D
  | .cut3 lo hi mx c x => (0 ≤ lo.I ∧ lo.I ≤ hi.I ∧ hi.I ≤ mx.I ∧ mx.I ≤ ((c.N : Nat) : Int)) ∧ x.D
  | .div k k' y x => k = k' ∧ y.I ≠ 0 ∧ x.D
  | .shf y x => 0 ≤ y.I ∧ x.D
  | .call f l k M => pr.call f (GV.L l).toArray (fun v M => (k v M).D) M
  | .calk p l k M => pr.call p.1 (GV.L l ++ p.2.toList).toArray (fun v M => (k v M).D) M
  | .st t a v k M => pr.st t a.A v.V (fun M => (k M).D) M
  | .nw l t k M => pr.nw (GV.L l) t (fun b M => (k b M).D) M
  | .loud w k M => w.K pr (fun v M => (k v M).D) M
  | .men t a b k M => pr.men t a.V b.V (fun v n M => (k v n M).D) M
  | .mes t a b c k M => pr.mes t a.V b.V c.V (fun M => (k M).D) M
  | .mup t a b c k M => pr.mup t a.V b.V c.V (fun M => (k M).D) M
  | .ex k => ∃ n, (k n).D
  | .pt p ns e M => pts p ns (GV.WE e) M
  | .rt v M => R v.V M
  | .agn q v x => q.Q pr = some v.V ∧ x.D
  | .cj x y => x.D ∧ y.D
end
abbrev GEnv := List (Nat × GV)
def gget (s : Nat) : GEnv → GV
  | [] => .un
  | (t, v) :: r => match Nat.beq t s with
    | true => v
    | false => gget s r
def gput (d : Option Nat) (v : GV) (env : GEnv) : GEnv := match d with
  | some s => (s, v) :: env
  | none => env
def frc (v : GV) (K : GV → GT) : GT := match v with
  | .int k e => K (.int k e)
  | .bool b => match b with
    | .t => K (.bool .t)
    | .f => K (.bool .f)
    | .v b => K (.bool (.v b))
    | .cmp o x y => K (.bool (.cmp o x y))
    | .no b => K (.bool (.no b))
  | .ptr p => match p with
    | .v p => K (.ptr (.v p))
    | .a a => match a with
      | .v a => K (.ptr (.a (.v a)))
      | .b n => K (.ptr (.a (.b n)))
      | .add a n => K (.ptr (.a (.add a n)))
      | .ix a i s => K (.ptr (.a (.ix a i s)))
    | .z => K (.ptr .z)
    | .sa s => K (.ptr (.sa s))
    | .cut c lo p s => K (.ptr (.cut c lo p s))
    | .cut3 c lo p s => K (.ptr (.cut3 c lo p s))
  | .sv s => K (.sv s)
  | .sl p n c => K (.sl p n c)
  | .agg l => K (.agg l)
  | .tup l => K (.tup l)
  | .fn f a b => K (.fn f a b)
  | .kf p => K (.kf p)
  | .raw v => K (.raw v)
  | .un => K .un
def frcL : List GV → (List GV → GT) → GT
  | [], K => K []
  | x :: r, K => frc x fun x => frcL r fun r => K (x :: r)
def frcN : Nat → (Nat → GT) → GT
  | 0, K => K 0
  | n + 1, K => K (n + 1)
mutual
def gconst : Value → GV
  | .int k n => .int k (match n with
    | .ofNat n => .l n
    | .negSucc n => .m (n + 1))
  | .bool true => .bool .t
  | .bool false => .bool .f
  | .pointer none => .ptr .z
  | .slice none 0 0 => .sl .z (.l 0) (.l 0)
  | .agg ⟨l⟩ => .agg (gconstL l)
  | .tuple ⟨l⟩ => .tup (gconstL l)
  | v => .raw v
def gconstL : List Value → List GV
  | [] => []
  | x :: r => gconst x :: gconstL r
end
def gsh1 (k : K1) (v : Value) (K : GV → GT) : GT := match k with
  | .i k => .shI k v fun n => K (.int k (.v n))
  | .b => .shB v fun b => K (.bool (.v b))
  | .p => .shP v fun p => K (.ptr (.v p))
  | .s => .shS v fun s => K (.sv s)
  | .any => K (.raw v)
def gshL : List K1 → List Value → (List GV → GT) → GT
  | [], l, K => .shN l (K [])
  | k :: ks, l, K => .shC l fun u r => gsh1 k u fun v => gshL ks r fun l => K (v :: l)
section
variable (P : Program)
def isAgg (t : TypeId) : Bool := match P.underlying t with
  | some (.struct _) => true
  | some (.array _ _) => true
  | _ => false
def gshC (t : TypeId) (v : Value) (K : GV → GT) : GT := match P.underlying t with
  | some (.struct _) => .shA v fun l => gshL (kinds P 8 t) l fun l => K (.agg l)
  | some (.array _ _) => .shA v fun l => gshL (kinds P 8 t) l fun l => K (.agg l)
  | x => gsh1 (kindOf x) v K
def gshCL : List TypeId → List Value → (List GV → GT) → GT
  | [], l, K => .shN l (K [])
  | t :: ts, l, K => .shC l fun u r => gshC P t u fun v => gshCL ts r fun l => K (v :: l)
def gshV (t : TypeId) (v : Value) (K : GV → GT) : GT := match P.underlying t with
  | some (.tuple ts) => .shT v fun l => gshCL P ts.toList l fun l => K (.tup l)
  | _ => gshC P t v K
def gshO (t : TypeId) (v : Value) (K : GV → GT) : GT := match t with
  | 0 => K (.raw v)
  | t + 1 => gshV P (t + 1) v K
def gsize (t : TypeId) : Nat := match P.info? t with
  | some i => i.size
  | none => 0
def gev (env : GEnv) : Operand → GV
  | .tmp t => gget t env
  | .const v => gconst v
  | .global g => .raw (.pointer (some ⟨g, 0, none⟩))
  | .func f => .fn f [] []
def gevL (env : GEnv) : List Operand → List GV
  | [] => []
  | x :: r => gev env x :: gevL env r
def gevP (env : GEnv) : List (Nat × Operand) → List (Nat × GV)
  | [] => []
  | x :: r => (x.1, gev env x.2) :: gevP env r
def gcells : GV → List GV
  | .agg l => l
  | v => [v]
def takeG : Nat → List GV → List GV
  | 0, _ => []
  | _, [] => []
  | n + 1, x :: r => x :: takeG n r
def dropG : Nat → List GV → List GV
  | 0, l => l
  | _, [] => []
  | n + 1, _ :: r => dropG n r
def nthG : Nat → List GV → GV
  | _, [] => .un
  | 0, x :: _ => x
  | n + 1, _ :: r => nthG n r
def appG : List GV → List GV → List GV
  | [], l => l
  | x :: r, l => x :: appG r l
def fieldOf (t : TypeId) (i : Nat) : Option Field := match P.underlying t with
  | some (.struct fs) => fs.toList[i]?
  | _ => none
def isCmp : BinOp → Bool
  | .lss | .leq | .gtr | .geq | .eql | .neq => true
  | _ => false
def isAr : BinOp → Bool
  | .add | .sub | .mul => true
  | _ => false
def isDv : BinOp → Bool
  | .quo | .rem => true
  | _ => false
def isSh : BinOp → Bool
  | .shl | .shr => true
  | _ => false
def gbin (o : BinOp) (t : TypeId) (X Y : Operand) (ty : TypeId) (a b : GV) (M : Mem) (K : GV → GT) : GT :=
  let ask : GT := match eqMem P o t X Y with
    | true => .ob (.bqm o t X Y a b M) fun v => gshO P ty v K
    | false => .ob (.bq o t X Y a b) fun v => gshO P ty v K
  match a with
  | .int k x => match b with
    | .int k' y => match isAr o with
      | true => K (.int k (.bin k o x y))
      | false => match isCmp o with
        | true => K (.bool (.cmp o x y))
        | false => match isDv o with
          | true => .div k k' y (K (.int k (.bin k o x y)))
          | false => match isSh o with
            | true => .shf y (K (.int k (.bin k o x y)))
            | false => ask
    | _ => ask
  | _ => ask
def gmin (lt : Bool) : List GV → GV → GV
  | [], a => a
  | b :: r, a => match a with
    | .int k x => match b with
      | .int _ y => gmin lt r (match lt with
        | true => .int k (.mn x y)
        | false => .int k (.mx x y))
      | _ => .un
    | _ => .un
def gslc (v : GV) (K : GP → GE → GE → GT) : GT := match v with
  | .sv s => K (.sa s) (.sn s) (.sc s)
  | .sl p n c => K p n c
  | _ => .no
def gint (v : GV) (K : GE → GT) : GT := match v with
  | .int _ e => K e
  | _ => .no
def gadr (v : GV) (K : GA → GT) : GT := match v with
  | .ptr (.a a) => K a
  | _ => .no
def gopt (env : GEnv) (x : Option Operand) (d : GE) (K : GE → GT) : GT := match x with
  | some x => gint (gev env x) K
  | none => K d
def gzero (e : TypeId) : List GV := match zeroOf P e with
  | some z => gconstL z.cells.toList
  | none => []
def gloud (w : GL) (t : TypeId) (M : Mem) (K : GV → Mem → GT) : GT := .loud w (fun v M => gshO P t v fun v => K v M) M
def gop (o : Oper) (env : GEnv) (M : Mem) (K : GV → Mem → GT) : GT := match o.op with
  | .move x => frc (gev env x) fun v => K v M
  | .assign x => frc (gev env x) fun v => K v M
  | .nilCheck x => match gev env x with
    | .ptr p => match p with
      | .a a => K (.ptr (.a a)) M
      | .v p => .nc (.v p) fun a => K (.ptr (.a (.v a))) M
      | .z => .nc .z fun a => K (.ptr (.a (.v a))) M
      | .sa s => .nc (.sa s) fun a => K (.ptr (.a (.v a))) M
      | .cut c l p s => .no
      | .cut3 c l p s => .no
    | .fn f a b => K (.fn f a b) M
    | .kf p => K (.kf p) M
    | _ => .no
  | .load t a => gadr (gev env a) fun a => .ob (.ld t a M) fun v => gshO P o.type v fun v => K v M
  | .store t a x => gadr (gev env a) fun a => frc (gev env x) fun v => .st t a v (fun M => K .un M) M
  | .alloc e => frcL (gzero P e) fun l => .nw l e (fun b M => K (.ptr (.a (.b b))) M) M
  | .box e x => frc (gev env x) fun v => frcL (gcells v) fun l => .nw l e (fun b M => K (.ptr (.a (.b b))) M) M
  | .fieldAddr t x i => gadr (gev env x) fun a => match fieldOf P t i with
    | some f => match f.offset with
      | 0 => K (.ptr (.a a)) M
      | n + 1 => frcN (n + 1) fun n => K (.ptr (.a (.add a n))) M
    | none => .no
  | .indexAddr t x i => match P.underlying t with
    | some (.slice e) => gslc (gev env x) fun p n c => gint (gev env i) fun i => .nc p fun a => .rng i n (frcN (gsize P e) fun s => K (.ptr (.a (.ix (.v a) i s))) M)
    | some (.array m e) => gadr (gev env x) fun a => gint (gev env i) fun i => .rng i (.l m) (frcN (gsize P e) fun s => K (.ptr (.a (.ix a i s))) M)
    | _ => .no
  | .slice t x lo hi mx => match P.underlying t with
    | some (.slice e) => gslc (gev env x) fun p n c => gopt env lo (.l 0) fun lo => gopt env hi (.ofN n) fun hi => frcN (gsize P e) fun s => match mx with
      | none => .cut lo hi c (K (.sl (.cut c lo p s) (.subN (.toN hi) (.toN lo)) (.subN c (.toN lo))) M)
      | some mx => gint (gev env mx) fun mx => .cut3 lo hi mx c (K (.sl (.cut3 mx lo p s) (.subN (.toN hi) (.toN lo)) (.subN (.toN mx) (.toN lo))) M)
    | _ => .no
  | .pick c a b => match gev env c with
    | .bool b' => match b' with
      | .t => frc (gev env a) fun v => K v M
      | .f => frc (gev env b) fun v => K v M
      | c => .bs c (frc (gev env a) fun v => K v M) (frc (gev env b) fun v => K v M)
    | _ => .no
  | .binOp op t x y _ => frc (gev env x) fun a => frc (gev env y) fun b => gbin P op t x y o.type a b M fun v => K v M
  | .unOp op _ x => match gev env x with
    | .bool b => match b with
      | .t => K (.bool .f) M
      | .f => K (.bool .t) M
      | b => K (.bool (.no b)) M
    | .int k e => match op with
      | .neg => K (.int k (.bin k .sub (.l 0) e)) M
      | _ => .no
    | _ => .no
  | .convert _ d x => gint (gev env x) fun e => match P.underlying d with
    | some (.int k) => K (.int k (.cv k e)) M
    | _ => .no
  | .field t x i => match gev env x with
    | .agg l => match fieldOf P t i with
      | some f => match isAgg P f.type with
        | true => frcL (takeG (gsize P f.type) (dropG f.offset l)) fun l => K (.agg l) M
        | false => frc (nthG f.offset l) fun v => K v M
      | none => .no
    | _ => .no
  | .index t x i => frc (gev env x) fun a => frc (gev env i) fun b => .ob (.idx t a b) fun v => gshO P o.type v fun v => K v M
  | .extract x i => match gev env x with
    | .tup l => frc (nthG i l) fun v => K v M
    | _ => .no
  | .build t ps => .ob (.bld t (gevP env ps.toList)) fun v => gshO P o.type v fun v => K v M
  | .makeFunc (.func f) a b => frcL (gevL env a.toList) fun a => frcL (gevL env b.toList) fun b => K (.fn f a b) M
  | .buildSlice t n ps => gloud P (.bsl t n (gevP env ps.toList)) o.type M K
  | .makeMap t r => gloud P (.mkm t (match r with
    | some x => some (gev env x)
    | none => none)) o.type M K
  | .lookup t x i ok => .ob (.lk t (gev env x) (gev env i) ok M) fun v => gshO P o.type v fun v => K v M
  | .mapEntry t m k => .men t (gev env m) (gev env k) (fun v n M => K (.tup [.raw v, .int .i64 (.v n)]) M) M
  | .entryStore t m k x => .mes t (gev env m) (gev env k) (gev env x) (fun M => K .un M) M
  | .mapUpdate t m k x => .mup t (gev env m) (gev env k) (gev env x) (fun M => K .un M) M
  | .insert t m k x => .mup t (gev env m) (gev env k) (gev env x) (fun M => K .un M) M
  | .makeSlice t l c => gloud P (.mks t (gev env l) (gev env c)) o.type M K
  | .call ⟨.value f, args, _⟩ => match gev env f with
    | .fn f a b => frcL (appG a (appG (gevL env args.toList) b)) fun l => .call f l (fun v M => gshO P o.type v fun v => K v M) M
    | .kf p => frcL (gevL env args.toList) fun l => .calk p l (fun v M => gshO P o.type v fun v => K v M) M
    | _ => .no
  | .call ⟨.builtin .len, args, tys⟩ => match gev env (args.toList.headD (.tmp 0)) with
    | .sv s => K (.int .i64 (.ofN (.sn s))) M
    | .sl p n c => K (.int .i64 (.ofN n)) M
    | v => match isMap P tys[0]? with
      | true => .ob (.mlen tys o.type [v] M) fun v => gshO P o.type v fun v => K v M
      | false => match P.underlying (tys.toList.headD 0) with
        | some (.array n _) => K (.int .i64 (.ofN (.l n))) M
        | _ => .no
  | .call ⟨.builtin .cap, args, _⟩ => gslc (gev env (args.toList.headD (.tmp 0))) fun p n c => K (.int .i64 (.ofN c)) M
  | .call ⟨.builtin .min, args, _⟩ => match gevL env args.toList with
    | a :: r => frc (gmin true r a) fun v => K v M
    | [] => .no
  | .call ⟨.builtin .max, args, _⟩ => match gevL env args.toList with
    | a :: r => frc (gmin false r a) fun v => K v M
    | [] => .no
  | .call ⟨.builtin .append, args, tys⟩ => frcL (gevL env args.toList) fun l => gloud P (.app tys.toList o.type l) o.type M K
  | .call ⟨.builtin .copy, args, tys⟩ => frcL (gevL env args.toList) fun l => gloud P (.cpy tys.toList o.type l) o.type M K
  | .call ⟨.builtin .delete, args, tys⟩ => frcL (gevL env args.toList) fun l => gloud P (.del tys.toList o.type l) o.type M K
  | .call ⟨.builtin .clear, args, tys⟩ => frcL (gevL env args.toList) fun l => gloud P (.clr tys.toList o.type l) o.type M K
  | _ => .no
def gfin (ops : List Oper) (i : Nat) (dst : Option Nat) (env : GEnv) (v : GV) (K : GEnv → GT) : GT := match guards ops i with
  | true => match v with
    | .bool b => match b with
      | .t => K (gput dst (.bool .t) env)
      | .f => K (gput dst (.bool .f) env)
      | b => .bs b (K (gput dst (.bool .t) env)) (K (gput dst (.bool .f) env))
    | _ => .no
  | false => K (gput dst v env)
def ggd (ops : List Oper) (i : Nat) (o : Oper) (env : GEnv) (M : Mem) (K : GEnv → Mem → GT) : GT :=
  match o.guard with
  | none => gop P o env M fun v M => gfin ops i o.dst env v fun env => K env M
  | some (j, want) => match slotOf ops j with
    | none => .no
    | some t => match gget t env with
      | .bool b => match b, want with
        | .t, true => gop P o env M fun v M => gfin ops i o.dst env v fun env => K env M
        | .f, false => gop P o env M fun v M => gfin ops i o.dst env v fun env => K env M
        | _, _ => K (gput o.dst .un env) M
      | _ => K (gput o.dst .un env) M
def grun (ops : List Oper) : Nat → List Oper → GEnv → Mem → (GEnv → Mem → GT) → GT
  | _, [], env, M, K => K env M
  | i, o :: r, env, M, K => ggd P ops i o env M fun env M => grun ops (i + 1) r env M K
def gevalQ (ops : List Oper) : List Nat → GEnv → Mem → (GEnv → GT) → GT
  | [], env, _, K => K env
  | i :: r, env, M, K => match ops[i]? with
    | some o => ggd P ops i o env M fun env _ => gevalQ ops r env M K
    | none => .no
def gseen (o : Oper) (env : GEnv) (M : Mem) (K : GT) : GT := match o.dst with
  | some d => match o.op with
    | .load t a => gadr (gev env a) fun a => .agn (.ld t a M) (gget d env) K
    | .lookup t x i ok => .agn (.lk t (gev env x) (gev env i) ok M) (gget d env) K
    | _ => .no
  | none => .no
def gstab (ops : List Oper) : List Nat → GEnv → Mem → GT → GT
  | [], _, _, K => K
  | i :: r, env, M, K => match ops[i]? with
    | some o => match o.guard with
      | none => gseen o env M (gstab ops r env M K)
      | some (j, want) => match slotOf ops j with
        | some t => match gget t env with
          | .bool b => match b, want with
            | .t, true => gseen o env M (gstab ops r env M K)
            | .f, false => gseen o env M (gstab ops r env M K)
            | _, _ => gstab ops r env M K
          | _ => gstab ops r env M K
        | none => .no
    | none => .no
def gconj (f : Nat → GT) : List Nat → GT
  | [] => .no
  | [x] => f x
  | x :: y :: r => .cj (f x) (gconj f (y :: r))
def gdrawF (ops : List Oper) : Nat → List Nat → List Nat → Nat → GEnv → Mem → (GEnv → Mem → GT) → GT
  | 0, _, _, _, _, _, _ => .no
  | fuel + 1, news, olds, done, env, M, K =>
    gevalQ P ops news env M fun env => gstab ops olds env M (match sub (loudM ops) done with
      | true => K env M
      | false => gconj (fun l => match ops[l]? with
        | some o => ggd P ops l o env M fun env M =>
            frcN (done ||| 2 ^ l) fun d => gdrawF ops fuel (newsQ ops d done) (oldsQ P ops d done) d env M K
        | none => .no) (readyL ops done))
def gdraw (ops : List Oper) (env : GEnv) (M : Mem) (K : GEnv → Mem → GT) : GT := gdrawF P ops (ops.length + 1) (newQ ops 0) [] 0 env M K
abbrev GPost := Exit → GEnv → Mem → GT
def gthen (K : GEnv → Mem → GT) (Q : GPost) : GPost := fun e env M => match e with
  | .normal => K env M
  | e => Q e env M
def gblk (id : Nat) (Q : GPost) : GPost := fun e env M => match e with
  | .exit id' => match Nat.beq id' id with
    | true => Q .normal env M
    | false => Q (.exit id') env M
  | e => Q e env M
def grestr : List Nat → GEnv → GEnv
  | [], _ => []
  | s :: r, env => (s, gget s env) :: grestr r env
def gX : HC → List Bool → List Nat → GPost → GEnv → Mem → GT
  | .region _ ops dr, _, _, Q, env, M => match dr with
    | false => grun P ops.toList 0 ops.toList env M fun e m => Q .normal e m
    | true => gdraw P ops.toList env M fun e m => Q .normal e m
  | .seq x y, p, ns, Q, env, M => gX x (false :: p) ns (gthen (gX y (true :: p) ns Q) Q) env M
  | .join live x y, p, ns, Q, env, M => gX x (false :: p) ns (gthen (fun env M => .pt (true :: p) ns (grestr live env) M) Q) env M
  | .cond c x y, p, ns, Q, env, M => match gev env c with
    | .bool b => match b with
      | .t => gX x (false :: p) ns Q env M
      | .f => gX y (true :: p) ns Q env M
      | b => .bs b (gX x (false :: p) ns Q env M) (gX y (true :: p) ns Q env M)
    | _ => .no
  | .block id x, p, ns, Q, env, M => gX x (false :: p) ns (gblk id Q) env M
  | .loop live x, p, ns, Q, env, M => .ex fun k => .pt (false :: p) (k :: ns) (grestr live env) M
  | .exit id, _, _, Q, env, M => Q (.exit id) env M
  | .ret, _, _, Q, env, M => Q .ret env M
  | .skip, _, _, Q, env, M => Q .normal env M
  | .bad _, _, _, _, _, _ => .no
def gwalk : HC → List Bool → List Bool → List Nat → List Nat → GPost → HC × GPost × List Nat
  | .seq x y, false :: q, p, ms, ns, Q => gwalk x q (false :: p) ms ns (gthen (gX P y (true :: p) ns Q) Q)
  | .seq x y, true :: q, p, ms, ns, Q => gwalk y q (true :: p) ms ns Q
  | .join live x y, false :: q, p, ms, ns, Q => gwalk x q (false :: p) ms ns (gthen (fun env M => .pt (true :: p) ns (grestr live env) M) Q)
  | .join live x y, true :: q, p, ms, ns, Q => gwalk y q (true :: p) ms ns Q
  | .cond c x y, false :: q, p, ms, ns, Q => gwalk x q (false :: p) ms ns Q
  | .cond c x y, true :: q, p, ms, ns, Q => gwalk y q (true :: p) ms ns Q
  | .block id x, false :: q, p, ms, ns, Q => gwalk x q (false :: p) ms ns (gblk id Q)
  | .loop live x, false :: q, p, m :: ms, ns, Q => gwalk x q (false :: p) ms (m :: ns) (gthen (fun env M => .pt (false :: p) (m :: ns) (grestr live env) M) Q)
  | h, _, _, ms, _, Q => (h, Q, ms)
def gbody (h : HC) (Q : GPost) : List Bool → List Nat → GEnv → Mem → GT
  | [], _, _, _ => .no
  | _ :: p, ns, e, M => match gwalk P h p.reverse [] (match ns with
      | [] => []
      | _ => ns.reverse) [] Q with
    | (.join _ _ y, Q', _) => gX P y (true :: p) ns Q' e M
    | (.loop live x, Q', _) => gX P x (false :: p) ns (gthen (fun env M => .pt (false :: p) ns (grestr live env) M) Q') e M
    | _ => .no
def gres : List ResultVar → GEnv → Mem → (List GV → GT) → GT
  | [], _, _, K => K []
  | .tmp t :: r, env, M, K => gres r env M fun l => K (gget t env :: l)
  | .cell c t :: r, env, M, K => .ob (.rdv t (gget c env) M) fun u => gres r env M fun l => K (.raw u :: l)
def gone : List GV → GV
  | [v] => v
  | l => .tup l
def gret (rs : List ResultVar) : GPost := fun e env M => match e with
  | .normal => gres rs env M fun l => .rt (gone l) M
  | .ret => gres rs env M fun l => .rt (gone l) M
  | _ => .no
end
end Go.Proofs.YtodobkbnmjgkdaaGreat.HL
namespace Go.Proofs.YtodobkbnmjgkdaaGreat.HL
@[reducible] def nfz (pr : Prim) (pts : Pts) (R : VP) (X : GT) {Y : GT} (h : X = Y := by conv => lhs; reduce) {T : Prop}
    (h2 : Y.D pr pts R = T := by conv => lhs; dsimp only [GT.D, GQ.Q, GL.K, GV.V, GV.L, GV.E, GV.W, GV.WL, GV.WE, GE.I, GE.N, GB.B, GA.A, GP.P, arW, cmpW, wrapW, natL, litI_eq, List.cons_append, List.nil_append]; try dsimp only [ltW, leW, gtW, geW, mnW, mxW, ieW]) : Prop := T
def bd (fn : Func) : Code := fn.body.getD .skip
section
variable {P : Program} {w0 : World}
def IsG (P : Program) (pr : Prim) (pts : Pts) (h : HC) (fn : Func) (R : VP) : Prop := ∀ b p ns e M, reach h p.reverse ns.reverse = true →
  pts (b :: p) ns e M = bodyX P pr pts h (retH pr fn.results.toList R) (b :: p) ns e M
def okG (P : Program) (f : FuncId) (fn : Func) (h : HC) (n : Nat) : Bool := fn.body.isSome && (callable P f && (okH fn.ntmps h && Nat.ble n fn.ntmps))
theorem goG (hm : P.follows .mixedOrders = true) {f : FuncId} {fn : Func} {h : HC} {args : List Value} {R : VP} {M : Mem} {T : Prim → Pts → Prop} (hf : P.funcs[f]? = some fn) (hc : h.code = bd fn)
    (hk : okG P f fn h args.length = true) (he : ∀ pr pts, wpX P pr pts h [] [] (retH pr fn.results.toList R) (argEnv 0 args) M = T pr pts)
    (ht : ∀ pts, IsG P (std P w0) pts h fn R → T (std P w0) pts) : C P w0 f args.toArray R M := by
  unfold okG at hk
  simp only [Bool.and_eq_true] at hk
  obtain ⟨h1, h2, h3, h4⟩ := hk
  have hb : fn.body = some (bd fn) := by
    unfold bd
    cases hb : fn.body with
    | none => rw [hb] at h1; cases h1
    | some c => rfl
  refine C_intro hm hf hb h2 hc h3 (Nat.le_of_ble_eq_true h4) ?_
  rw [root_eq]
  rw [he]
  exact ht _ fun b p ns e M hr => ptsR_eq hr e M
def gR (fn : Func) : GPost := gret fn.results.toList
end
end Go.Proofs.YtodobkbnmjgkdaaGreat.HL
namespace Go.Proofs.YtodobkbnmjgkdaaGreat.HL
open Go.Proofs
noncomputable abbrev PP : Program := Tryz.prog
theorem mixed : PP.follows .mixedOrders = true := by kernel_rfl
namespace Id
abbrev tS : FuncId := 4
abbrev tb_Within : FuncId := 9
abbrev pq_New : FuncId := 10
abbrev pQ_Do : FuncId := 14
abbrev pQ_Steps : FuncId := 16
abbrev bound_Of : FuncId := 19
abbrev tp_awake : FuncId := 21
abbrev tp_dispatcher : FuncId := 22
abbrev dD_Do : FuncId := 23
abbrev tb_Sameapi_Ref : FuncId := 24
abbrev dispatch_New : FuncId := 31
abbrev arena_New : FuncId := 35
abbrev slots_New : FuncId := 36
abbrev p2_New : FuncId := 37
abbrev aA_Meter : FuncId := 40
abbrev mM_Begin : FuncId := 41
abbrev sT_Make : FuncId := 42
abbrev pQ_insert : FuncId := 43
abbrev pQ_min : FuncId := 44
abbrev pQ_decrease : FuncId := 45
abbrev pQ_remove : FuncId := 46
abbrev pQ_meld : FuncId := 47
abbrev sT_Heap : FuncId := 48
abbrev pq_refused : FuncId := 50
abbrev mM_Steps : FuncId := 54
abbrev order_Add : FuncId := 55
abbrev mM_Spent : FuncId := 57
abbrev kind_Right : FuncId := 58
abbrev kind_Worst : FuncId := 60
abbrev sT_Items : FuncId := 62
abbrev d2_New : FuncId := 63
abbrev dD_one : FuncId := 64
abbrev dispatch_refused : FuncId := 65
abbrev jT_Len : FuncId := 71
abbrev bound_Budget : FuncId := 72
abbrev jobs_New : FuncId := 73
abbrev clock_New : FuncId := 74
abbrev jT_Get : FuncId := 76
abbrev meter_New : FuncId := 79
abbrev pool_Newslots_heap : FuncId := 80
abbrev pool_Newslots_thing : FuncId := 81
abbrev mM_Most : FuncId := 83
abbrev pP_Take_sh : FuncId := 84
abbrev item_New : FuncId := 85
abbrev kind_Push : FuncId := 86
abbrev sT_Put : FuncId := 87
abbrev sT_Root : FuncId := 88
abbrev sT_At : FuncId := 89
abbrev kind_Min : FuncId := 90
abbrev kind_Pop : FuncId := 91
abbrev pQ_gone : FuncId := 92
abbrev sT_Cell : FuncId := 93
abbrev sT_Of : FuncId := 94
abbrev item_Lower : FuncId := 95
abbrev kind_Fall : FuncId := 96
abbrev kind_Cut : FuncId := 97
abbrev sT_Join : FuncId := 98
abbrev kind_Meld : FuncId := 99
abbrev pP_Get_sh : FuncId := 100
abbrev sT_List : FuncId := 102
abbrev order_Limit : FuncId := 114
abbrev pP_Len_st : FuncId := 115
abbrev dD_schedule : FuncId := 116
abbrev dD_sooner : FuncId := 117
abbrev dD_cancel : FuncId := 118
abbrev clock_Clock_Go : FuncId := 119
abbrev clock_Clock_Now : FuncId := 120
abbrev dD_fire : FuncId := 121
abbrev dD_merge : FuncId := 122
abbrev jT_Count : FuncId := 123
abbrev pP_Len_jj : FuncId := 126
abbrev pool_Newjobs_Job : FuncId := 127
abbrev pP_All_jj : FuncId := 128
abbrev pP_Get_jj : FuncId := 129
abbrev order_Compare : FuncId := 132
abbrev aA_Take : FuncId := 134
abbrev aA_Set : FuncId := 135
abbrev le_Push : FuncId := 136
abbrev bi_Push : FuncId := 137
abbrev skew_Push : FuncId := 138
abbrev pP_Places_st : FuncId := 141
abbrev pP_Take_st : FuncId := 142
abbrev pP_Set_sh : FuncId := 143
abbrev le_Min : FuncId := 144
abbrev bi_Min : FuncId := 145
abbrev skew_Min : FuncId := 146
abbrev le_Pop : FuncId := 149
abbrev bi_Pop : FuncId := 150
abbrev skew_Pop : FuncId := 151
abbrev sT_Take : FuncId := 154
abbrev aA_Give : FuncId := 155
abbrev pP_Get_st : FuncId := 156
abbrev aA_Get : FuncId := 157
abbrev le_Fall : FuncId := 158
abbrev bi_Fall : FuncId := 159
abbrev skew_Fall : FuncId := 160
abbrev le_Cut : FuncId := 163
abbrev bi_Cut : FuncId := 164
abbrev skew_Cut : FuncId := 165
abbrev pP_Set_st : FuncId := 168
abbrev pP_Give_sh : FuncId := 169
abbrev le_Meld : FuncId := 170
abbrev bi_Meld : FuncId := 171
abbrev skew_Meld : FuncId := 172
abbrev pP_find_sh : FuncId := 175
abbrev pP_All_st : FuncId := 181
abbrev order_Bits : FuncId := 183
abbrev jT_Add : FuncId := 184
abbrev dispatch_told : FuncId := 185
abbrev jT_Set : FuncId := 186
abbrev dD_gone : FuncId := 187
abbrev clock_Clock_Due : FuncId := 188
abbrev jT_By : FuncId := 189
abbrev jT_Move : FuncId := 190
abbrev pP_find_jj : FuncId := 191
abbrev cmp_Or_int : FuncId := 193
abbrev cmp_Compare_int64 : FuncId := 194
abbrev mM_Tick : FuncId := 195
abbrev arena_fresh : FuncId := 196
abbrev aA_has : FuncId := 197
abbrev node_New : FuncId := 198
abbrev le_meld : FuncId := 199
abbrev tC_ : FuncId := 200
abbrev trees_List : FuncId := 201
abbrev zG_ : FuncId := 202
abbrev aA_Cell : FuncId := 207
abbrev trees_Best : FuncId := 208
abbrev aA_Live : FuncId := 209
abbrev le_kids : FuncId := 210
abbrev node_End : FuncId := 211
abbrev bi_without : FuncId := 212
abbrev sW_ : FuncId := 213
abbrev pP_Give_st : FuncId := 216
abbrev pP_find_st : FuncId := 217
abbrev item_Node : FuncId := 218
abbrev le_leave : FuncId := 219
abbrev zR_ : FuncId := 220
abbrev node_Before : FuncId := 221
abbrev sl_Contains_int_int : FuncId := 224
abbrev bits_Len : FuncId := 231
abbrev pP_Places_jj : FuncId := 232
abbrev pP_Take_jj : FuncId := 233
abbrev pP_Set_jj : FuncId := 234
abbrev jT_Take : FuncId := 235
abbrev cmp_isNaN_int64 : FuncId := 238
abbrev item_Put : FuncId := 239
abbrev aA_Cells : FuncId := 240
abbrev le_fix : FuncId := 241
abbrev sSF_ : FuncId := 242
abbrev tC__1 : FuncId := 243
abbrev trees_Link : FuncId := 244
abbrev sl_Inserttr__tr_ : FuncId := 245
abbrev trees_Row : FuncId := 246
abbrev node_Row : FuncId := 247
abbrev item_Swap : FuncId := 248
abbrev trees_Under : FuncId := 249
abbrev dFi_ : FuncId := 251
abbrev bi_without_1 : FuncId := 252
abbrev trees_Kids : FuncId := 253
abbrev sW__1 : FuncId := 254
abbrev item_Before : FuncId := 260
abbrev iXi_ : FuncId := 263
abbrev bits_Len64 : FuncId := 271
abbrev pP_Give_jj : FuncId := 272
abbrev le_rank : FuncId := 274
abbrev sCF_ : FuncId := 275
abbrev sl_overlapstr_ : FuncId := 276
abbrev iFi_ : FuncId := 278
abbrev item_Entry : FuncId := 283
abbrev iSF_ : FuncId := 287
end Id
end Go.Proofs.YtodobkbnmjgkdaaGreat.HL

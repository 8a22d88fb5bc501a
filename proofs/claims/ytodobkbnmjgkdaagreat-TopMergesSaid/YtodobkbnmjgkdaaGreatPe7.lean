import Derived.Test.YtodobkbnmjgkdaaGreatPe6
namespace Go.Proofs.YtodobkbnmjgkdaaGreat
open Go.RowKit (Below)
set_option linter.unusedVariables false
namespace HL
inductive GE where
  | v (n : Int) | vn (n : Nat) | l (n : Nat) | m (n : Nat)
  | bin (k : IntKind) (o : BinOp) (a b : GE) | cv (k : IntKind) (a : GE) | mn (a b : GE) | mx (a b : GE)
  | ofN (a : GE) | toN (a : GE) | aGI (a b : GE) | sn (s : SV) | sc (s : SV)
inductive GB where
  | v (b : Bool) | t | f | cmp (o : BinOp) (a b : GE) | no (b : GB)
inductive GA where
  | v (a : Addr) | b (n : Nat) | add (a : GA) (n : Nat) | ix (a : GA) (i : GE) (s : Nat)
inductive GP where
  | v (p : Option Addr) | sa (s : SV) | a (a : GA) | z | cut (c lo : GE) (p : GP) (s : Nat) | aDG (mx lo : GE) (p : GP) (s : Nat)
inductive GV where
  | int (k : IntKind) (e : GE) | bool (b : GB) | ptr (p : GP) | sv (s : SV) | sl (p : GP) (n c : GE)
  | agg (l : List GV) | tup (l : List GV) | fn (f : Nat) (a b : List GV) | kf (p : FuncId × Array Value) | raw (v : Value) | un
def aBi (k : IntKind) (n : Int) : Int := match k with
  | .i64 => lN n
  | .u64 => u64 n
  | k => IntKind.wrap k n
def arW (k : IntKind) (o : BinOp) (a b : Int) : Int := match o with
  | .add => aBi k (a + b)
  | .sub => aBi k (a - b)
  | .mul => aBi k (a * b)
  | .quo => aBi k (Int.tdiv a b)
  | .rem => Int.tmod a b
  | .shl => aBi k (a * 2 ^ (min b.toNat (IntKind.bits k)))
  | .shr => Int.fdiv a (2 ^ (min b.toNat (IntKind.bits k)))
  | _ => 0
def ltW (a b : Int) : Bool := decide (a < b)
def leW (a b : Int) : Bool := decide (a ≤ b)
def gtW (a b : Int) : Bool := decide (a > b)
def geW (a b : Int) : Bool := decide (a ≥ b)
def mnW (a b : Int) : Int := if b < a then b else a
def mxW (a b : Int) : Int := if b > a then b else a
def ieW (a b : Nat) (p q : Option Addr) : Option Addr := if a = b then p else q
def aMi (o : BinOp) (a b : Int) : Bool := match o with
  | .lss => ltW a b
  | .leq => leW a b
  | .gtr => gtW a b
  | .geq => geW a b
  | .eql => a == b
  | .neq => a != b
  | _ => false
def aLD (n : Nat) : Int := n
theorem aKF (n : Nat) : aLD (no_index (@OfNat.ofNat Nat n _)) = (@OfNat.ofNat Int n _) := rfl
mutual
def GE.I : GE → Int
  | .v n => n
  | .vn n => ((n : Nat) : Int)
  | .l n => aLD n
  | .m n => -aLD n
  | .bin k o a b => arW k o a.I b.I
  | .cv k a => aBi k a.I
  | .mn a b => mnW a.I b.I
  | .mx a b => mxW a.I b.I
  | .ofN a => ((a.N : Nat) : Int)
  | .toN a => ((a.I.toNat : Nat) : Int)
  | .aGI a b => ((a.N - b.N : Nat) : Int)
  | .sn s => ((s.n : Nat) : Int)
  | .sc s => ((s.c : Nat) : Int)
def GE.N : GE → Nat
  | .v n => n.toNat
  | .vn n => n
  | .l n => n
  | .toN a => a.I.toNat
  | .aGI a b => a.N - b.N
  | .sn s => s.n
  | .sc s => s.c
  | _ => 0
end
def GB.B : GB → Bool
  | .v b => b
  | .t => true
  | .f => false
  | .cmp o a b => aMi o a.I b.I
  | .no b => !b.B
def GA.A : GA → Addr
  | .v a => a
  | .b n => ⟨n, 0, none⟩
  | .add a n => Addr.add a.A n
  | .ix a i s => a.A.add (i.I.toNat * s)
def GP.P : GP → Option Addr
  | .v p => p
  | .sa s => s.a
  | .a x => some x.A
  | .z => none
  | .cut c lo p s => ieW c.N lo.I.toNat p.P (p.P.map (·.add (lo.I.toNat * s)))
  | .aDG mx lo p s => ieW mx.I.toNat lo.I.toNat p.P (p.P.map (·.add (lo.I.toNat * s)))
mutual
def GV.V : GV → Value
  | .int k e => .int k e.I
  | .bool b => .bool b.B
  | .ptr p => .pointer p.P
  | .sv s => SV.v s
  | .sl p n c => .slice p.P n.N c.N
  | .agg l => .agg (GV.L l).toArray
  | .tup l => .tuple (GV.L l).toArray
  | .fn f a b => .func (.func f) (GV.L a).toArray (GV.L b).toArray
  | .kf p => .func (.func p.1) #[] p.2
  | .raw v => v
  | .un => undef
def GV.L : List GV → List Value
  | [] => []
  | x :: r => x.V :: GV.L r
end
def kfV (p : FuncId × Array Value) : Value := .func (.func p.1) #[] p.2
mutual
def GV.W : GV → Value
  | .sl p n c => SV.v ⟨p.P, n.N, c.N⟩
  | .agg l => .agg (GV.WL l).toArray
  | .kf p => kfV p
  | .fn f [] b => kfV (f, (GV.L b).toArray)
  | v => v.V
def GV.WL : List GV → List Value
  | [] => []
  | x :: r => x.W :: GV.WL r
end
def GV.WE : List (Nat × GV) → List (Nat × Value)
  | [] => []
  | (i, x) :: r => (i, x.W) :: GV.WE r
inductive GQ where
  | ld (t : TypeId) (a : GA) (M : Mem)
  | bq (o : BinOp) (t : TypeId) (x y : Operand) (a b : GV)
  | bqm (o : BinOp) (t : TypeId) (x y : Operand) (a b : GV) (M : Mem)
  | oF (t : TypeId) (l : List (Nat × GV))
  | idx (t : TypeId) (a b : GV)
  | lk (t : TypeId) (a b : GV) (ok : Bool) (M : Mem)
  | aGK (tys : Array TypeId) (t : TypeId) (l : List GV) (M : Mem)
  | rdv (t : TypeId) (a : GV) (M : Mem)
inductive GL where
  | bsl (t : TypeId) (n : Nat) (l : List (Nat × GV))
  | mks (t : TypeId) (a b : GV)
  | mkm (t : TypeId) (a : Option GV)
  | app (tys : List TypeId) (t : TypeId) (l : List GV)
  | cpy (tys : List TypeId) (t : TypeId) (l : List GV)
  | del (tys : List TypeId) (t : TypeId) (l : List GV)
  | clr (tys : List TypeId) (t : TypeId) (l : List GV)
inductive GT where
  | no
  | bs (b : GB) (x y : GT)
  | nc (p : GP) (k : Addr → GT)
  | ob (q : GQ) (k : Value → GT)
  | mZ (i : IntKind) (v : Value) (k : Int → GT)
  | shB (v : Value) (k : Bool → GT)
  | shP (v : Value) (k : Option Addr → GT)
  | shS (v : Value) (k : SV → GT)
  | shA (v : Value) (k : List Value → GT)
  | shT (v : Value) (k : List Value → GT)
  | shC (l : List Value) (k : Value → List Value → GT)
  | shN (l : List Value) (x : GT)
  | rng (i n : GE) (x : GT)
  | cut (lo hi c : GE) (x : GT)
  | aDG (lo hi mx c : GE) (x : GT)
  | div (k k' : IntKind) (y : GE) (x : GT)
  | shf (y : GE) (x : GT)
  | call (f : Nat) (l : List GV) (k : Value → Mem → GT) (M : Mem)
  | aMw (p : FuncId × Array Value) (l : List GV) (k : Value → Mem → GT) (M : Mem)
  | st (t : TypeId) (a : GA) (v : GV) (k : Mem → GT) (M : Mem)
  | nw (l : List GV) (t : TypeId) (k : Nat → Mem → GT) (M : Mem)
  | aAe (w : GL) (k : Value → Mem → GT) (M : Mem)
  | men (t : TypeId) (a b : GV) (k : Value → Int → Mem → GT) (M : Mem)
  | mes (t : TypeId) (a b c : GV) (k : Mem → GT) (M : Mem)
  | mup (t : TypeId) (a b c : GV) (k : Mem → GT) (M : Mem)
  | ex (k : Nat → GT)
  | pt (p : List Bool) (ns : List Nat) (e : List (Nat × GV)) (M : Mem)
  | rt (v : GV) (M : Mem)
  | agn (q : GQ) (v : GV) (x : GT)
  | cj (x y : GT)
def GV.E : List (Nat × GV) → List (Nat × Value)
  | [] => []
  | (i, x) :: r => (i, x.V) :: GV.E r
def aHb : List Nat → List Nat
  | [] => []
  | x :: r => x :: aHb r
section
variable (pr : Prim) (aB : eA) (R : VP)
def GQ.Q : GQ → Option Value
  | .ld t a M => pr.ld t a.A M
  | .bq o t x y a b => pr.bq o t x y a.V b.V
  | .bqm o t x y a b M => pr.bqm o t x y a.V b.V M
  | .oF t l => pr.oF t (GV.E l)
  | .idx t a b => pr.idx t a.V b.V
  | .lk t a b ok M => pr.lk t a.V b.V ok M
  | .aGK tys t l M => pr.aGK tys t (GV.L l) M
  | .rdv t a M => pr.rdv t a.V M
def GL.K (k : VP) (M : Mem) : GL → Prop
  | .bsl t n l => pr.bsl t n (GV.E l) k M
  | .mks t a b => pr.mks t a.V b.V k M
  | .mkm t (some a) => pr.mkm t (some a.V) k M
  | .mkm t none => pr.mkm t none k M
  | .app tys t l => pr.app (aHb tys).toArray t (GV.L l) k M
  | .cpy tys t l => pr.cpy (aHb tys).toArray t (GV.L l) k M
  | .del tys t l => pr.del (aHb tys).toArray t (GV.L l) k M
  | .clr tys t l => pr.clr (aHb tys).toArray t (GV.L l) k M
def GT.D : GT → Prop
  | .no => False
  | .bs b x y => HL.bs b.B x.D y.D
  | .nc p k => HL.nc p.P fun a => (k a).D
  | .ob q k => HL.ob (q.Q pr) fun v => (k v).D
  | .mZ i v k => HL.mZ i v fun n => (k n).D
  | .shB v k => HL.shB v fun n => (k n).D
  | .shP v k => HL.shP v fun n => (k n).D
  | .shS v k => HL.shS v fun n => (k n).D
  | .shA v k => HL.shA v fun n => (k n).D
  | .shT v k => HL.shT v fun n => (k n).D
  | .shC l k => HL.cM l fun u r => (k u r).D
  | .shN l x => HL.oY l x.D
  | .rng i n x => (0 ≤ i.I ∧ i.I < ((n.N : Nat) : Int)) ∧ x.D
  | .cut lo hi c x => (0 ≤ lo.I ∧ lo.I ≤ hi.I ∧ hi.I ≤ ((c.N : Nat) : Int)) ∧ x.D
  | .aDG lo hi mx c x => (0 ≤ lo.I ∧ lo.I ≤ hi.I ∧ hi.I ≤ mx.I ∧ mx.I ≤ ((c.N : Nat) : Int)) ∧ x.D
  | .div k k' y x => k = k' ∧ y.I ≠ 0 ∧ x.D
  | .shf y x => 0 ≤ y.I ∧ x.D
  | .call f l k M => pr.call f (GV.L l).toArray (fun v M => (k v M).D) M
  | .aMw p l k M => pr.call p.1 (GV.L l ++ p.2.toList).toArray (fun v M => (k v M).D) M
  | .st t a v k M => pr.st t a.A v.V (fun M => (k M).D) M
  | .nw l t k M => pr.nw (GV.L l) t (fun b M => (k b M).D) M
  | .aAe w k M => w.K pr (fun v M => (k v M).D) M
  | .men t a b k M => pr.men t a.V b.V (fun v n M => (k v n M).D) M
  | .mes t a b c k M => pr.mes t a.V b.V c.V (fun M => (k M).D) M
  | .mup t a b c k M => pr.mup t a.V b.V c.V (fun M => (k M).D) M
  | .ex k => ∃ n, (k n).D
  | .pt p ns e M => aB p ns (GV.WE e) M
  | .rt v M => R v.V M
  | .agn q v x => q.Q pr = some v.V ∧ x.D
  | .cj x y => x.D ∧ y.D
end
abbrev pA := List (Nat × GV)
def aCM (s : Nat) : pA → GV
  | [] => .un
  | (t, v) :: r => match Nat.beq t s with
    | true => v
    | false => aCM s r
def aEX (d : Option Nat) (v : GV) (env : pA) : pA := match d with
  | some s => (s, v) :: env
  | none => env
def frc (v : GV) (K : GV → GT) : GT := match v with
  | .int k e => K (.int k e)
  | .bool b => match b with
    | .t => K (.bool .t)
    | .f => K (.bool .f)
    | .v b => K (.bool (.v b))
    | .cmp o x y => K (.bool (.cmp o x y))
    | .no b => K (.bool (.no b))
  | .ptr p => match p with
    | .v p => K (.ptr (.v p))
    | .a a => match a with
      | .v a => K (.ptr (.a (.v a)))
      | .b n => K (.ptr (.a (.b n)))
      | .add a n => K (.ptr (.a (.add a n)))
      | .ix a i s => K (.ptr (.a (.ix a i s)))
    | .z => K (.ptr .z)
    | .sa s => K (.ptr (.sa s))
    | .cut c lo p s => K (.ptr (.cut c lo p s))
    | .aDG c lo p s => K (.ptr (.aDG c lo p s))
  | .sv s => K (.sv s)
  | .sl p n c => K (.sl p n c)
  | .agg l => K (.agg l)
  | .tup l => K (.tup l)
  | .fn f a b => K (.fn f a b)
  | .kf p => K (.kf p)
  | .raw v => K (.raw v)
  | .un => K .un
def aAF : List GV → (List GV → GT) → GT
  | [], K => K []
  | x :: r, K => frc x fun x => aAF r fun r => K (x :: r)
def aH6 : Nat → (Nat → GT) → GT
  | 0, K => K 0
  | n + 1, K => K (n + 1)
mutual
def aIP : Value → GV
  | .int k n => .int k (match n with
    | .ofNat n => .l n
    | .negSucc n => .m (n + 1))
  | .bool true => .bool .t
  | .bool false => .bool .f
  | .pointer none => .ptr .z
  | .slice none 0 0 => .sl .z (.l 0) (.l 0)
  | .agg ⟨l⟩ => .agg (aAN l)
  | .tuple ⟨l⟩ => .tup (aAN l)
  | v => .raw v
def aAN : List Value → List GV
  | [] => []
  | x :: r => aIP x :: aAN r
end
def aMe (k : K1) (v : Value) (K : GV → GT) : GT := match k with
  | .i k => .mZ k v fun n => K (.int k (.v n))
  | .b => .shB v fun b => K (.bool (.v b))
  | .p => .shP v fun p => K (.ptr (.v p))
  | .s => .shS v fun s => K (.sv s)
  | .any => K (.raw v)
def aLO : List K1 → List Value → (List GV → GT) → GT
  | [], l, K => .shN l (K [])
  | k :: ks, l, K => .shC l fun u r => aMe k u fun v => aLO ks r fun l => K (v :: l)
section
variable (P : Program)
def isAgg (t : TypeId) : Bool := match P.underlying t with
  | some (.struct _) => true
  | some (.array _ _) => true
  | _ => false
def aLX (t : TypeId) (v : Value) (K : GV → GT) : GT := match P.underlying t with
  | some (.struct _) => .shA v fun l => aLO (kinds P 8 t) l fun l => K (.agg l)
  | some (.array _ _) => .shA v fun l => aLO (kinds P 8 t) l fun l => K (.agg l)
  | x => aMe (aEy x) v K
def aKY : List TypeId → List Value → (List GV → GT) → GT
  | [], l, K => .shN l (K [])
  | t :: ts, l, K => .shC l fun u r => aLX P t u fun v => aKY ts r fun l => K (v :: l)
def aMX (t : TypeId) (v : Value) (K : GV → GT) : GT := match P.underlying t with
  | some (.tuple ts) => .shT v fun l => aKY P ts.toList l fun l => K (.tup l)
  | _ => aLX P t v K
def aB5 (t : TypeId) (v : Value) (K : GV → GT) : GT := match t with
  | 0 => K (.raw v)
  | t + 1 => aMX P (t + 1) v K
def aFz (t : TypeId) : Nat := match P.info? t with
  | some i => i.size
  | none => 0
def qK (env : pA) : Operand → GV
  | .tmp t => aCM t env
  | .const v => aIP v
  | .global g => .raw (.pointer (some ⟨g, 0, none⟩))
  | .func f => .fn f [] []
def aBM (env : pA) : List Operand → List GV
  | [] => []
  | x :: r => qK env x :: aBM env r
def aK2 (env : pA) : List (Nat × Operand) → List (Nat × GV)
  | [] => []
  | x :: r => (x.1, qK env x.2) :: aK2 env r
def aLF : GV → List GV
  | .agg l => l
  | v => [v]
def aKJ : Nat → List GV → List GV
  | 0, _ => []
  | _, [] => []
  | n + 1, x :: r => x :: aKJ n r
def aKU : Nat → List GV → List GV
  | 0, l => l
  | _, [] => []
  | n + 1, _ :: r => aKU n r
def aLj : Nat → List GV → GV
  | _, [] => .un
  | 0, x :: _ => x
  | n + 1, _ :: r => aLj n r
def aLc : List GV → List GV → List GV
  | [], l => l
  | x :: r, l => x :: aLc r l
def aFI (t : TypeId) (i : Nat) : Option Field := match P.underlying t with
  | some (.struct fs) => fs.toList[i]?
  | _ => none
def aMm : BinOp → Bool
  | .lss | .leq | .gtr | .geq | .eql | .neq => true
  | _ => false
def aM4 : BinOp → Bool
  | .add | .sub | .mul => true
  | _ => false
def aM0 : BinOp → Bool
  | .quo | .rem => true
  | _ => false
def aMF : BinOp → Bool
  | .shl | .shr => true
  | _ => false
def aMS (o : BinOp) (t : TypeId) (X Y : Operand) (ty : TypeId) (a b : GV) (M : Mem) (K : GV → GT) : GT :=
  let ask : GT := match aKP P o t X Y with
    | true => .ob (.bqm o t X Y a b M) fun v => aB5 P ty v K
    | false => .ob (.bq o t X Y a b) fun v => aB5 P ty v K
  match a with
  | .int k x => match b with
    | .int k' y => match aM4 o with
      | true => K (.int k (.bin k o x y))
      | false => match aMm o with
        | true => K (.bool (.cmp o x y))
        | false => match aM0 o with
          | true => .div k k' y (K (.int k (.bin k o x y)))
          | false => match aMF o with
            | true => .shf y (K (.int k (.bin k o x y)))
            | false => ask
    | _ => ask
  | _ => ask
def aLf (lt : Bool) : List GV → GV → GV
  | [], a => a
  | b :: r, a => match a with
    | .int k x => match b with
      | .int _ y => aLf lt r (match lt with
        | true => .int k (.mn x y)
        | false => .int k (.mx x y))
      | _ => .un
    | _ => .un
def aLE (v : GV) (K : GP → GE → GE → GT) : GT := match v with
  | .sv s => K (.sa s) (.sn s) (.sc s)
  | .sl p n c => K p n c
  | _ => .no
def aIQ (v : GV) (K : GE → GT) : GT := match v with
  | .int _ e => K e
  | _ => .no
def aIZ (v : GV) (K : GA → GT) : GT := match v with
  | .ptr (.a a) => K a
  | _ => .no
def aMo (env : pA) (x : Option Operand) (d : GE) (K : GE → GT) : GT := match x with
  | some x => aIQ (qK env x) K
  | none => K d
def aMx (e : TypeId) : List GV := match zeroOf P e with
  | some z => aAN z.cells.toList
  | none => []
def aA2 (w : GL) (t : TypeId) (M : Mem) (K : GV → Mem → GT) : GT := .aAe w (fun v M => aB5 P t v fun v => K v M) M
def gop (o : Oper) (env : pA) (M : Mem) (K : GV → Mem → GT) : GT := match o.op with
  | .move x => frc (qK env x) fun v => K v M
  | .assign x => frc (qK env x) fun v => K v M
  | .nilCheck x => match qK env x with
    | .ptr p => match p with
      | .a a => K (.ptr (.a a)) M
      | .v p => .nc (.v p) fun a => K (.ptr (.a (.v a))) M
      | .z => .nc .z fun a => K (.ptr (.a (.v a))) M
      | .sa s => .nc (.sa s) fun a => K (.ptr (.a (.v a))) M
      | .cut c l p s => .no
      | .aDG c l p s => .no
    | .fn f a b => K (.fn f a b) M
    | .kf p => K (.kf p) M
    | _ => .no
  | .load t a => aIZ (qK env a) fun a => .ob (.ld t a M) fun v => aB5 P o.type v fun v => K v M
  | .store t a x => aIZ (qK env a) fun a => frc (qK env x) fun v => .st t a v (fun M => K .un M) M
  | .alloc e => aAF (aMx P e) fun l => .nw l e (fun b M => K (.ptr (.a (.b b))) M) M
  | .box e x => frc (qK env x) fun v => aAF (aLF v) fun l => .nw l e (fun b M => K (.ptr (.a (.b b))) M) M
  | .fieldAddr t x i => aIZ (qK env x) fun a => match aFI P t i with
    | some f => match f.offset with
      | 0 => K (.ptr (.a a)) M
      | n + 1 => aH6 (n + 1) fun n => K (.ptr (.a (.add a n))) M
    | none => .no
  | .indexAddr t x i => match P.underlying t with
    | some (.slice e) => aLE (qK env x) fun p n c => aIQ (qK env i) fun i => .nc p fun a => .rng i n (aH6 (aFz P e) fun s => K (.ptr (.a (.ix (.v a) i s))) M)
    | some (.array m e) => aIZ (qK env x) fun a => aIQ (qK env i) fun i => .rng i (.l m) (aH6 (aFz P e) fun s => K (.ptr (.a (.ix a i s))) M)
    | _ => .no
  | .slice t x lo hi mx => match P.underlying t with
    | some (.slice e) => aLE (qK env x) fun p n c => aMo env lo (.l 0) fun lo => aMo env hi (.ofN n) fun hi => aH6 (aFz P e) fun s => match mx with
      | none => .cut lo hi c (K (.sl (.cut c lo p s) (.aGI (.toN hi) (.toN lo)) (.aGI c (.toN lo))) M)
      | some mx => aIQ (qK env mx) fun mx => .aDG lo hi mx c (K (.sl (.aDG mx lo p s) (.aGI (.toN hi) (.toN lo)) (.aGI (.toN mx) (.toN lo))) M)
    | _ => .no
  | .pick c a b => match qK env c with
    | .bool b' => match b' with
      | .t => frc (qK env a) fun v => K v M
      | .f => frc (qK env b) fun v => K v M
      | c => .bs c (frc (qK env a) fun v => K v M) (frc (qK env b) fun v => K v M)
    | _ => .no
  | .binOp op t x y _ => frc (qK env x) fun a => frc (qK env y) fun b => aMS P op t x y o.type a b M fun v => K v M
  | .unOp op _ x => match qK env x with
    | .bool b => match b with
      | .t => K (.bool .f) M
      | .f => K (.bool .t) M
      | b => K (.bool (.no b)) M
    | .int k e => match op with
      | .neg => K (.int k (.bin k .sub (.l 0) e)) M
      | _ => .no
    | _ => .no
  | .convert _ d x => aIQ (qK env x) fun e => match P.underlying d with
    | some (.int k) => K (.int k (.cv k e)) M
    | _ => .no
  | .field t x i => match qK env x with
    | .agg l => match aFI P t i with
      | some f => match isAgg P f.type with
        | true => aAF (aKJ (aFz P f.type) (aKU f.offset l)) fun l => K (.agg l) M
        | false => frc (aLj f.offset l) fun v => K v M
      | none => .no
    | _ => .no
  | .index t x i => frc (qK env x) fun a => frc (qK env i) fun b => .ob (.idx t a b) fun v => aB5 P o.type v fun v => K v M
  | .extract x i => match qK env x with
    | .tup l => frc (aLj i l) fun v => K v M
    | _ => .no
  | .build t ps => .ob (.oF t (aK2 env ps.toList)) fun v => aB5 P o.type v fun v => K v M
  | .makeFunc (.func f) a b => aAF (aBM env a.toList) fun a => aAF (aBM env b.toList) fun b => K (.fn f a b) M
  | .buildSlice t n ps => aA2 P (.bsl t n (aK2 env ps.toList)) o.type M K
  | .makeMap t r => aA2 P (.mkm t (match r with
    | some x => some (qK env x)
    | none => none)) o.type M K
  | .lookup t x i ok => .ob (.lk t (qK env x) (qK env i) ok M) fun v => aB5 P o.type v fun v => K v M
  | .mapEntry t m k => .men t (qK env m) (qK env k) (fun v n M => K (.tup [.raw v, .int .i64 (.v n)]) M) M
  | .entryStore t m k x => .mes t (qK env m) (qK env k) (qK env x) (fun M => K .un M) M
  | .mapUpdate t m k x => .mup t (qK env m) (qK env k) (qK env x) (fun M => K .un M) M
  | .insert t m k x => .mup t (qK env m) (qK env k) (qK env x) (fun M => K .un M) M
  | .makeSlice t l c => aA2 P (.mks t (qK env l) (qK env c)) o.type M K
  | .call ⟨.value f, args, _⟩ => match qK env f with
    | .fn f a b => aAF (aLc a (aLc (aBM env args.toList) b)) fun l => .call f l (fun v M => aB5 P o.type v fun v => K v M) M
    | .kf p => aAF (aBM env args.toList) fun l => .aMw p l (fun v M => aB5 P o.type v fun v => K v M) M
    | _ => .no
  | .call ⟨.builtin .len, args, tys⟩ => match qK env (args.toList.headD (.tmp 0)) with
    | .sv s => K (.int .i64 (.ofN (.sn s))) M
    | .sl p n c => K (.int .i64 (.ofN n)) M
    | v => match aKI P tys[0]? with
      | true => .ob (.aGK tys o.type [v] M) fun v => aB5 P o.type v fun v => K v M
      | false => match P.underlying (tys.toList.headD 0) with
        | some (.array n _) => K (.int .i64 (.ofN (.l n))) M
        | _ => .no
  | .call ⟨.builtin .cap, args, _⟩ => aLE (qK env (args.toList.headD (.tmp 0))) fun p n c => K (.int .i64 (.ofN c)) M
  | .call ⟨.builtin .min, args, _⟩ => match aBM env args.toList with
    | a :: r => frc (aLf true r a) fun v => K v M
    | [] => .no
  | .call ⟨.builtin .max, args, _⟩ => match aBM env args.toList with
    | a :: r => frc (aLf false r a) fun v => K v M
    | [] => .no
  | .call ⟨.builtin .append, args, tys⟩ => aAF (aBM env args.toList) fun l => aA2 P (.app tys.toList o.type l) o.type M K
  | .call ⟨.builtin .copy, args, tys⟩ => aAF (aBM env args.toList) fun l => aA2 P (.cpy tys.toList o.type l) o.type M K
  | .call ⟨.builtin .delete, args, tys⟩ => aAF (aBM env args.toList) fun l => aA2 P (.del tys.toList o.type l) o.type M K
  | .call ⟨.builtin .clear, args, tys⟩ => aAF (aBM env args.toList) fun l => aA2 P (.clr tys.toList o.type l) o.type M K
  | _ => .no
def aLB (ops : List Oper) (i : Nat) (dst : Option Nat) (env : pA) (v : GV) (K : pA → GT) : GT := match guards ops i with
  | true => match v with
    | .bool b => match b with
      | .t => K (aEX dst (.bool .t) env)
      | .f => K (aEX dst (.bool .f) env)
      | b => .bs b (K (aEX dst (.bool .t) env)) (K (aEX dst (.bool .f) env))
    | _ => .no
  | false => K (aEX dst v env)
def ggd (ops : List Oper) (i : Nat) (o : Oper) (env : pA) (M : Mem) (K : pA → Mem → GT) : GT :=
  match o.guard with
  | none => gop P o env M fun v M => aLB ops i o.dst env v fun env => K env M
  | some (j, want) => match oM ops j with
    | none => .no
    | some t => match aCM t env with
      | .bool b => match b, want with
        | .t, true => gop P o env M fun v M => aLB ops i o.dst env v fun env => K env M
        | .f, false => gop P o env M fun v M => aLB ops i o.dst env v fun env => K env M
        | _, _ => K (aEX o.dst .un env) M
      | _ => K (aEX o.dst .un env) M
def aMc (ops : List Oper) : Nat → List Oper → pA → Mem → (pA → Mem → GT) → GT
  | _, [], env, M, K => K env M
  | i, o :: r, env, M, K => ggd P ops i o env M fun env M => aMc ops (i + 1) r env M K
def aHs (ops : List Oper) : List Nat → pA → Mem → (pA → GT) → GT
  | [], env, _, K => K env
  | i :: r, env, M, K => match ops[i]? with
    | some o => ggd P ops i o env M fun env _ => aHs ops r env M K
    | none => .no
def aHt (o : Oper) (env : pA) (M : Mem) (K : GT) : GT := match o.dst with
  | some d => match o.op with
    | .load t a => aIZ (qK env a) fun a => .agn (.ld t a M) (aCM d env) K
    | .lookup t x i ok => .agn (.lk t (qK env x) (qK env i) ok M) (aCM d env) K
    | _ => .no
  | none => .no
def aCj (ops : List Oper) : List Nat → pA → Mem → GT → GT
  | [], _, _, K => K
  | i :: r, env, M, K => match ops[i]? with
    | some o => match o.guard with
      | none => aHt o env M (aCj ops r env M K)
      | some (j, want) => match oM ops j with
        | some t => match aCM t env with
          | .bool b => match b, want with
            | .t, true => aHt o env M (aCj ops r env M K)
            | .f, false => aHt o env M (aCj ops r env M K)
            | _, _ => aCj ops r env M K
          | _ => aCj ops r env M K
        | none => .no
    | none => .no
def aKW (f : Nat → GT) : List Nat → GT
  | [] => .no
  | [x] => f x
  | x :: y :: r => .cj (f x) (aKW f (y :: r))
def aIA (ops : List Oper) : Nat → List Nat → List Nat → Nat → pA → Mem → (pA → Mem → GT) → GT
  | 0, _, _, _, _, _, _ => .no
  | fuel + 1, news, olds, done, env, M, K =>
    aHs P ops news env M fun env => aCj ops olds env M (match sub (x7 ops) done with
      | true => K env M
      | false => aKW (fun l => match ops[l]? with
        | some o => ggd P ops l o env M fun env M =>
            aH6 (done ||| 2 ^ l) fun d => aIA ops fuel (aAs ops d done) (aDP P ops d done) d env M K
        | none => .no) (aDu ops done))
def aMA (ops : List Oper) (env : pA) (M : Mem) (K : pA → Mem → GT) : GT := aIA P ops (ops.length + 1) (aL2 ops 0) [] 0 env M K
abbrev x9 := Exit → pA → Mem → GT
def aCz (K : pA → Mem → GT) (Q : x9) : x9 := fun e env M => match e with
  | .normal => K env M
  | e => Q e env M
def aMr (id : Nat) (Q : x9) : x9 := fun e env M => match e with
  | .exit id' => match Nat.beq id' id with
    | true => Q .normal env M
    | false => Q (.exit id') env M
  | e => Q e env M
def aAm : List Nat → pA → pA
  | [], _ => []
  | s :: r, env => (s, aCM s env) :: aAm r env
def gX : HC → List Bool → List Nat → x9 → pA → Mem → GT
  | .region _ ops dr, _, _, Q, env, M => match dr with
    | false => aMc P ops.toList 0 ops.toList env M fun e m => Q .normal e m
    | true => aMA P ops.toList env M fun e m => Q .normal e m
  | .seq x y, p, ns, Q, env, M => gX x (false :: p) ns (aCz (gX y (true :: p) ns Q) Q) env M
  | .join live x y, p, ns, Q, env, M => gX x (false :: p) ns (aCz (fun env M => .pt (true :: p) ns (aAm live env) M) Q) env M
  | .cond c x y, p, ns, Q, env, M => match qK env c with
    | .bool b => match b with
      | .t => gX x (false :: p) ns Q env M
      | .f => gX y (true :: p) ns Q env M
      | b => .bs b (gX x (false :: p) ns Q env M) (gX y (true :: p) ns Q env M)
    | _ => .no
  | .block id x, p, ns, Q, env, M => gX x (false :: p) ns (aMr id Q) env M
  | .loop live x, p, ns, Q, env, M => .ex fun k => .pt (false :: p) (k :: ns) (aAm live env) M
  | .exit id, _, _, Q, env, M => Q (.exit id) env M
  | .ret, _, _, Q, env, M => Q .ret env M
  | .skip, _, _, Q, env, M => Q .normal env M
  | .bad _, _, _, _, _, _ => .no
def zI : HC → List Bool → List Bool → List Nat → List Nat → x9 → HC × x9 × List Nat
  | .seq x y, false :: q, p, ms, ns, Q => zI x q (false :: p) ms ns (aCz (gX P y (true :: p) ns Q) Q)
  | .seq x y, true :: q, p, ms, ns, Q => zI y q (true :: p) ms ns Q
  | .join live x y, false :: q, p, ms, ns, Q => zI x q (false :: p) ms ns (aCz (fun env M => .pt (true :: p) ns (aAm live env) M) Q)
  | .join live x y, true :: q, p, ms, ns, Q => zI y q (true :: p) ms ns Q
  | .cond c x y, false :: q, p, ms, ns, Q => zI x q (false :: p) ms ns Q
  | .cond c x y, true :: q, p, ms, ns, Q => zI y q (true :: p) ms ns Q
  | .block id x, false :: q, p, ms, ns, Q => zI x q (false :: p) ms ns (aMr id Q)
  | .loop live x, false :: q, p, m :: ms, ns, Q => zI x q (false :: p) ms (m :: ns) (aCz (fun env M => .pt (false :: p) (m :: ns) (aAm live env) M) Q)
  | h, _, _, ms, _, Q => (h, Q, ms)
def bD (h : HC) (Q : x9) : List Bool → List Nat → pA → Mem → GT
  | [], _, _, _ => .no
  | _ :: p, ns, e, M => match zI P h p.reverse [] (match ns with
      | [] => []
      | _ => ns.reverse) [] Q with
    | (.join _ _ y, Q', _) => gX P y (true :: p) ns Q' e M
    | (.loop live x, Q', _) => gX P x (false :: p) ns (aCz (fun env M => .pt (false :: p) ns (aAm live env) M) Q') e M
    | _ => .no
def aKl : List ResultVar → pA → Mem → (List GV → GT) → GT
  | [], _, _, K => K []
  | .tmp t :: r, env, M, K => aKl r env M fun l => K (aCM t env :: l)
  | .cell c t :: r, env, M, K => .ob (.rdv t (aCM c env) M) fun u => aKl r env M fun l => K (.raw u :: l)
def gone : List GV → GV
  | [v] => v
  | l => .tup l
def aMI (rs : List ResultVar) : x9 := fun e env M => match e with
  | .normal => aKl rs env M fun l => .rt (gone l) M
  | .ret => aKl rs env M fun l => .rt (gone l) M
  | _ => .no
end
end HL
namespace HL
@[reducible] def aH (pr : Prim) (aB : eA) (R : VP) (X : GT) {Y : GT} (h : X = Y := by conv => lhs; reduce) {T : Prop}
    (h2 : Y.D pr aB R = T := by conv => lhs; dsimp only [GT.D, GQ.Q, GL.K, GV.V, GV.L, GV.E, GV.W, GV.WL, GV.WE, GE.I, GE.N, GB.B, GA.A, GP.P, arW, aMi, aBi, aHb, aKF, List.cons_append, List.nil_append]; try dsimp only [ltW, leW, gtW, geW, mnW, mxW, ieW]) : Prop := T
def bd (fn : Func) : Code := fn.body.getD .skip
section
variable {P : Program} {w0 : World}
def nX (P : Program) (pr : Prim) (aB : eA) (h : HC) (fn : Func) (R : VP) : Prop := ∀ b p ns e M, reach h p.reverse ns.reverse = true →
  aB (b :: p) ns e M = aAy P pr aB h (aB3 pr fn.results.toList R) (b :: p) ns e M
def okG (P : Program) (f : FuncId) (fn : Func) (h : HC) (n : Nat) : Bool := fn.body.isSome && (oO P f && (okH fn.ntmps h && Nat.ble n fn.ntmps))
theorem cW (hm : P.follows .mixedOrders = true) {f : FuncId} {fn : Func} {h : HC} {args : List Value} {R : VP} {M : Mem} {T : Prim → eA → Prop} (hf : P.funcs[f]? = some fn) (hc : h.code = bd fn)
    (hk : okG P f fn h args.length = true) (he : ∀ pr aB, wpX P pr aB h [] [] (aB3 pr fn.results.toList R) (yQ 0 args) M = T pr aB)
    (ht : ∀ aB, nX P (aJ P w0) aB h fn R → T (aJ P w0) aB) : C P w0 f args.toArray R M := by
  unfold okG at hk
  simp only [Bool.and_eq_true] at hk
  obtain ⟨h1, h2, h3, h4⟩ := hk
  have hb : fn.body = some (bd fn) := by
    unfold bd
    cases hb : fn.body with
    | none => rw [hb] at h1; cases h1
    | some c => rfl
  refine aFB hm hf hb h2 hc h3 (Nat.le_of_ble_eq_true h4) ?_
  rw [aFT]
  rw [he]
  exact ht _ fun b p ns e M hr => aAS hr e M
def gR (fn : Func) : x9 := aMI fn.results.toList
end
end HL
namespace HL
noncomputable abbrev PP:Program:=Tryz.prog
theorem mixed:PP.follows .mixedOrders = true:=by kernel_rfl
namespace Id
abbrev aD:FuncId:=8
abbrev cT:FuncId:=9
abbrev jS:FuncId:=10
abbrev iU:FuncId:=14
abbrev mS:FuncId:=16
abbrev fI:FuncId:=19
abbrev fB:FuncId:=21
abbrev fU:FuncId:=22
abbrev xD:FuncId:=23
abbrev fK:FuncId:=25
abbrev sH:FuncId:=26
abbrev bH:FuncId:=31
abbrev gF:FuncId:=32
abbrev dQ:FuncId:=33
abbrev eR:FuncId:=34
abbrev kY:FuncId:=35
abbrev kV:FuncId:=36
abbrev rP:FuncId:=37
abbrev j8:FuncId:=40
abbrev mQ:FuncId:=41
abbrev pH:FuncId:=42
abbrev lE:FuncId:=43
abbrev mI:FuncId:=44
abbrev iB:FuncId:=45
abbrev lA:FuncId:=46
abbrev pL:FuncId:=47
abbrev pJ:FuncId:=48
abbrev jC:FuncId:=50
abbrev gD:FuncId:=51
abbrev lR:FuncId:=54
abbrev kS:FuncId:=55
abbrev nS:FuncId:=57
abbrev jD:FuncId:=58
abbrev jK:FuncId:=60
abbrev mR:FuncId:=62
abbrev qS:FuncId:=63
abbrev fQ:FuncId:=64
abbrev cG:FuncId:=65
abbrev bV:FuncId:=66
abbrev gL:FuncId:=67
abbrev jM:FuncId:=68
abbrev oZ:FuncId:=69
abbrev jL:FuncId:=70
abbrev rT:FuncId:=71
abbrev gP:FuncId:=72
abbrev mP:FuncId:=73
abbrev kH:FuncId:=74
abbrev rY:FuncId:=75
abbrev pB:FuncId:=76
abbrev gQ:FuncId:=77
abbrev cC:FuncId:=78
abbrev kW:FuncId:=79
abbrev cY:FuncId:=80
abbrev cK:FuncId:=81
abbrev qG:FuncId:=83
abbrev cX:FuncId:=84
abbrev mT:FuncId:=85
abbrev lB:FuncId:=86
abbrev sQ:FuncId:=87
abbrev pE:FuncId:=88
abbrev wU:FuncId:=89
abbrev mY:FuncId:=90
abbrev mH:FuncId:=91
abbrev pF:FuncId:=92
abbrev pN:FuncId:=93
abbrev xB:FuncId:=94
abbrev jJ:FuncId:=95
abbrev kX:FuncId:=96
abbrev mW:FuncId:=97
abbrev gG:FuncId:=98
abbrev kT:FuncId:=99
abbrev j5:FuncId:=100
abbrev fX:FuncId:=102
abbrev oI:FuncId:=105
abbrev cE:FuncId:=114
abbrev lC:FuncId:=115
abbrev iH:FuncId:=116
abbrev kQ:FuncId:=117
abbrev kR:FuncId:=118
abbrev fA:FuncId:=119
abbrev eH:FuncId:=120
abbrev gN:FuncId:=121
abbrev mJ:FuncId:=122
abbrev eS:FuncId:=123
abbrev dE:FuncId:=124
abbrev dS:FuncId:=125
abbrev kO:FuncId:=126
abbrev dU:FuncId:=127
abbrev dL:FuncId:=128
abbrev jZ:FuncId:=129
abbrev fV:FuncId:=130
abbrev bP:FuncId:=131
abbrev bQ:FuncId:=132
abbrev iI:FuncId:=133
abbrev gS:FuncId:=134
abbrev pT:FuncId:=135
abbrev pP:FuncId:=136
abbrev pO:FuncId:=137
abbrev kU:FuncId:=138
abbrev gT:FuncId:=141
abbrev c7:FuncId:=142
abbrev kI:FuncId:=143
abbrev rM:FuncId:=144
abbrev rO:FuncId:=145
abbrev mX:FuncId:=146
abbrev iM:FuncId:=149
abbrev jT:FuncId:=150
abbrev fH:FuncId:=151
abbrev oS:FuncId:=154
abbrev oK:FuncId:=155
abbrev j0:FuncId:=156
abbrev rU:FuncId:=157
abbrev gY:FuncId:=158
abbrev oW:FuncId:=159
abbrev lG:FuncId:=160
abbrev jX:FuncId:=163
abbrev sC:FuncId:=164
abbrev mN:FuncId:=165
abbrev kM:FuncId:=168
abbrev jI:FuncId:=169
abbrev oH:FuncId:=170
abbrev oV:FuncId:=171
abbrev kG:FuncId:=172
abbrev dB:FuncId:=175
abbrev dJ:FuncId:=181
abbrev jF:FuncId:=183
abbrev rJ:FuncId:=184
abbrev fT:FuncId:=185
abbrev jG:FuncId:=186
abbrev lZ:FuncId:=187
abbrev eN:FuncId:=188
abbrev xG:FuncId:=189
abbrev gE:FuncId:=190
abbrev dA:FuncId:=191
abbrev pQ:FuncId:=192
abbrev cN:FuncId:=193
abbrev dF:FuncId:=194
abbrev pK:FuncId:=195
abbrev bW:FuncId:=196
abbrev sN:FuncId:=197
abbrev mL:FuncId:=198
abbrev bE:FuncId:=199
abbrev nN:FuncId:=200
abbrev jA:FuncId:=201
abbrev uL:FuncId:=202
abbrev oQ:FuncId:=207
abbrev cF:FuncId:=208
abbrev nZ:FuncId:=209
abbrev pG:FuncId:=210
abbrev lP:FuncId:=211
abbrev iW:FuncId:=212
abbrev wF:FuncId:=213
abbrev jH:FuncId:=216
abbrev dC:FuncId:=217
abbrev kN:FuncId:=218
abbrev bO:FuncId:=219
abbrev tZ:FuncId:=220
abbrev iE:FuncId:=221
abbrev cL:FuncId:=224
abbrev mO:FuncId:=231
abbrev gU:FuncId:=232
abbrev cZ:FuncId:=233
abbrev lD:FuncId:=234
abbrev l0:FuncId:=235
abbrev tY:FuncId:=236
abbrev jY:FuncId:=237
abbrev eM:FuncId:=238
abbrev mU:FuncId:=239
abbrev mD:FuncId:=240
abbrev iX:FuncId:=241
abbrev aBp:FuncId:=242
abbrev nP:FuncId:=243
abbrev cO:FuncId:=244
abbrev dP:FuncId:=245
abbrev dK:FuncId:=246
abbrev cP:FuncId:=247
abbrev kF:FuncId:=248
abbrev iD:FuncId:=249
abbrev qR:FuncId:=251
abbrev fZ:FuncId:=252
abbrev iY:FuncId:=253
abbrev v8:FuncId:=254
abbrev iG:FuncId:=260
abbrev tB:FuncId:=263
abbrev aE:FuncId:=271
abbrev gM:FuncId:=272
abbrev roC:FuncId:=273
abbrev o0:FuncId:=274
abbrev n6:FuncId:=275
abbrev w6:FuncId:=276
abbrev rD:FuncId:=278
abbrev jN:FuncId:=283
abbrev swC:FuncId:=286
abbrev kB:FuncId:=287
end Id
end HL
end Go.Proofs.YtodobkbnmjgkdaaGreat

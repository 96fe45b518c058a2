/-
  What functions of the program compute, each told as a plain function that may give nothing, with the proof that the code does so. No condition beyond those that each theorem names.
-/
import Derived.Test.YtomicnbiniapfaaGreatLibD
import Derived.Test.YtomicnbiniapfaaGreatProg
import Derived.Test.YtomicnbiniapfaaGreatLibM
import Derived.DeepKeys4
set_option linter.unusedSimpArgs false
set_option linter.unusedVariables false
set_option linter.unusedSectionVars false
set_option maxHeartbeats 2000000
set_option maxRecDepth 100000
open List renaming replicate->Xa,set->Xc,length_append->Xd,take->Xe,length_cons->Xf,length_nil->Xg,forall_mem_cons->Xh,length->Xi,drop->Xl,append_assoc->Xo
open And renaming intro->Xb
open Nat renaming zero_add->Xj,lt_succ_self->Xm
open Option renaming some.inj->Xk
open Bool renaming and_eq_true->Xp
namespace Go.Proofs.YtomicnbiniapfaaGreat
open Go Go.RowKit
open Go.IntKind (i64)
noncomputable abbrev pp:Program:=Tryz.prog
theorem zq9:Tryz.prog.underlying 61=some (.map 103 104):=by kernel_rfl
theorem zq8:Tryz.prog.underlying 62=some (.map 3 140):=by kernel_rfl
theorem z7q:Tryz.prog.underlying 63=some (.map 103 76):=by kernel_rfl
@[reducible] def tyF(P:Program)(t s:Nat)(a:Bool)(b:Nat)(n:List (Option Nat))(r:Option (Nat×Nat))(z:Option (List Value)):Prop:=szT P t=s/\q19 P t=true/\q6s P t=a/\q2h P t=b/\qh6 P t=n/\qu7 P t=r/\q1w P t=z
@[go_sem] theorem k2z:tyF pp 2 1 false 8 [none] none (some [.int .i64 0])/\(qz0 pp 2=some .i64)/\tyF pp 3 1 false 8 [none] none (some [.int .i64 0])/\(qz0 pp 3=some .i64)/\tyF pp 4 1 false 1 [none] none (some [.bool false])/\(Tryz.prog.underlying 4=some .bool)/\tyF pp 22 1 false 24 [some 1] none (some [.slice none 0 0])/\(aO pp 22=some 3)/\tyF pp 23 1 false 24 [some 4] none (some [.slice none 0 0])/\(aO pp 23=some 46)/\tyF pp 24 1 false 24 [some 4] none (some [.slice none 0 0])/\(aO pp 24=some 48)/\tyF pp 26 4 true 96 [some 1,some 1,some 4,some 4] none (some [.slice none 0 0,.slice none 0 0,.slice none 0 0,.slice none 0 0])/\(q0t pp 26 0=some (0,22))/\(q0t pp 26 1=some (1,22))/\(q0t pp 26 2=some (2,23))/\(q0t pp 26 3=some (3,24))/\(q4f pp 26=some [(0,1),(1,1),(2,1),(3,1)]):=by (repeat' apply Xb)<;>kernel_rfl
@[go_sem] theorem k2d:tyF pp 27 1 false 24 [some 4] none (some [.slice none 0 0])/\(aO pp 27=some 69)/\tyF pp 33 5 true 120 [some 1,some 1,some 4,some 4,some 1] none (some [.slice none 0 0,.slice none 0 0,.slice none 0 0,.slice none 0 0,.slice none 0 0])/\(q0t pp 33 0=some (0,26))/\(q0t pp 33 1=some (4,22))/\(q4f pp 33=some [(0,4),(4,1)])/\tyF pp 34 1 false 8 [none] none (some [.int .i64 0])/\(qz0 pp 34=some .i64)/\tyF pp 37 1 false 24 [some 4] none (some [.slice none 0 0])/\(aO pp 37=some 81)/\tyF pp 44 1 false 24 [some 2] none (some [.slice none 0 0])/\(aO pp 44=some 99)/\tyF pp 46 4 true 48 [none,none,none,some 2] none (some [.int .i64 0,.int .i64 0,.int .i64 0,.slice none 0 0])/\(q0t pp 46 0=some (0,3))/\(q0t pp 46 1=some (1,3))/\(q0t pp 46 2=some (2,2))/\(q0t pp 46 3=some (3,44))/\(q4f pp 46=some [(0,1),(1,1),(2,1),(3,1)])/\(szT pp 48=4)/\(q19 pp 48=true)/\(q6s pp 48=true)/\(q2h pp 48=32)/\(qh6 pp 48=[none,none,none,none])/\(qu7 pp 48=none):=by (repeat' apply Xb)<;>kernel_rfl
@[go_sem] theorem k2c:(q0t pp 48 0=some (0,3))/\(q0t pp 48 1=some (1,3))/\(q0t pp 48 2=some (2,3))/\(q0t pp 48 3=some (3,4))/\(q4f pp 48=some [(0,1),(1,1),(2,1),(3,1)])/\(q1w pp 48=some [.int .i64 0,.int .i64 0,.int .i64 0,.bool false])/\tyF pp 52 1 false 24 [some 1] none (some [.slice none 0 0])/\(aO pp 52=some 4)/\(z4y pp 56=true)/\tyF pp 56 1 false 8 [none] none (some [.pointer none])/\tyF pp 58 5 true 120 [some 1,some 1,some 4,some 4,some 1] none (some [.slice none 0 0,.slice none 0 0,.slice none 0 0,.slice none 0 0,.slice none 0 0])/\(q0t pp 58 0=some (0,26))/\(q0t pp 58 1=some (4,52))/\(q4f pp 58=some [(0,4),(4,1)])/\(z4y pp 60=true)/\tyF pp 60 1 false 8 [none] none (some [.pointer none])/\(Tryz.prog.underlying 61=some (.map 103 104))/\((Tryz.prog.info? 104).bind (·.zero)=some (.pointer none))/\tyF pp 61 1 false 8 [none] none (some [.map none])/\(Tryz.prog.underlying 62=some (.map 3 140))/\((Tryz.prog.info? 140).bind (·.zero)=some (.slice none 0 0))/\tyF pp 62 1 false 8 [none] none (some [.map none])/\(Tryz.prog.underlying 63=some (.map 103 76))/\((Tryz.prog.info? 76).bind (·.zero)=some (.slice none 0 0)):=by (repeat' apply Xb)<;>kernel_rfl
@[go_sem] theorem k2b:tyF pp 63 1 false 8 [none] none (some [.map none])/\tyF pp 65 11 true 168 [some 1,some 1,some 4,some 4,none,none,none,none,none,some 4,none] none (some [.slice none 0 0,.slice none 0 0,.slice none 0 0,.slice none 0 0,.map none,.map none,.map none,.int .i64 0,.int .i64 0,.slice none 0 0,.int .i64 0])/\(q0t pp 65 0=some (0,26))/\(q0t pp 65 1=some (4,61))/\(q0t pp 65 2=some (5,62))/\(q0t pp 65 3=some (6,63))/\(q0t pp 65 4=some (7,3))/\(q0t pp 65 5=some (8,3))/\(q0t pp 65 6=some (9,37))/\(q0t pp 65 7=some (10,34))/\(q4f pp 65=some [(0,4),(4,1),(5,1),(6,1),(7,1),(8,1),(9,1),(10,1)])/\tyF pp 67 2 true 16 [none,none] none (some [.int .i64 0,.int .i64 0])/\(q0t pp 67 0=some (0,2))/\(q0t pp 67 1=some (1,2))/\(q4f pp 67=some [(0,1),(1,1)])/\tyF pp 69 4 true 32 [none,none,none,none] none (some [.int .i64 0,.int .i64 0,.int .i64 0,.int .i64 0])/\(q0t pp 69 0=some (0,3))/\(q0t pp 69 1=some (1,3))/\(q0t pp 69 2=some (2,67))/\(q4f pp 69=some [(0,1),(1,1),(2,2)])/\tyF pp 71 4 true 32 [none,none,none,none] (some (4,3)) (some [.int .i64 0,.int .i64 0,.int .i64 0,.int .i64 0])/\(q4f pp 71=some [(0,1),(1,1),(2,1),(3,1)])/\(szT pp 73=5)/\(q19 pp 73=true)/\(q6s pp 73=true)/\(q2h pp 73=40)/\(qh6 pp 73=[none,none,none,none,none])/\(qu7 pp 73=none)/\(q0t pp 73 0=some (0,3))/\(q0t pp 73 1=some (1,71)):=by (repeat' apply Xb)<;>kernel_rfl
@[go_sem] theorem k2a:(q4f pp 73=some [(0,1),(1,4)])/\(q1w pp 73=some [.int .i64 0,.int .i64 0,.int .i64 0,.int .i64 0,.int .i64 0])/\tyF pp 75 3 true 24 [none,none,none] none (some [.int .i64 0,.int .i64 0,.int .i64 0])/\(q0t pp 75 0=some (0,67))/\(q0t pp 75 1=some (2,3))/\(q4f pp 75=some [(0,2),(2,1)])/\tyF pp 76 1 false 24 [some 3] none (some [.slice none 0 0])/\(aO pp 76=some 75)/\tyF pp 81 4 true 32 [none,none,none,none] none (some [.int .i64 0,.int .i64 0,.int .i64 0,.int .i64 0])/\(q0t pp 81 0=some (0,3))/\(q0t pp 81 1=some (1,3))/\(q0t pp 81 2=some (2,67))/\(q4f pp 81=some [(0,1),(1,1),(2,2)])/\tyF pp 83 1 false 8 [none] none (some [.nilFunc])/\tyF pp 87 16 true 128 [none,none,none,none,none,none,none,none,none,none,none,none,none,none,none,none] (some (16,3)) (some [.int .i64 0,.int .i64 0,.int .i64 0,.int .i64 0,.int .i64 0,.int .i64 0,.int .i64 0,.int .i64 0,.int .i64 0,.int .i64 0,.int .i64 0,.int .i64 0,.int .i64 0,.int .i64 0,.int .i64 0,.int .i64 0])/\(q4f pp 87=some [(0,1),(1,1),(2,1),(3,1),(4,1),(5,1),(6,1),(7,1),(8,1),(9,1),(10,1),(11,1),(12,1),(13,1),(14,1),(15,1)])/\tyF pp 94 1 false 8 [none] none (some [.nilFunc])/\(szT pp 99=2)/\(q19 pp 99=true)/\(q6s pp 99=true)/\(q2h pp 99=16)/\(qh6 pp 99=[none,none])/\(qu7 pp 99=none)/\(q0t pp 99 0=some (0,3)):=by (repeat' apply Xb)<;>kernel_rfl
@[go_sem] theorem k29:(q0t pp 99 1=some (1,2))/\(q4f pp 99=some [(0,1),(1,1)])/\(q1w pp 99=some [.int .i64 0,.int .i64 0])/\tyF pp 101 1 false 8 [none] none (some [.nilFunc])/\tyF pp 103 6 true 48 [none,none,none,none,none,none] none (some [.int .i64 0,.int .i64 0,.int .i64 0,.int .i64 0,.int .i64 0,.int .i64 0])/\(q0t pp 103 0=some (0,3))/\(q0t pp 103 1=some (1,73))/\(q4f pp 103=some [(0,1),(1,5)])/\(z4y pp 104=true)/\tyF pp 104 1 false 8 [none] none (some [.pointer none])/\tyF pp 105 2 true 48 [some 3,some 3] (some (2,76)) (some [.slice none 0 0,.slice none 0 0])/\(q4f pp 105=some [(0,1),(1,1)])/\tyF pp 109 1 false 8 [none] none (some [.int .u64 0])/\(qz0 pp 109=some .u64)/\tyF pp 120 1 false 8 [none] none (some [.nilFunc])/\tyF pp 135 1 false 4 [none] none (some [.int .u32 0])/\(qz0 pp 135=some .u32)/\(szT pp 137=1):=by (repeat' apply Xb)<;>kernel_rfl
@[go_sem] theorem k1z:(q19 pp 137=true)/\(q6s pp 137=false)/\(q2h pp 137=8)/\(qz0 pp 137=some .u64)/\(qh6 pp 137=[none])/\(qu7 pp 137=none)/\(q1w pp 137=some [.int .u64 0])/\tyF pp 139 1 false 24 [some 1] none (some [.slice none 0 0])/\(aO pp 139=some 76)/\tyF pp 140 1 false 24 [some 6] none (some [.slice none 0 0])/\(aO pp 140=some 142)/\tyF pp 142 6 true 48 [none,none,none,none,none,none] none (some [.int .i64 0,.int .i64 0,.int .i64 0,.int .i64 0,.int .i64 0,.int .i64 0])/\(q0t pp 142 0=some (0,73))/\(q0t pp 142 1=some (5,3))/\(q4f pp 142=some [(0,5),(5,1)])/\tyF pp 146 1 false 24 [some 2] none (some [.slice none 0 0])/\(aO pp 146=some 67)/\tyF pp 154 1 false 8 [none] none (some [.nilFunc])/\(z4y pp 167=true)/\tyF pp 167 1 false 8 [none] none (some [.pointer none])/\(szT pp 169=2)/\(q19 pp 169=true)/\(q6s pp 169=true)/\(q2h pp 169=32):=by (repeat' apply Xb)<;>kernel_rfl
@[go_sem] theorem k1y:(qh6 pp 169=[some 3,none])/\(qu7 pp 169=none)/\(q0t pp 169 0=some (0,76))/\(q0t pp 169 1=some (1,3))/\(q4f pp 169=some [(0,1),(1,1)])/\(q1w pp 169=some [.slice none 0 0,.int .i64 0])/\tyF pp 180 1 false 8 [none] none (some [.nilFunc])/\tyF pp 188 1 false 8 [none] none (some [.nilFunc])/\tyF pp 190 2 true 16 [none,none] none (some [.int .i64 0,.int .u64 0])/\(q0t pp 190 0=some (0,2))/\(q0t pp 190 1=some (1,137))/\(q4f pp 190=some [(0,1),(1,1)])/\(z4y pp 206=true)/\tyF pp 206 1 false 8 [none] none (some [.pointer none])/\tyF pp 207 1 false 24 [some 1] none (some [.slice none 0 0])/\(aO pp 207=some 2)/\tyF pp 209 6 true 80 [none,none,some 1,some 2,none,none] none (some [.int .i64 0,.int .i64 0,.slice none 0 0,.slice none 0 0,.int .i64 0,.int .i64 0])/\(q0t pp 209 0=some (0,67))/\(q0t pp 209 1=some (2,207))/\(q0t pp 209 2=some (3,146))/\(q0t pp 209 3=some (4,3))/\(q0t pp 209 4=some (5,3))/\(q4f pp 209=some [(0,2),(2,1),(3,1),(4,1),(5,1)])/\(q02 pp 3=true):=by (repeat' apply Xb)<;>kernel_rfl
@[go_sem] theorem k1x:(q02 pp 4=true)/\(q02 pp 5=true)/\(q02 pp 6=true)/\(q02 pp 7=true)/\(q02 pp 8=true)/\(q02 pp 9=true)/\(q02 pp 10=true)/\(q02 pp 11=true)/\(q02 pp 12=true)/\(q02 pp 13=true)/\(q02 pp 14=true)/\(q02 pp 15=true)/\(q02 pp 16=true)/\(q02 pp 17=true)/\(q02 pp 18=true)/\(q02 pp 19=true)/\(q02 pp 20=true)/\(q02 pp 21=true)/\(q02 pp 22=true)/\(q02 pp 23=true)/\(q02 pp 24=true)/\(q02 pp 25=true)/\(q02 pp 26=true)/\(q02 pp 27=true)/\(q02 pp 28=true)/\(q02 pp 29=true)/\(q02 pp 30=true)/\(q02 pp 31=true)/\(q02 pp 32=true)/\(q02 pp 33=true)/\(q02 pp 34=true)/\(q02 pp 35=true)/\(q02 pp 36=true)/\(q02 pp 37=true)/\(q02 pp 38=true)/\(q02 pp 39=true)/\(q02 pp 40=true)/\(q02 pp 41=true)/\(q02 pp 42=true)/\(q02 pp 43=true)/\(q02 pp 44=true)/\(q02 pp 45=true)/\(q02 pp 46=true)/\(q02 pp 47=true)/\(q02 pp 48=true)/\(q02 pp 49=true)/\(q02 pp 50=true)/\(q02 pp 53=true)/\(q02 pp 54=true)/\(q02 pp 55=true)/\(q02 pp 56=true)/\(q02 pp 57=true)/\(q02 pp 58=true)/\(q02 pp 59=true)/\(q02 pp 60=true)/\(q02 pp 61=true)/\(q02 pp 62=true)/\(q02 pp 63=true)/\(q02 pp 64=true)/\(q02 pp 65=true):=by (repeat' apply Xb)<;>kernel_rfl
@[go_sem] theorem k1w:(q02 pp 66=true)/\(q02 pp 67=true)/\(q02 pp 68=true)/\(q02 pp 69=true)/\(q02 pp 70=true)/\(q02 pp 71=true)/\(q02 pp 72=true)/\(q02 pp 73=true)/\(q02 pp 74=true)/\(q02 pp 75=true)/\(q02 pp 87=true)/\(q02 pp 88=true)/\(q02 pp 89=true)/\(q02 pp 90=true)/\(q02 pp 91=true)/\(q02 pp 92=true)/\(q02 pp 93=true)/\(q02 pp 94=true)/\(q02 pp 95=true)/\(q02 pp 96=true)/\(q02 pp 97=true)/\(q02 pp 98=true)/\(q02 pp 99=true)/\(q02 pp 100=true)/\(q02 pp 101=true)/\(q02 pp 102=true)/\(q02 pp 103=true)/\(q02 pp 104=true)/\(q02 pp 105=true)/\(q02 pp 111=true)/\(q02 pp 112=true)/\(q02 pp 113=true)/\(q02 pp 114=true)/\(q02 pp 115=true)/\(q02 pp 116=true)/\(q02 pp 117=true)/\(q02 pp 118=true)/\(q02 pp 119=true)/\(q02 pp 120=true)/\(q02 pp 121=true)/\(q02 pp 122=true)/\(q02 pp 123=true)/\(q02 pp 124=true)/\(q02 pp 125=true)/\(q02 pp 126=true)/\(q02 pp 127=true)/\(q02 pp 128=true)/\(q02 pp 129=true)/\(q02 pp 130=true)/\(q02 pp 132=true)/\(q02 pp 133=true)/\(q02 pp 134=true)/\(q02 pp 135=true)/\(q02 pp 136=true)/\(q02 pp 137=true)/\(q02 pp 138=true)/\(q02 pp 139=true)/\(q02 pp 140=true)/\(q02 pp 141=true)/\(q02 pp 142=true):=by (repeat' apply Xb)<;>kernel_rfl
@[go_sem] theorem k1v:(q02 pp 143=true)/\(q02 pp 144=true)/\(q02 pp 147=true)/\(q02 pp 148=true)/\(q02 pp 149=true)/\(q02 pp 150=true)/\(q02 pp 151=true)/\(q02 pp 152=true)/\(q02 pp 154=true)/\(q02 pp 158=true)/\(q02 pp 159=true)/\(q02 pp 160=true)/\(q02 pp 161=true)/\(q02 pp 162=true)/\(q02 pp 163=true)/\(q02 pp 164=true):=by (repeat' apply Xb)<;>kernel_rfl
theorem mixed:Tryz.prog.follows .mixedOrders=true:=by kernel_rfl
structure bA(α:Type) where
 a0:α
 a1:α
instance {α:Type}[Row α]:Row (bA α):=⟨Row.sz α+Row.sz α,fun x=>Row.row x.a0++Row.row x.a1⟩
instance {α:Type}[Dat α]:Dat (bA α) where
 ct:=Dat.ct α++(Dat.ct α)
 ok x:=Dat.ok x.a0/\Dat.ok x.a1
 len:=by simp only[Xd,Dat.len];(try simp only[Row.sz]);(try omega)
 of G h:=by
  obtain⟨b0,r0,rfl,I,g0⟩:=q2r h;obtain⟨T,rfl,k0⟩:=Dat.of (α:=α) _ I;obtain⟨W,rfl,Z⟩:=Dat.of (α:=α) _ g0;exact⟨⟨T,W⟩,by simp only[Row.row,Xo],k0,Z⟩
structure cv(α:Type) where
 a0:α
 a1:α
 a2:α
 a3:α
instance {α:Type}[Row α]:Row (cv α):=⟨Row.sz α+Row.sz α+Row.sz α+Row.sz α,fun x=>Row.row x.a0++Row.row x.a1++Row.row x.a2++Row.row x.a3⟩
instance {α:Type}[Dat α]:Dat (cv α) where
 ct:=Dat.ct α++(Dat.ct α++(Dat.ct α++(Dat.ct α)))
 ok x:=Dat.ok x.a0/\Dat.ok x.a1/\Dat.ok x.a2/\Dat.ok x.a3
 len:=by simp only[Xd,Dat.len];(try simp only[Row.sz]);(try omega)
 of G h:=by
  obtain⟨b0,r0,rfl,I,g0⟩:=q2r h;obtain⟨b1,r1,rfl,T,g1⟩:=q2r g0;obtain⟨b2,r2,rfl,W,g2⟩:=q2r g1;obtain⟨Z,rfl,k0⟩:=Dat.of (α:=α) _ I;obtain⟨x1,rfl,k1⟩:=Dat.of (α:=α) _ T;obtain⟨x2,rfl,k2⟩:=Dat.of (α:=α) _ W;obtain⟨x3,rfl,k3⟩:=Dat.of (α:=α) _ g2;exact⟨⟨Z,x1,x2,x3⟩,by simp only[Row.row,Xo],k0,k1,k2,k3⟩
structure dm where
 n:Int
instance:Row dm:=⟨1,fun x=>[.v (.int .u64 x.n)]⟩
@[go_sem] theorem k2j(x:dm):Row.row x=[.v (.int .u64 x.n)]:=rfl
structure bg where
 Op:Int
 N:Int
instance:Row bg:=⟨2,fun x=>[.v (.int .i64 x.Op),.v (.int .i64 x.N)]⟩
@[go_sem] theorem k2m(x:bg):Row.row x=[.v (.int .i64 x.Op),.v (.int .i64 x.N)]:=rfl
@[go_sem] theorem k32:Row.sz bg=2:=rfl
instance:Dat bg where
 ct:=Dat.ct Int++(Dat.ct Int)
 ok x:=Dat.ok x.Op/\Dat.ok x.N
 len:=rfl
 of G h:=by
  obtain⟨b0,r0,rfl,I,g0⟩:=q2r h;obtain⟨T,rfl,k0⟩:=Dat.of (α:=Int) _ I;obtain⟨W,rfl,Z⟩:=Dat.of (α:=Int) _ g0;exact⟨⟨T,W⟩,rfl,k0,Z⟩
structure aH where
 Kind:Int
 Scope:Int
 Arg:Int
 Prog:List bg
instance:Row aH:=⟨4,fun x=>[.v (.int .i64 x.Kind),.v (.int .i64 x.Scope),.v (.int .i64 x.Arg),.sl 2 (enc x.Prog)]⟩
@[go_sem] theorem k1q(x:aH):Row.row x=[.v (.int .i64 x.Kind),.v (.int .i64 x.Scope),.v (.int .i64 x.Arg),.sl 2 (enc x.Prog)]:=rfl
@[go_sem] theorem k2f:Row.sz aH=4:=rfl
instance:Dat aH where
 ct:=Dat.ct Int++(Dat.ct Int++(Dat.ct Int++(Dat.ct (List bg))))
 ok x:=Dat.ok x.Kind/\Dat.ok x.Scope/\Dat.ok x.Arg/\Dat.ok x.Prog
 len:=rfl
 of G h:=by
  obtain⟨b0,r0,rfl,I,g0⟩:=q2r h;obtain⟨b1,r1,rfl,T,g1⟩:=q2r g0;obtain⟨b2,r2,rfl,W,g2⟩:=q2r g1;obtain⟨Z,rfl,k0⟩:=Dat.of (α:=Int) _ I;obtain⟨x1,rfl,k1⟩:=Dat.of (α:=Int) _ T;obtain⟨x2,rfl,k2⟩:=Dat.of (α:=Int) _ W;obtain⟨x3,rfl,k3⟩:=Dat.of (α:=List bg) _ g2;exact⟨⟨Z,x1,x2,x3⟩,rfl,k0,k1,k2,k3⟩
structure aC where
 aL:Int
 To:Int
 Port:Int
 aS:Bool
instance:Row aC:=⟨4,fun x=>[.v (.int .i64 x.aL),.v (.int .i64 x.To),.v (.int .i64 x.Port),.v (.bool x.aS)]⟩
@[go_sem] theorem k1s(x:aC):Row.row x=[.v (.int .i64 x.aL),.v (.int .i64 x.To),.v (.int .i64 x.Port),.v (.bool x.aS)]:=rfl
@[go_sem] theorem k2i:Row.sz aC=4:=rfl
instance:Dat aC where
 ct:=Dat.ct Int++(Dat.ct Int++(Dat.ct Int++(Dat.ct Bool)))
 ok x:=Dat.ok x.aL/\Dat.ok x.To/\Dat.ok x.Port/\Dat.ok x.aS
 len:=rfl
 of G h:=by
  obtain⟨b0,r0,rfl,I,g0⟩:=q2r h;obtain⟨b1,r1,rfl,T,g1⟩:=q2r g0;obtain⟨b2,r2,rfl,W,g2⟩:=q2r g1;obtain⟨Z,rfl,k0⟩:=Dat.of (α:=Int) _ I;obtain⟨x1,rfl,k1⟩:=Dat.of (α:=Int) _ T;obtain⟨x2,rfl,k2⟩:=Dat.of (α:=Int) _ W;obtain⟨x3,rfl,k3⟩:=Dat.of (α:=Bool) _ g2;exact⟨⟨Z,x1,x2,x3⟩,rfl,k0,k1,k2,k3⟩
structure aa where
 af:List Int
 aG:List Int
 ae:List aH
 aw:List aC
instance:Row aa:=⟨4,fun x=>[.sl 1 (enc x.af),.sl 1 (enc x.aG),.sl 4 (enc x.ae),.sl 4 (enc x.aw)]⟩
@[go_sem] theorem k0n(x:aa):Row.row x=[.sl 1 (enc x.af),.sl 1 (enc x.aG),.sl 4 (enc x.ae),.sl 4 (enc x.aw)]:=rfl
@[go_sem] theorem k1m:Row.sz aa=4:=rfl
instance:Dat aa where
 ct:=Dat.ct (List Int)++(Dat.ct (List Int)++(Dat.ct (List aH)++(Dat.ct (List aC))))
 ok x:=Dat.ok x.af/\Dat.ok x.aG/\Dat.ok x.ae/\Dat.ok x.aw
 len:=rfl
 of G h:=by
  obtain⟨b0,r0,rfl,I,g0⟩:=q2r h;obtain⟨b1,r1,rfl,T,g1⟩:=q2r g0;obtain⟨b2,r2,rfl,W,g2⟩:=q2r g1;obtain⟨Z,rfl,k0⟩:=Dat.of (α:=List Int) _ I;obtain⟨x1,rfl,k1⟩:=Dat.of (α:=List Int) _ T;obtain⟨x2,rfl,k2⟩:=Dat.of (α:=List aH) _ W;obtain⟨x3,rfl,k3⟩:=Dat.of (α:=List aC) _ g2;exact⟨⟨Z,x1,x2,x3⟩,rfl,k0,k1,k2,k3⟩
structure az where
 g:aa
 gone:List Bool
instance:Row az:=⟨5,fun x=>[.sl 1 (enc x.g.af),.sl 1 (enc x.g.aG),.sl 4 (enc x.g.ae),.sl 4 (enc x.g.aw),.sl 1 (enc x.gone)]⟩
@[go_sem] theorem jp8(x:az):Row.row x=[.sl 1 (enc x.g.af),.sl 1 (enc x.g.aG),.sl 4 (enc x.g.ae),.sl 4 (enc x.g.aw),.sl 1 (enc x.gone)]:=rfl
@[go_sem] theorem jv1:Row.sz az=5:=rfl
structure b7 where
 bh:aa
 Now:List Int
instance:Row b7:=⟨5,fun x=>[.sl 1 (enc x.bh.af),.sl 1 (enc x.bh.aG),.sl 4 (enc x.bh.ae),.sl 4 (enc x.bh.aw),.sl 1 (enc x.Now)]⟩
@[go_sem] theorem k0o(x:b7):Row.row x=[.sl 1 (enc x.bh.af),.sl 1 (enc x.bh.aG),.sl 4 (enc x.bh.ae),.sl 4 (enc x.bh.aw),.sl 1 (enc x.Now)]:=rfl
@[go_sem] theorem k1n:Row.sz b7=5:=rfl
structure aP where
 K:Int
 V:Int
instance:Row aP:=⟨2,fun x=>[.v (.int .i64 x.K),.v (.int .i64 x.V)]⟩
@[go_sem] theorem k2k(x:aP):Row.row x=[.v (.int .i64 x.K),.v (.int .i64 x.V)]:=rfl
@[go_sem] theorem k30:Row.sz aP=2:=rfl
instance:Dat aP where
 ct:=Dat.ct Int++(Dat.ct Int)
 ok x:=Dat.ok x.K/\Dat.ok x.V
 len:=rfl
 of G h:=by
  obtain⟨b0,r0,rfl,I,g0⟩:=q2r h;obtain⟨T,rfl,k0⟩:=Dat.of (α:=Int) _ I;obtain⟨W,rfl,Z⟩:=Dat.of (α:=Int) _ g0;exact⟨⟨T,W⟩,rfl,k0,Z⟩
structure aN where
 Node:Int
 aQ:Int
 Rec:aP
instance:Row aN:=⟨4,fun x=>[.v (.int .i64 x.Node),.v (.int .i64 x.aQ),.v (.int .i64 x.Rec.K),.v (.int .i64 x.Rec.V)]⟩
@[go_sem] theorem k1r(x:aN):Row.row x=[.v (.int .i64 x.Node),.v (.int .i64 x.aQ),.v (.int .i64 x.Rec.K),.v (.int .i64 x.Rec.V)]:=rfl
@[go_sem] theorem k2h:Row.sz aN=4:=rfl
instance:Dat aN where
 ct:=Dat.ct Int++(Dat.ct Int++(Dat.ct aP))
 ok x:=Dat.ok x.Node/\Dat.ok x.aQ/\Dat.ok x.Rec
 len:=rfl
 of G h:=by
  obtain⟨b0,r0,rfl,I,g0⟩:=q2r h;obtain⟨b1,r1,rfl,T,g1⟩:=q2r g0;obtain⟨W,rfl,k0⟩:=Dat.of (α:=Int) _ I;obtain⟨Z,rfl,k1⟩:=Dat.of (α:=Int) _ T;obtain⟨x2,rfl,k2⟩:=Dat.of (α:=aP) _ g1;exact⟨⟨W,Z,x2⟩,rfl,k0,k1,k2⟩
structure a8 where
 Rec:aP
 N:Int
instance:Row a8:=⟨3,fun x=>[.v (.int .i64 x.Rec.K),.v (.int .i64 x.Rec.V),.v (.int .i64 x.N)]⟩
@[go_sem] theorem j8b(x:a8):Row.row x=[.v (.int .i64 x.Rec.K),.v (.int .i64 x.Rec.V),.v (.int .i64 x.N)]:=rfl
@[go_sem] theorem k2g:Row.sz a8=3:=rfl
structure ay where
 D:Int
 C:cv Int
instance:Row ay:=⟨5,fun x=>[.v (.int .i64 x.D),.v (.int .i64 x.C.a0),.v (.int .i64 x.C.a1),.v (.int .i64 x.C.a2),.v (.int .i64 x.C.a3)]⟩
@[go_sem] theorem k1p(x:ay):Row.row x=[.v (.int .i64 x.D),.v (.int .i64 x.C.a0),.v (.int .i64 x.C.a1),.v (.int .i64 x.C.a2),.v (.int .i64 x.C.a3)]:=rfl
@[go_sem] theorem k2e:Row.sz ay=5:=rfl
structure ah where
 node:Int
 time:ay
instance:Row ah:=⟨6,fun x=>[.v (.int .i64 x.node),.v (.int .i64 x.time.D),.v (.int .i64 x.time.C.a0),.v (.int .i64 x.time.C.a1),.v (.int .i64 x.time.C.a2),.v (.int .i64 x.time.C.a3)]⟩
@[go_sem] theorem jk1(x:ah):Row.row x=[.v (.int .i64 x.node),.v (.int .i64 x.time.D),.v (.int .i64 x.time.C.a0),.v (.int .i64 x.time.C.a1),.v (.int .i64 x.time.C.a2),.v (.int .i64 x.time.C.a3)]:=rfl
@[go_sem] theorem jo4:Row.sz ah=6:=rfl
structure aF where
 Time:ay
 N:Int
instance:Row aF:=⟨6,fun x=>[.v (.int .i64 x.Time.D),.v (.int .i64 x.Time.C.a0),.v (.int .i64 x.Time.C.a1),.v (.int .i64 x.Time.C.a2),.v (.int .i64 x.Time.C.a3),.v (.int .i64 x.N)]⟩
@[go_sem] theorem k0p(x:aF):Row.row x=[.v (.int .i64 x.Time.D),.v (.int .i64 x.Time.C.a0),.v (.int .i64 x.Time.C.a1),.v (.int .i64 x.Time.C.a2),.v (.int .i64 x.Time.C.a3),.v (.int .i64 x.N)]:=rfl
@[go_sem] theorem k1o:Row.sz aF=6:=rfl
structure aD where
 Node:Int
 aQ:Int
 Rec:aP
instance:Row aD:=⟨4,fun x=>[.v (.int .i64 x.Node),.v (.int .i64 x.aQ),.v (.int .i64 x.Rec.K),.v (.int .i64 x.Rec.V)]⟩
@[go_sem] theorem k2l(x:aD):Row.row x=[.v (.int .i64 x.Node),.v (.int .i64 x.aQ),.v (.int .i64 x.Rec.K),.v (.int .i64 x.Rec.V)]:=rfl
@[go_sem] theorem k31:Row.sz aD=4:=rfl
structure a7 where
 g:aa
 ins:List ah×List (bA (List a8))
 aK:List Int×List (List aF)
 aJ:List ah×List (List a8)
 work:Int
 aB:Int
 outs:List aD
 e:Int
structure aA where
 r:aP
 stack:List Int
 out:List aP
 at_:Int
 bad:Int
instance:Row aA:=⟨6,fun x=>[.v (.int .i64 x.r.K),.v (.int .i64 x.r.V),.sl 1 (enc x.stack),.sl 2 (enc x.out),.v (.int .i64 x.at_),.v (.int .i64 x.bad)]⟩
@[go_sem] theorem ja5(x:aA):Row.row x=[.v (.int .i64 x.r.K),.v (.int .i64 x.r.V),.sl 1 (enc x.stack),.sl 2 (enc x.out),.v (.int .i64 x.at_),.v (.int .i64 x.bad)]:=rfl
@[go_sem] theorem jc6:Row.sz aA=6:=rfl
structure ax where
 out:List a8
 many:Int
instance:Row ax:=⟨2,fun x=>[.sl 3 (enc x.out),.v (.int .i64 x.many)]⟩
@[go_sem] theorem jp7(x:ax):Row.row x=[.sl 3 (enc x.out),.v (.int .i64 x.many)]:=rfl
@[go_sem] theorem jv0:Row.sz ax=2:=rfl
structure aT where
 hi:Int
 lo:dm
instance:Row aT:=⟨2,fun x=>[.v (.int .i64 x.hi),.v (.int .u64 x.lo.n)]⟩
@[go_sem] theorem jv2(x:aT):Row.row x=[.v (.int .i64 x.hi),.v (.int .u64 x.lo.n)]:=rfl
@[go_sem] theorem jw5:Row.sz aT=2:=rfl
instance:Key ah where
 kv x:=.agg ⟨[.int .i64 x.node,.int .i64 x.time.D,.int .i64 x.time.C.a0,.int .i64 x.time.C.a1,.int .i64 x.time.C.a2,.int .i64 x.time.C.a3]⟩
 keq a b:=(a.node==b.node)&&(a.time.D==b.time.D)&&(a.time.C.a0==b.time.C.a0)&&(a.time.C.a1==b.time.C.a1)&&(a.time.C.a2==b.time.C.a2)&&(a.time.C.a3==b.time.C.a3)
 bn:=by
  intro a b;obtain⟨a1,⟨a2,⟨a3,a4,a5,G⟩⟩⟩:=a;obtain⟨I,⟨T,⟨W,Z,b5,b6⟩⟩⟩:=b
  constructor
  . intro h;simp only[Xp,beq_iff_eq]at h;simp[h]
  intro h;cases h;simp
 okb a:=(Key.okb a.node)&&(Key.okb a.time.D)&&(Key.okb a.time.C.a0)&&(Key.okb a.time.C.a1)&&(Key.okb a.time.C.a2)&&(Key.okb a.time.C.a3)
 inj:=by
  intro a b h;obtain⟨a1,⟨a2,⟨a3,a4,a5,G⟩⟩⟩:=a;obtain⟨I,⟨T,⟨W,Z,b5,b6⟩⟩⟩:=b;simp at h;simp[h]
theorem jg0:laidOutB pp=true:=by kernel_rfl
theorem z88:Go.Maps.Keyed pp 3:=Go.Maps.int_keyed (q:=.i64) (by kernel_rfl)
theorem j94(p:Int)(h:Key.okb p=true):∃l,keyOf pp 3 (Key.kv p)=some l:=cF (by kernel_rfl) h
theorem q42:Go.Maps.Keyed pp 103:=Go.Maps.Keyed.of_law (deep_law_laid jg0 (m:=6) (by omega) (of_decide_eq_true (by kernel_rfl)) (by kernel_rfl) (by kernel_rfl))
theorem z5b(p:ah)(h:Key.okb p=true):∃l,keyOf pp 103 (Key.kv p)=some l:=by
 obtain⟨a1,⟨a2,⟨a3,a4,a5,G⟩⟩⟩:=p;replace h:(Key.okb a1&&Key.okb a2&&Key.okb a3&&Key.okb a4&&Key.okb a5&&Key.okb G)=true:=h;simp only[Xp]at h;obtain⟨⟨⟨⟨⟨I,T⟩,W⟩,Z⟩,h5⟩,h6⟩:=h;exact j6r (by rw[Tryz.underlying103]) (by kernel_rfl) (by kernel_rfl) (by kernel_rfl) (by kernel_rfl) (Xh.2 ⟨z4i I,Xh.2 ⟨z4i T,Xh.2 ⟨z4i W,Xh.2 ⟨z4i Z,Xh.2 ⟨z4i h5,Xh.2 ⟨z4i h6,fun _ h=>nomatch h⟩⟩⟩⟩⟩⟩)
@[go_sem] theorem k3a:EqT pp 81 [some .i64,some .i64,some .i64,some .i64]:=k0k (by kernel_rfl) (by kernel_rfl) (by kernel_rfl)
attribute [go_sem] Tryz.ntmps3 Tryz.results3 Tryz.ntmps4 Tryz.results4 Tryz.ntmps5 Tryz.results5 Tryz.ntmps6 Tryz.results6 Tryz.ntmps7 Tryz.results7 Tryz.ntmps8 Tryz.results8 Tryz.ntmps9 Tryz.results9 Tryz.ntmps10 Tryz.results10 Tryz.ntmps11 Tryz.results11 Tryz.ntmps12 Tryz.results12 Tryz.ntmps13 Tryz.results13 Tryz.ntmps14 Tryz.results14 Tryz.ntmps15 Tryz.results15 Tryz.ntmps16 Tryz.results16 Tryz.ntmps17 Tryz.results17 Tryz.ntmps18 Tryz.results18 Tryz.ntmps19 Tryz.results19 Tryz.ntmps20 Tryz.results20 Tryz.ntmps21 Tryz.results21 Tryz.ntmps22 Tryz.results22 Tryz.ntmps23 Tryz.results23 Tryz.ntmps24 Tryz.results24 Tryz.ntmps25 Tryz.results25 Tryz.ntmps26 Tryz.results26 Tryz.ntmps27 Tryz.results27 Tryz.ntmps28 Tryz.results28 Tryz.ntmps29 Tryz.results29 Tryz.ntmps30 Tryz.results30 Tryz.ntmps31 Tryz.results31 Tryz.ntmps32 Tryz.results32 Tryz.ntmps33 Tryz.results33 Tryz.ntmps34 Tryz.results34 Tryz.ntmps35 Tryz.results35 Tryz.ntmps36 Tryz.results36 Tryz.ntmps37 Tryz.results37 Tryz.ntmps38 Tryz.results38 Tryz.ntmps39 Tryz.results39 Tryz.ntmps40 Tryz.results40 Tryz.ntmps41 Tryz.results41 Tryz.ntmps42 Tryz.results42 Tryz.ntmps43 Tryz.results43 Tryz.ntmps44 Tryz.results44 Tryz.ntmps45 Tryz.results45 Tryz.ntmps46 Tryz.results46 Tryz.ntmps47 Tryz.results47 Tryz.ntmps48 Tryz.results48 Tryz.ntmps49 Tryz.results49 Tryz.ntmps50 Tryz.results50 Tryz.ntmps53 Tryz.results53 Tryz.ntmps54 Tryz.results54 Tryz.ntmps55 Tryz.results55 Tryz.ntmps56 Tryz.results56 Tryz.ntmps57 Tryz.results57 Tryz.ntmps58 Tryz.results58 Tryz.ntmps59 Tryz.results59 Tryz.ntmps60 Tryz.results60 Tryz.ntmps61 Tryz.results61 Tryz.ntmps62 Tryz.results62 Tryz.ntmps63 Tryz.results63 Tryz.ntmps64 Tryz.results64 Tryz.ntmps65 Tryz.results65 Tryz.ntmps66 Tryz.results66 Tryz.ntmps67 Tryz.results67 Tryz.ntmps68 Tryz.results68 Tryz.ntmps69 Tryz.results69 Tryz.ntmps70 Tryz.results70 Tryz.ntmps71 Tryz.results71 Tryz.ntmps72 Tryz.results72 Tryz.ntmps73 Tryz.results73 Tryz.ntmps74 Tryz.results74 Tryz.ntmps75 Tryz.results75 Tryz.ntmps87 Tryz.results87 Tryz.ntmps88 Tryz.results88 Tryz.ntmps89 Tryz.results89 Tryz.ntmps90 Tryz.results90 Tryz.ntmps91 Tryz.results91 Tryz.ntmps92 Tryz.results92 Tryz.ntmps93 Tryz.results93 Tryz.ntmps94 Tryz.results94 Tryz.ntmps95 Tryz.results95 Tryz.ntmps96 Tryz.results96 Tryz.ntmps97 Tryz.results97 Tryz.ntmps98 Tryz.results98 Tryz.ntmps99 Tryz.results99 Tryz.ntmps100 Tryz.results100 Tryz.ntmps101 Tryz.results101 Tryz.ntmps102 Tryz.results102 Tryz.ntmps103 Tryz.results103 Tryz.ntmps104 Tryz.results104 Tryz.ntmps105 Tryz.results105 Tryz.ntmps111 Tryz.results111 Tryz.ntmps112 Tryz.results112 Tryz.ntmps113 Tryz.results113 Tryz.ntmps114 Tryz.results114 Tryz.ntmps115 Tryz.results115 Tryz.ntmps116 Tryz.results116 Tryz.ntmps117 Tryz.results117 Tryz.ntmps118 Tryz.results118 Tryz.ntmps119 Tryz.results119 Tryz.ntmps120 Tryz.results120 Tryz.ntmps121 Tryz.results121 Tryz.ntmps122 Tryz.results122 Tryz.ntmps123 Tryz.results123 Tryz.ntmps124 Tryz.results124 Tryz.ntmps125 Tryz.results125 Tryz.ntmps126 Tryz.results126 Tryz.ntmps127 Tryz.results127 Tryz.ntmps128 Tryz.results128 Tryz.ntmps129 Tryz.results129 Tryz.ntmps130 Tryz.results130 Tryz.ntmps132 Tryz.results132 Tryz.ntmps133 Tryz.results133 Tryz.ntmps134 Tryz.results134 Tryz.ntmps135 Tryz.results135 Tryz.ntmps136 Tryz.results136 Tryz.ntmps137 Tryz.results137 Tryz.ntmps138 Tryz.results138 Tryz.ntmps139 Tryz.results139 Tryz.ntmps140 Tryz.results140 Tryz.ntmps141 Tryz.results141 Tryz.ntmps142 Tryz.results142 Tryz.ntmps143 Tryz.results143 Tryz.ntmps144 Tryz.results144 Tryz.ntmps147 Tryz.results147 Tryz.ntmps148 Tryz.results148 Tryz.ntmps149 Tryz.results149 Tryz.ntmps150 Tryz.results150 Tryz.ntmps151 Tryz.results151 Tryz.ntmps152 Tryz.results152 Tryz.ntmps154 Tryz.results154 Tryz.ntmps158 Tryz.results158 Tryz.ntmps159 Tryz.results159 Tryz.ntmps160 Tryz.results160 Tryz.ntmps161 Tryz.results161 Tryz.ntmps162 Tryz.results162 Tryz.ntmps163 Tryz.results163 Tryz.ntmps164 Tryz.results164
def qf3(W:aa)(T:Int×(List Int)->Option (List Int)):Int×(List Int)->Option (List Int):=
 fun (G,I)=>
 (if (((decide (0<=G))&&(decide (G<(W.af.length:Int))))&&(decide ((I.length:Int)<10)))=true then u7 ((Xi ([G]:List Int)+I.length)*8<=140737488355328) (
 q9 (idx W.af G) (fun Z=>
 T (Z,(([G]:List Int)++I))))
 else some I)
def q44(G:aa)(I:Int):Option (List Int):=
 d9 (qf3 G) rounds (I,[])
theorem q7z(I:aa)(Z:Int)(r:List Int)(h:q44 I Z=some r):ba pp 12 [.agg (Row.row I),.v (.int .i64 Z)] [] 0 (.osl 0 1 (0) (r.length)) [(0,.arr 1 (enc r))] 1:=by
 refine dtI Tryz.func12 rfl ?_;rw[q44]at h;have F:=trivial;refine sM ?_;refine sM ?_;refine jg fun _ Q3=>?_;refine z8 fun _ Q4=>?_;refine q0e h [2] (fun x=>([(1,.v (.int .i64 x.1)),(5,.osl 1 1 (0) (x.2.length))],[(0,.box (Row.row I)),(1,.arr 1 (enc x.2))])) 2 ?_;rintro ak ⟨G,T⟩ h _ Q5;rw[qf3]at h;refine sg fun _ Q6=>?_;refine sM ?_;refine sB h (fun _ h=>?_) fun _ h=>?_
 .
  refine y7 (q8 Q6 (z8 fun _ Q8=>?_));refine sg fun _ Q9=>?_;have aj:[[.v (.int .i64 G)]]=enc ([G]:List Int):=by rfl
  obtain⟨W,h⟩:=q06 h;have F:=Xb F W;simp only[Xf,Xg,Xj,Xd]at W;have a6:[[.v (.int .i64 G)]]++enc T=enc (([G]:List Int)++T):=by exact (q2x ([G]:List Int) T).symm
  simp only[go_sem,W,a6];refine Xb (by (intros;simp_all;done)) ?_;exact au
 exact au
def q3i(I:Int)(G:Int):Option Bool:=
 some ((decide (0<=I))&&(decide (I<G)))
instance ja6(I:Int)(G:Int):Ct pp 59 (q3i I G) [.v (.int .i64 I),.v (.int .i64 G)] fun r=>(.v (.bool r)):=ctI Tryz.func59 rfl (by rw[q3i];exact au1)
def z04(T:aa)(G:Int×Int->Option Int):Int×Int->Option Int:=
 fun (I,W)=>
 q9 (q3i W (T.af.length:Int)) (fun a6=>
 (if (a6&&(decide (I<=8)))=true then q9 (idx T.af W) (fun Z=>
 G (i64.wrap (I+1),Z))
 else some I))
def qz1(I:aa)(G:Int):Option Int:=
 d9 (z04 I) rounds (0,G)
instance jh6(I:aa)(G:Int):Ct pp 60 (qz1 I G) [.agg (Row.row I),.v (.int .i64 G)] fun r=>(.v (.int .i64 r)):=ctK Tryz.func60 rfl (by rw[qz1]) (by
 intro r h F;refine sM ?_;refine sM ?_;refine jg fun _ Q3=>?_;refine sM ?_;refine z8 fun _ Q5=>?_;refine q0e h [2] (fun x=>([(5,.v (.int .i64 x.1)),(6,.v (.int .i64 x.2))],[(0,.box (Row.row I))])) 1 ?_;rintro T ⟨W,Z⟩ h _ Q6;rw[z04]at h;exact au)
def qo8(G:aa)(I:Int):Option Bool:=
 (if (I==0)=true then q9 (idx G.af 0) (fun W=>
 (if (W==(-1))=true then q9 (idx G.aG 0) (fun Z=>
 some (Z==0))
 else some false))
 else q9 (idx G.af I) (fun a6=>
 q9 (q3i a6 I) (fun aj=>
 (if aj=true then q9 (idx G.aG I) (fun T=>
 (if (decide (1<=T))=true then (if (decide (T<=64))=true then q9 (qz1 G I) (fun ak=>
 some (decide (ak<=4)))
 else some false)
 else some false))
 else some false))))
instance jh1(G:aa)(I:Int):Ct pp 33 (qo8 G I) [.agg (Row.row G),.v (.int .i64 I)] fun r=>(.v (.bool r)):=ctI Tryz.func33 rfl (by rw[qo8];exact au1)
def q4r(a6:aa)(W:Int)(Z:aH)(G:Int->Option Bool):Int->Option Bool:=
 fun I=>
 (if (decide (I<W))=true then q9 (idx a6.ae I) (fun T=>
 (if (T.Scope==Z.Scope)=true then some false
 else G (i64.wrap (I+1))))
 else some true)
def q4q(W:aa)(I:Int)(T:aH)(G:Bool):Option Bool:=
 (if (!G)=true then some false
 else d9 (q4r W I T) rounds 0)
def q7g(aj:aa)(ak:Int)(I:aH)(an:List Int)(T:Bool×Int->Option Bool):Bool×Int->Option Bool:=
 fun (G,Z)=>
 (if (decide (Z<(an.length:Int)))=true then q9 (idx an Z) (fun W=>
 (if (W==I.Scope)=true then some true
 else (if G=true then T (true,i64.wrap (Z+1))
 else q9 (idx aj.af I.Scope) (fun a6=>
 T ((W==a6),i64.wrap (Z+1))))))
 else q4q aj ak I G)
def q6i(I:aa)(G:Int):Option Bool:=
 q9 (idx I.ae G) (fun T=>
 (if (G==0)=true then some (T.Scope==0)
 else q9 (idx I.ae (i64.wrap (G-1))) (fun W=>
 q9 (q44 I W.Scope) (fun Z=>
 d9 (q7g I G T Z) rounds (false,0)))))
instance zz8(I:aa)(T:Int):Ct pp 29 (q6i I T) [.agg (Row.row I),.v (.int .i64 T)] fun r=>(.v (.bool r)):=ctK Tryz.func29 rfl (by rw[q6i]) (by
 intro r h F;refine sM ?_;refine sg fun _ Q2=>?_;obtain⟨W,F,h⟩:=bI F h;simp only[go_sem,F];refine ai ?_;refine q8 Q2 (sg fun _ Q3=>?_);refine sM ?_;refine sB h (fun _ h=>?_) fun _ h=>?_
 . exact au
 refine y7 (q8 Q3 (sg fun _ Q6=>?_));refine q07 ?_;refine k1d ?_;obtain⟨Z,F,h⟩:=bI F h;obtain⟨a6,aj,h⟩:=w9 h;simp only[go_sem,F];refine ai ?_;refine q18 [] (q7z I Z.Scope a6 aj) ?_;simp only[go_sem];refine q8 Q6 (sM ?_);refine q30 (fun (G:Bool)=>q4q I T W G=some r) [1,2,5] (fun G=>([(7,.v (.bool G))],[(0,.box (Row.row I))])) 1 ?_ ?_
 . intro _ ao;refine sM ?_;refine z8 fun _ aq=>?_;refine q0e h [1,2,5,6] (fun x=>([(7,.v (.bool x.1)),(8,.v (.int .i64 x.2))],[(0,.box (Row.row I)),(1,.arr 1 (enc a6))])) 2 ?_;rintro ar ⟨ak,b1⟩ h _ b2;rw[q7g]at h;exact au
 rintro G h
 try dsimp only at h
 rw[q4q]at h;refine sg fun _ Q8=>?_;refine sM ?_;refine sB h (fun _ h=>?_) fun _ h=>?_
 . exact au
 refine y7 (q8 Q8 (jg fun _ b3=>?_));refine sM ?_;refine z8 fun _ b4=>?_;refine q0e h [1,2,5] (fun an=>([(9,.v (.int .i64 an))],[(0,.box (Row.row I))])) 1 ?_;rintro b5 an h _ b6;rw[q4r]at h;exact au)
def q8n(I:List bg)(T:Int->Option Bool):Int->Option Bool:=
 fun W=>
 (if (decide (W<(I.length:Int)))=true then q9 (idx I W) (fun G=>
 (if ((((decide (G.Op<1))||(decide (16<G.Op)))||(((G.Op==14)||(G.Op==15))&&((decide (G.N<0))||(decide ((I.length:Int)<G.N)))))||((((!(G.Op==1))&&(!(G.Op==14)))&&(!(G.Op==15)))&&(!(G.N==0))))=true then some false
 else T (i64.wrap (W+1))))
 else some (decide ((I.length:Int)<=64)))
def q7u(G:List bg):Option Bool:=
 d9 (q8n G) rounds 0
instance j2b(G:List bg):Ct pp 30 (q7u G) [.sl 2 (enc G)] fun r=>(.v (.bool r)):=ctK Tryz.func30 rfl (by rw[q7u]) (by
 intro r h F;refine sM ?_;refine jg fun _ W=>?_;refine sM ?_;refine z8 fun _ Z=>?_;refine q0e h [0] (fun I=>([(3,.v (.int .i64 I))],[])) 0 ?_;rintro T I h _ Q5;rw[q8n]at h;exact au)
def qp4(T:List aH)(Z:aH->Option Bool)(I:Int->Option Int):Int->Option Int:=
 fun G=>
 (if (decide (G<(T.length:Int)))=true then q9 (idx T G) (fun W=>
 q9 (Z W) (fun a6=>
 (if a6=true then some G
 else I (i64.wrap (G+1)))))
 else some (-1))
def qg4(G:List aH)(I:aH->Option Bool):Option Int:=
 d9 (qp4 G I) rounds 0
theorem z3e(aj:List aH)(ak:aH->Option Bool)(G:FuncId)(I:List AV)(W:q0j I=true)(Z:q02 pp G=true)(a6:∀(x0:aH) (r:Bool),ak x0=some r->aZ pp G ([.agg (Row.row x0)]++I) 0 (.v (.bool r)))(r:Int)(h:qg4 aj ak=some r):aZ pp 123 [.sl 4 (enc aj),.clo G I] 0 (.v (.int .i64 r)):=by
 refine ptI Tryz.func123 rfl ?_;rw[qg4]at h;have F:=trivial;refine sM ?_;refine jg fun _ Q2=>?_;refine sM ?_;refine z8 fun _ Q4=>?_;refine q0e h [0,1,7] (fun T=>([(8,.v (.int .i64 T))],[])) 0 ?_;rintro b1 T h _ Q5;rw[qp4]at h;refine sM ?_;refine sg fun _ Q7=>?_;refine sB h (fun _ h=>?_) fun _ h=>?_
 .
  refine y7 (q8 Q7 (sg fun _ Q8=>?_));refine z8 fun _ Q9=>?_;refine sM ?_;refine sg fun _ aq=>?_;obtain⟨an,F,h⟩:=bI F h;obtain⟨ar,ao,h⟩:=w9 h;simp only[go_sem,Z,F];refine ai ?_;refine qk7 (a6 an ar ao) (by rfl) (by simp[go_sem,q0j,q0q,W]) ?_;simp only[go_sem];refine q8 aq (sB h (fun _ h=>?_) fun _ h=>?_)
  . refine sM ?_;refine q03 (q0r Q9 (q0y Q8 (q31 Q5 (q0r Q4 (q0y Q2 ?_)))));simp only[go_sem];obtain rfl:=Xk h;refine q8q rfl ?_;exact leA
  refine y7 (q08 Q9 (q8 Q8 ?_));simp only[go_sem];refine p8 Q5 ?_;exact nxC _ h [] leA
 refine q0n (q1f Q7 (q0o Q5 (q0h Q4 (q8 Q2 (sM ?_)))));refine q03 ?_;simp only[go_sem];obtain rfl:=Xk h;refine q8q rfl ?_;exact leA
def q7c(G:List aH)(I:aH->Option Bool):Option Bool:=
 q9 (qg4 G I) (fun T=>
 some (decide (0<=T)))
theorem z1g(W:List aH)(Z:aH->Option Bool)(G:FuncId)(I:List AV)(T:q0j I=true)(a6:q02 pp G=true)(aj:∀(x0:aH) (r:Bool),Z x0=some r->aZ pp G ([.agg (Row.row x0)]++I) 0 (.v (.bool r)))(r:Bool)(h:q7c W Z=some r):aZ pp 97 [.sl 4 (enc W),.clo G I] 0 (.v (.bool r)):=by
 refine ptI Tryz.func97 rfl ?_;rw[q7c]at h;have F:=trivial;refine sM ?_;refine sg fun _ Q2=>?_;obtain⟨an,ak,h⟩:=w9 h;simp only[go_sem];refine qk7 (z3e W Z G I T a6 aj an ak) (by rfl) (by simp[go_sem,q0j,q0q,T]) ?_;simp only[go_sem];refine q8 Q2 (q03 ?_);simp only[go_sem];obtain rfl:=Xk h;refine q8q rfl ?_;exact leA
def qe6(I:aH)(G:Int):Option Bool:=
 some (I.Scope==G)
instance z9v(I:aH)(G:Int):Ct pp 98 (qe6 I G) [.agg (Row.row I),.el 1 [[.v (.int .i64 G)]] 0 0] fun r=>(.v (.bool r)):=ctI Tryz.func98 rfl (by rw[qe6];exact au1)
def qb7(T:aa)(G:Int)(W:aH)(I:Bool):Option Bool:=
 (if I=true then u7 (0<=0/\0<=G/\G<=(T.ae.length:Int)) (
 q9 (q7c (Xe (G.toNat) T.ae) (fun Z=>qe6 Z W.Scope)) (fun a6=>
 some (!a6)))
 else some false)
def qx8(Z:aa)(a6:Int)(T:aH)(aj:Int)(W:Bool×Int->Option Bool):Bool×Int->Option Bool:=
 fun (G,I)=>
 (if (decide (0<=I))=true then (if (I==T.Scope)=true then some true
 else q9 (idx Z.af I) (fun ak=>
 W ((G||(I==aj)),ak)))
 else qb7 Z a6 T G)
def ql2(T:aa)(G:Int):Option Bool:=
 q9 (idx T.ae G) (fun I=>
 (if (G==0)=true then some (I.Scope==0)
 else q9 (idx T.ae (i64.wrap (G-1))) (fun W=>
 q9 (idx T.af I.Scope) (fun Z=>
 d9 (qx8 T G I Z) rounds (false,W.Scope)))))
instance ja7(Z:aa)(T:Int):Ct pp 62 (ql2 Z T) [.agg (Row.row Z),.v (.int .i64 T)] fun r=>(.v (.bool r)):=ctK Tryz.func62 rfl (by rw[ql2]) (by
 intro r h F;refine sM ?_;refine sg fun _ Q2=>?_;obtain⟨I,F,h⟩:=bI F h;simp only[go_sem,F];refine ai ?_;refine q8 Q2 (sg fun _ Q3=>?_);refine sM ?_;refine sB h (fun _ h=>?_) fun _ h=>?_
 . exact au
 refine y7 (q8 Q3 (sg fun _ Q6=>?_));obtain⟨ao,F,h⟩:=bI F h;simp only[go_sem,F];refine ai ?_;refine q8 Q6 (sg fun _ Q7=>?_);obtain⟨aq,F,h⟩:=bI F h;simp only[go_sem,F];refine ai ?_;refine q8 Q7 (sM ?_);refine q30 (fun (G:Bool)=>qb7 Z T I G=some r) [1,2,5] (fun G=>([(8,.v (.bool G))],[(0,.box (Row.row Z)),(1,.box [.v (.int .i64 I.Scope)])])) 2 ?_ ?_
 . intro _ ar;refine sM ?_;refine z8 fun _ b1=>?_;refine q0e h [1,2,5,7] (fun x=>([(8,.v (.bool x.1)),(9,.v (.int .i64 x.2))],[(0,.box (Row.row Z)),(1,.box [.v (.int .i64 I.Scope)])])) 2 ?_;rintro b2 ⟨a6,b3⟩ h _ b4;rw[qx8]at h;exact au
 rintro G h
 try dsimp only at h
 rw[qb7]at h;refine sg fun _ Q9=>?_;simp only[go_sem];rcases W:G with _|_
 . replace h:=q1l h W;simp only[go_sem,W];exact au
 replace h:=q1k h W;obtain⟨F,h⟩:=bG F h;obtain⟨ak,aj,h⟩:=w9 h;simp only[go_sem,W,F];refine z1c (z1g (Xe (T.toNat) Z.ae) (fun an=>qe6 an I.Scope) 98 [.el 1 [[.v (.int .i64 I.Scope)]] 0 0] (by rfl) (by kernel_rfl) (fun y0 r_ e_=>z9v y0 I.Scope r_ e_) ak aj) ?_;simp only[go_sem];exact au)
def qt8(G:Int):Option Bool:=
 some ((G==14)||(G==15))
instance jl5(G:Int):Ct pp 99 (qt8 G) [.v (.int .i64 G)] fun r=>(.v (.bool r)):=ctI Tryz.func99 rfl (by rw[qt8];exact au1)
def qa7(W:List bg)(T:Int->Option Bool):Int->Option Bool:=
 fun I=>
 (if (decide (I<(W.length:Int)))=true then q9 (idx W I) (fun G=>
 (if ((decide (G.Op<1))||(decide (16<G.Op)))=true then some false
 else q9 (qt8 G.Op) (fun Z=>
 (if Z=true then (if ((decide (G.N<0))||(decide ((W.length:Int)<G.N)))=true then some false
 else T (i64.wrap (I+1)))
 else (if ((!(G.Op==1))&&(!(G.N==0)))=true then some false
 else T (i64.wrap (I+1)))))))
 else some true)
def qa1(G:List bg):Option Bool:=
 (if (decide (64<(G.length:Int)))=true then some false
 else d9 (qa7 G) rounds 0)
instance jl6(I:List bg):Ct pp 63 (qa1 I) [.sl 2 (enc I)] fun r=>(.v (.bool r)):=ctK Tryz.func63 rfl (by rw[qa1]) (by
 intro r h F;refine sM ?_;refine sg fun _ T=>?_;refine sM ?_;refine sB h (fun _ h=>?_) fun _ h=>?_
 . exact au
 refine y7 (q8 T (jg fun _ Z=>?_));refine sM ?_;refine z8 fun _ Q7=>?_;refine q0e h [0,8,9] (fun G=>([(10,.v (.int .i64 G))],[])) 0 ?_;rintro W G h _ Q8;rw[qa7]at h;exact au)
def qp7(T:List aC)(Z:aC->Option Bool)(I:Int->Option Int):Int->Option Int:=
 fun G=>
 (if (decide (G<(T.length:Int)))=true then q9 (idx T G) (fun W=>
 q9 (Z W) (fun a6=>
 (if a6=true then some G
 else I (i64.wrap (G+1)))))
 else some (-1))
def q6h(G:List aC)(I:aC->Option Bool):Option Int:=
 d9 (qp7 G I) rounds 0
theorem qp6(aj:List aC)(ak:aC->Option Bool)(G:FuncId)(I:List AV)(W:q0j I=true)(Z:q02 pp G=true)(a6:∀(x0:aC) (r:Bool),ak x0=some r->aZ pp G ([.agg (Row.row x0)]++I) 0 (.v (.bool r)))(r:Int)(h:q6h aj ak=some r):aZ pp 71 [.sl 4 (enc aj),.clo G I] 0 (.v (.int .i64 r)):=by
 refine ptI Tryz.func71 rfl ?_;rw[q6h]at h;have F:=trivial;refine sM ?_;refine jg fun _ Q2=>?_;refine sM ?_;refine z8 fun _ Q4=>?_;refine q0e h [0,1,7] (fun T=>([(8,.v (.int .i64 T))],[])) 0 ?_;rintro b1 T h _ Q5;rw[qp7]at h;refine sM ?_;refine sg fun _ Q7=>?_;refine sB h (fun _ h=>?_) fun _ h=>?_
 .
  refine y7 (q8 Q7 (sg fun _ Q8=>?_));refine z8 fun _ Q9=>?_;refine sM ?_;refine sg fun _ aq=>?_;obtain⟨an,F,h⟩:=bI F h;obtain⟨ar,ao,h⟩:=w9 h;simp only[go_sem,Z,F];refine ai ?_;refine qk7 (a6 an ar ao) (by rfl) (by simp[go_sem,q0j,q0q,W]) ?_;simp only[go_sem];refine q8 aq (sB h (fun _ h=>?_) fun _ h=>?_)
  . refine sM ?_;refine q03 (q0r Q9 (q0y Q8 (q31 Q5 (q0r Q4 (q0y Q2 ?_)))));simp only[go_sem];obtain rfl:=Xk h;refine q8q rfl ?_;exact leA
  refine y7 (q08 Q9 (q8 Q8 ?_));simp only[go_sem];refine p8 Q5 ?_;exact nxC _ h [] leA
 refine q0n (q1f Q7 (q0o Q5 (q0h Q4 (q8 Q2 (sM ?_)))));refine q03 ?_;simp only[go_sem];obtain rfl:=Xk h;refine q8q rfl ?_;exact leA
def q7e(G:List aC)(I:aC->Option Bool):Option Bool:=
 q9 (q6h G I) (fun T=>
 some (decide (0<=T)))
theorem z1i(W:List aC)(Z:aC->Option Bool)(G:FuncId)(I:List AV)(T:q0j I=true)(a6:q02 pp G=true)(aj:∀(x0:aC) (r:Bool),Z x0=some r->aZ pp G ([.agg (Row.row x0)]++I) 0 (.v (.bool r)))(r:Bool)(h:q7e W Z=some r):aZ pp 100 [.sl 4 (enc W),.clo G I] 0 (.v (.bool r)):=by
 refine ptI Tryz.func100 rfl ?_;rw[q7e]at h;have F:=trivial;refine sM ?_;refine sg fun _ Q2=>?_;obtain⟨an,ak,h⟩:=w9 h;simp only[go_sem];refine qk7 (qp6 W Z G I T a6 aj an ak) (by rfl) (by simp[go_sem,q0j,q0q,T]) ?_;simp only[go_sem];refine q8 Q2 (q03 ?_);simp only[go_sem];obtain rfl:=Xk h;refine q8q rfl ?_;exact leA
def qp1(T:aC)(G:Int)(I:Int):Option Bool:=
 some ((T.To==G)&&(T.Port==I))
instance zj0(T:aC)(G:Int)(I:Int):Ct pp 101 (qp1 T G I) [.agg (Row.row T),.el 1 [[.v (.int .i64 G)]] 0 0,.el 1 [[.v (.int .i64 I)]] 0 0] fun r=>(.v (.bool r)):=ctI Tryz.func101 rfl (by rw[qp1];exact au1)
def q2t(G:aH):Option Int:=
 (if (G.Kind==2)=true then q9 (q7u G.Prog) (fun I=>
 (if ((!I)||((!(G.Kind==2))&&(decide (0<(G.Prog.length:Int)))))=true then some 13
 else some 0))
 else (if ((!(G.Kind==2))&&(decide (0<(G.Prog.length:Int))))=true then some 13
 else some 0))
def q8e(T:aa)(I:Int):Option Int:=
 q9 (idx T.ae I) (fun G=>
 (if ((decide (G.Kind<1))||(decide (15<G.Kind)))=true then some 1
 else (if ((decide (G.Scope<0))||(decide ((T.af.length:Int)<=G.Scope)))=true then some 6
 else (if ((((G.Scope==0)&&(decide (10<=G.Kind)))&&(decide (G.Kind<=12)))||((decide (0<G.Scope))&&((G.Kind==1)||(G.Kind==15))))=true then some 6
 else q9 (q6i T I) (fun W=>
 (if (!W)=true then some 6
 else (if (G.Kind==4)=true then (if (decide (G.Arg<1))=true then some 1
 else q2t G)
 else (if (G.Kind==3)=true then q2t G
 else (if (!(G.Arg==0))=true then some 1
 else q2t G)))))))))
instance j3c(T:aa)(G:Int):Ct pp 13 (q8e T G) [.agg (Row.row T),.v (.int .i64 G)] fun r=>(.v (.int .i64 r)):=ctK Tryz.func13 rfl (by rw[q8e]) (by
 intro r h F;refine sM ?_;refine sg fun _ Q2=>?_;obtain⟨I,F,h⟩:=bI F h;simp only[go_sem,F];refine ai ?_;refine q8 Q2 (sg fun _ Q3=>?_);refine sM ?_;refine sB h (fun _ h=>?_) fun _ h=>?_
 . exact au
 refine y7 (q8 Q3 (sg fun _ Q6=>?_));refine sM ?_;refine sB h (fun _ h=>?_) fun _ h=>?_
 . exact au
 refine y7 (q8 Q6 (sg fun _ Q9=>?_));refine sg fun _ W=>?_;simp only[go_sem];refine Xb (by (simp+contextual only[and_self,implies_true,true_and,and_true,imp_self];done)) ?_;refine Xb (by (simp+contextual only[and_self,implies_true,true_and,and_true,imp_self];done)) ?_;refine q8 W (sB h (fun _ h=>?_) fun _ h=>?_)
 . exact au
 refine y7 (q8 Q9 (sg fun _ Z=>?_));refine sg fun _ a6=>?_;simp only[go_sem];refine q4n h fun aj h=>?_;simp only[go_sem];refine q8 a6 (sB h (fun _ h=>?_) fun _ h=>?_)
 . exact au
 refine y7 (q8 Z (q30 (fun (_:Unit)=>q2t I=some r) [] (fun _=>([(5,.ptr 0 0)],[(0,.box (Row.row I))])) 1 ?_ ?_))
 . intro _ ak;exact au
 rintro⟨⟩ h
 try dsimp only at h
 rw[q2t]at h;exact au)
def q5n(G:Int):Option Int:=
 (if ((decide (G<1))||(decide (15<G)))=true then some 0
 else q9 (idx ([0,0,1,1,1,2,1,1,1,2,1,1,1,1,1,1]:List Int) G) (fun I=>
 some I))
instance z5i(I:Int):Ct pp 15 (q5n I) [.v (.int .i64 I)] fun r=>(.v (.int .i64 r)):=ctK Tryz.func15 rfl (by rw[q5n]) (by
 intro r h F;refine sM ?_;refine sg fun _ Q2=>?_;refine sM ?_;refine sB h (fun _ h=>?_) fun _ h=>?_
 . exact au
 refine y7 (q8 Q2 (sg fun _ Q5=>?_));obtain⟨aj,Z,h⟩:=w9 h;obtain⟨a6,T,W,G⟩:=j20 (f:=(fun y=>AV.v (.int .i64 y))) Z;simp only[List.cons_append,List.nil_append,List.append_nil,List.map_cons,List.map_nil,Xf,Xg,Xj,Nat.reduceAdd,q45]at T W G;simp only[go_sem,a6,T,W,G];refine ai ?_;refine ai ?_;simp only[List.getD_eq_getElem?_getD,Nat.mul_one,G,Option.map_some,Option.getD_some,true_and];exact au)
def q5o(T:aa)(W:Int)(G:Bool):Option Int:=
 q9 (idx T.ae W) (fun I=>
 (if (((I.Kind==10)&&(!G))||((I.Kind==11)&&G))=true then q9 (idx T.af I.Scope) (fun Z=>
 some Z)
 else some I.Scope))
instance z5j(T:aa)(I:Int)(G:Bool):Ct pp 31 (q5o T I G) [.agg (Row.row T),.v (.int .i64 I),.v (.bool G)] fun r=>(.v (.int .i64 r)):=ctI Tryz.func31 rfl (by rw[q5o];exact au1)
def q6j(a6:aa)(Z:Int)(T:aC)(G:Int->Option Int):Int->Option Int:=
 fun I=>
 (if (decide (I<Z))=true then q9 (idx a6.aw I) (fun W=>
 (if (W.To==T.To)=true then (if (W.Port==T.Port)=true then some 7
 else G (i64.wrap (I+1)))
 else G (i64.wrap (I+1))))
 else some 0)
def q8f(T:aa)(W:Int):Option Int:=
 q9 (idx T.aw W) (fun G=>
 (if ((((decide (G.aL<0))||(decide ((T.ae.length:Int)<=G.aL)))||(decide (G.To<0)))||(decide ((T.ae.length:Int)<=G.To)))=true then some 7
 else q9 (idx T.ae G.aL) (fun Z=>
 (if ((Z.Kind==15)||(decide (G.Port<0)))=true then some 7
 else q9 (idx T.ae G.To) (fun I=>
 q9 (q5n I.Kind) (fun a6=>
 (if (decide (a6<=G.Port))=true then some 7
 else q9 (q5o T G.aL true) (fun aj=>
 q9 (q5o T G.To false) (fun ak=>
 (if (!(aj==ak))=true then some 6
 else (if ((!(Z.Kind==12))&&(decide (G.To<=G.aL)))=true then some 8
 else (if ((!G.aS)&&(((((I.Kind==6)||(I.Kind==7))||(I.Kind==8))||(I.Kind==9))||(I.Kind==14)))=true then some 1
 else d9 (q6j T W G) rounds 0))))))))))))
instance j3d(W:aa)(Z:Int):Ct pp 14 (q8f W Z) [.agg (Row.row W),.v (.int .i64 Z)] fun r=>(.v (.int .i64 r)):=ctK Tryz.func14 rfl (by rw[q8f]) (by
 intro r h F;refine sM ?_;refine sg fun _ Q2=>?_;obtain⟨G,F,h⟩:=bI F h;simp only[go_sem,F];refine ai ?_;refine q8 Q2 (sM ?_);refine sg fun _ Q4=>?_;refine sg fun _ Q5=>?_;refine q07 ?_;refine k1d ?_;simp only[go_sem];rcases I:((((decide (G.aL<0))||(decide ((W.ae.length:Int)<=G.aL)))||(decide (G.To<0)))||(decide ((W.ae.length:Int)<=G.To)))with _|_
 .
  replace h:=q1l h I;obtain⟨a6,F,h⟩:=bI F h;simp only[go_sem,I,F];refine ai ?_;rcases T:((a6.Kind==15)||(decide (G.Port<0)))with _|_
  .
   replace h:=q1l h T;obtain⟨aj,F,h⟩:=bI F h;obtain⟨aq,ak,h⟩:=w9 h;simp only[go_sem,T,F];refine ai ?_;refine br (fun _=>(z5i aj.Kind aq ak)) (by rfl) (by rfl) ?_;simp only[go_sem];refine q8 Q5 (sB h (fun _ h=>?_) fun _ h=>?_)
   . exact au
   refine y7 (q8 Q4 (sg fun _ Q7=>?_));refine sg fun _ Q8=>?_;refine q07 ?_;refine k1d ?_;obtain⟨ar,an,h⟩:=w9 h;simp only[go_sem];refine br (fun _=>(z5j W G.aL true ar an)) (by rfl) (by rfl) ?_;simp only[go_sem];refine q4n h fun b6 h=>?_;simp only[go_sem];refine q8 Q8 (sB h (fun _ h=>?_) fun _ h=>?_)
   . exact au
   refine y7 (q8 Q7 (sg fun _ b1=>?_));refine sg fun _ b2=>?_;simp only[go_sem,F];refine ai ?_;refine q8 b2 (sB h (fun _ h=>?_) fun _ h=>?_)
   . exact au
   refine y7 (q8 b1 (sg fun _ b3=>?_));simp only[go_sem,F];refine ai ?_;refine q8 b3 (sg fun _ b4=>?_);refine sg fun _ b5=>?_;simp only[go_sem];refine Xb (by (simp+contextual only[and_self,implies_true,true_and,and_true,imp_self];done)) ?_;refine Xb (by (simp+contextual only[and_self,implies_true,true_and,and_true,imp_self];done)) ?_;refine Xb (by (simp+contextual only[and_self,implies_true,true_and,and_true,imp_self];done)) ?_;refine Xb (by (simp+contextual only[and_self,implies_true,true_and,and_true,imp_self];done)) ?_;refine q8 b5 (sB h (fun _ h=>?_) fun _ h=>?_)
   . exact au
   refine y7 (q8 b4 (jg fun _ bi=>?_));refine sM ?_;refine z8 fun _ bs=>?_;refine q0e h [1,2,5] (fun ao=>([(8,.v (.int .i64 ao))],[(0,.box (Row.row W)),(1,.box (Row.row G))])) 2 ?_;rintro bv ao h _ c0;rw[q6j]at h;exact au
  replace h:=q1k h T;simp only[go_sem,T];exact au
 replace h:=q1k h I;simp only[go_sem,I];exact au)
def qw0(G:Int):Option (Bool×Bool):=
 some ((((G==10)||(G==11))||(G==12)),((G==1)||(G==15)))
instance ja8(G:Int):Ct pp 61 (qw0 G) [.v (.int .i64 G)] fun r=>(.tup [.v (.bool r.1),.v (.bool r.2)]):=ctI Tryz.func61 rfl (by rw[qw0];exact au1)
def qt3(T:aa)(I:Int):Option Int:=
 q9 (idx T.ae I) (fun G=>
 q9 (qw0 G.Kind) (fun W=>
 (if ((decide (G.Kind<1))||(decide (15<G.Kind)))=true then some 1
 else q9 (q3i G.Scope (T.af.length:Int)) (fun Z=>
 (if (((!Z)||(W.1&&(G.Scope==0)))||(W.2&&(!(G.Scope==0))))=true then some 6
 else q9 (ql2 T I) (fun a6=>
 (if (!a6)=true then some 6
 else (if (((G.Kind==4)&&(decide (G.Arg<1)))||(((!(G.Kind==4))&&(!(G.Kind==3)))&&(!(G.Arg==0))))=true then some 1
 else q9 (qa1 G.Prog) (fun aj=>
 (if ((!aj)||((!(G.Kind==2))&&(decide (0<(G.Prog.length:Int)))))=true then some 13
 else some 0))))))))))
instance jl0(I:aa)(G:Int):Ct pp 34 (qt3 I G) [.agg (Row.row I),.v (.int .i64 G)] fun r=>(.v (.int .i64 r)):=ctI Tryz.func34 rfl (by rw[qt3];exact au1)
def qh0(G:Int):Option Int:=
 (if ((G==5)||(G==9))=true then some 2
 else (if ((decide (1<G))&&(decide (G<=15)))=true then some 1
 else some 0))
instance jh5(G:Int):Ct pp 64 (qh0 G) [.v (.int .i64 G)] fun r=>(.v (.int .i64 r)):=ctI Tryz.func64 rfl (by rw[qh0];exact au1)
def qp0(T:aa)(G:aH):Option Int:=
 (if (G.Kind==11)=true then q9 (idx T.af G.Scope) (fun I=>
 some I)
 else some G.Scope)
instance jh3(I:aa)(G:aH):Ct pp 65 (qp0 I G) [.agg (Row.row I),.agg (Row.row G)] fun r=>(.v (.int .i64 r)):=ctI Tryz.func65 rfl (by rw[qp0];exact au1)
def qo7(T:aa)(G:aH):Option Int:=
 (if (G.Kind==10)=true then q9 (idx T.af G.Scope) (fun I=>
 some I)
 else some G.Scope)
instance jh0(I:aa)(G:aH):Ct pp 66 (qo7 I G) [.agg (Row.row I),.agg (Row.row G)] fun r=>(.v (.int .i64 r)):=ctI Tryz.func66 rfl (by rw[qo7];exact au1)
def qo9(G:Int):Option Bool:=
 some (((decide (6<=G))&&(decide (G<=9)))||(G==14))
instance jh2(G:Int):Ct pp 67 (qo9 G) [.v (.int .i64 G)] fun r=>(.v (.bool r)):=ctI Tryz.func67 rfl (by rw[qo9];exact au1)
def qq6(T:List aC)(G:Int)(I:Int):Option Bool:=
 q9 (q7e T (fun W=>qp1 W G I)) (fun Z=>
 some Z)
instance js3(T:List aC)(G:Int)(I:Int):Ct pp 68 (qq6 T G I) [.sl 4 (enc T),.v (.int .i64 G),.v (.int .i64 I)] fun r=>(.v (.bool r)):=ctK Tryz.func68 rfl (by rw[qq6]) (by
 intro r h F;refine sM ?_;refine sg fun _ Q2=>?_;obtain⟨Z,W,h⟩:=w9 h;simp only[go_sem];refine z1c (z1i T (fun a6=>qp1 a6 G I) 101 [.el 1 [[.v (.int .i64 G)]] 0 0,.el 1 [[.v (.int .i64 I)]] 0 0] (by rfl) (by kernel_rfl) (fun y0 r_ e_=>zj0 y0 G I r_ e_) Z W) ?_;simp only[go_sem];exact au)
def qt5(I:aa)(T:Int):Option Int:=
 q9 (idx I.aw T) (fun G=>
 q9 (q3i G.aL (I.ae.length:Int)) (fun a6=>
 (if a6=true then q9 (q3i G.To (I.ae.length:Int)) (fun aj=>
 (if (!aj)=true then some 7
 else q9 (idx I.ae G.aL) (fun W=>
 q9 (idx I.ae G.To) (fun Z=>
 (if (W.Kind==15)=true then some 7
 else q9 (qh0 Z.Kind) (fun ak=>
 q9 (q3i G.Port ak) (fun an=>
 (if (!an)=true then some 7
 else q9 (qp0 I W) (fun ao=>
 q9 (qo7 I Z) (fun aq=>
 (if (!(ao==aq))=true then some 6
 else (if ((decide (G.To<=G.aL))&&(!(W.Kind==12)))=true then some 8
 else q9 (qo9 Z.Kind) (fun ar=>
 (if (ar&&(!G.aS))=true then some 1
 else u7 (0<=0/\0<=T/\T<=(I.aw.length:Int)) (
 q9 (qq6 (Xe (T.toNat) I.aw) G.To G.Port) (fun b1=>
 (if b1=true then some 7
 else some 0)))))))))))))))))
 else some 7)))
instance jl2(T:aa)(I:Int):Ct pp 35 (qt5 T I) [.agg (Row.row T),.v (.int .i64 I)] fun r=>(.v (.int .i64 r)):=ctK Tryz.func35 rfl (by rw[qt5]) (by
 intro r h F;refine sM ?_;refine sg fun _ Q2=>?_;obtain⟨Z,F,h⟩:=bI F h;simp only[go_sem,F];refine ai ?_;refine q8 Q2 (sg fun _ Q3=>?_);refine sg fun _ Q4=>?_;simp only[go_sem];refine q4n h fun W h=>?_;simp only[go_sem];rcases G:W with _|_
 . replace h:=q1l h G;simp only[go_sem,G];exact au
 replace h:=q1k h G;simp only[go_sem,G];refine q4n h fun ak h=>?_;simp only[go_sem];refine q8 Q4 (sB h (fun _ h=>?_) fun _ h=>?_)
 . exact au
 refine y7 (q8 Q3 (sg fun _ Q7=>?_));refine q07 ?_;refine q2g 15 0 14 [0,1,0,4,15,31,0,64,0,256,960,1984,0,0,12351,32767] [2,3] [0,1,2,3,4,5,6,7,8,9,10,11] [] [14] [12,13] mixed (by kernel_rfl) (of_decide_eq_true (by kernel_rfl)) (by kernel_rfl) (by kernel_rfl) (by rfl) ?_;obtain⟨a6,F,h⟩:=bI F h;obtain⟨aj,F,h⟩:=bI F h;simp only[go_sem,F];refine ai ?_;refine ai ?_;exact au)
def q7x(Z:Int)(T:List Int)(G:Int->Option Bool):Int->Option Bool:=
 fun I=>
 (if (decide ((i64.wrap (I+1))<(T.length:Int)))=true then q9 (idx T I) (fun W=>
 (if (W==Z)=true then some true
 else G (i64.wrap (I+1))))
 else some false)
def q7a(I:aa)(T:Int)(G:Int):Option Bool:=
 q9 (q44 I G) (fun W=>
 d9 (q7x T W) rounds 0)
instance j08(I:aa)(W:Int)(G:Int):Ct pp 32 (q7a I W G) [.agg (Row.row I),.v (.int .i64 W),.v (.int .i64 G)] fun r=>(.v (.bool r)):=ctK Tryz.func32 rfl (by rw[q7a]) (by
 intro r h F;refine sM ?_;refine sg fun _ Q2=>?_;obtain⟨T,Z,h⟩:=w9 h;simp only[go_sem];refine q18 [] (q7z I G T Z) ?_;simp only[go_sem];refine q8 Q2 (jg fun _ Q3=>?_);refine sM ?_;refine z8 fun _ Q5=>?_;refine q0e h [1] (fun a6=>([(7,.osl 0 1 (0) (T.length)),(8,.v (.int .i64 a6))],[(0,.arr 1 (enc T))])) 1 ?_;rintro aj a6 h _ Q6;rw[q7x]at h;exact au)
def q8k(aj:aa)(ao:Int)(a6:Int)(ak:(Int×(List Bool)->Option (List Bool)))(I:Int×(List Bool)->Option (List Bool)):Int×(List Bool)->Option (List Bool):=
 fun (Z,T)=>
 (if (decide (Z<(aj.aw.length:Int)))=true then q9 (idx aj.aw Z) (fun G=>
 q9 (idx aj.ae G.aL) (fun W=>
 (if ((W.Kind==11)&&(W.Scope==ao))=true then q9 (idx T G.To) (fun aq=>
 I (i64.wrap (Z+1),(Xc T (G.To.toNat) true)))
 else q9 (idx T G.aL) (fun an=>
 (if an=true then (if (W.Kind==12)=true then q9 (q7a aj W.Scope ao) (fun ar=>
 (if (!ar)=true then q9 (idx T G.To) (fun b1=>
 I (i64.wrap (Z+1),(Xc T (G.To.toNat) true)))
 else I (i64.wrap (Z+1),T)))
 else q9 (idx T G.To) (fun b2=>
 I (i64.wrap (Z+1),(Xc T (G.To.toNat) true))))
 else I (i64.wrap (Z+1),T))))))
 else ak (i64.wrap (a6+1),T))
def q8l(T:aa)(Z:Int)(I:Int×(List Bool)->Option (List Bool)):Int×(List Bool)->Option (List Bool):=
 fun (G,W)=>
 (if (decide (G<=(T.ae.length:Int)))=true then d9 (q8k T Z G I) rounds (0,W)
 else some W)
def q5p(G:aa)(I:Int):Option (List Bool):=
 u7 (0<=(G.ae.length:Int)/\(G.ae.length:Int)*1<=140737488355328) (
 d9 (q8l G I) rounds (0,(Xa (G.ae.length) false)))
theorem z3y(a6:aa)(ak:Int)(r:List Bool)(h:q5p a6 ak=some r):ba pp 16 [.agg (Row.row a6),.v (.int .i64 ak)] [] 0 (.osl 0 1 (0) (r.length)) [(0,.arr 1 (enc r))] 1:=by
 refine dtI Tryz.func16 rfl ?_;rw[q5p]at h;have F:=trivial;refine sM ?_;refine sg fun _ Q2=>?_;obtain⟨F,h⟩:=bG F h;have b2:Xa (a6.ae.length) [.v (.bool false)]=enc (Xa (a6.ae.length) false):=by (simp[enc,qq3,qi7,q6l,q45];done)
 simp only[go_sem,F];simp only[b2];refine q8 Q2 (jg fun _ Q3=>?_);refine sM ?_;refine z8 fun _ Q5=>?_;refine q0e h [1,2] (fun x=>([(5,.osl 1 1 (0) (x.2.length)),(6,.v (.int .i64 x.1))],[(0,.box (Row.row a6)),(1,.arr 1 (enc x.2))])) 2 ?_;rintro c0 ⟨b3,c1⟩ h _ Q6;rw[q8l]at h;refine sg fun _ Q7=>?_;refine sM ?_;refine sB h (fun _ h=>?_) fun _ h=>?_
 .
  refine y7 (q8 Q7 (jg fun _ Q9=>?_));refine z8 fun _ c2=>?_;refine sM ?_;refine z8 fun _ c3=>?_;refine q0e h [1,2,6] (fun x=>([(5,.osl 1 1 (0) (x.2.length)),(7,.v (.int .i64 x.1))],[(0,.box (Row.row a6)),(1,.arr 1 (enc x.2))])) 2 ?_;rintro c4 ⟨c5,aj⟩ h _ c6;rw[q8k]at h;refine sg fun _ b4=>?_;refine sM ?_;refine sB h (fun _ h=>?_) fun _ h=>?_
  .
   refine y7 (q8 b4 (jg fun _ c7=>?_));refine z8 fun _ c8=>?_;refine sg fun _ b5=>?_;obtain⟨G,F,h⟩:=bI F h;simp only[go_sem,F];refine ai ?_;refine q8 b5 (sg fun _ b6=>?_);obtain⟨Z,F,h⟩:=bI F h;simp only[go_sem,F];refine ai ?_;refine q8 b6 (sg fun _ an=>?_);simp only[go_sem];rcases I:((Z.Kind==11)&&(Z.Scope==ak))with _|_
   .
    replace h:=q1l h I;obtain⟨ao,F,h⟩:=bI F h;simp only[go_sem,I,F];refine ai ?_;rcases T:ao with _|_
    . replace h:=q1l h T;simp only[go_sem,T];exact au
    replace h:=q1k h T;simp only[go_sem,T];rcases W:(Z.Kind==12)with _|_
    .
     replace h:=q1l h W;simp only[go_sem,W];refine q8 an (k3b ?_);obtain⟨bi,F,h⟩:=bI F h;have aq:(enc aj).set (G.To.toNat) [.v (.bool true)]=enc (Xc aj (G.To.toNat) true):=by exact q4y _ _ _
     simp only[go_sem,aq,F];refine ai ?_;exact au
    replace h:=q1k h W;simp only[go_sem,W];refine q4n h fun c9 h=>?_;simp only[go_sem];refine q8 an (sB h (fun _ h=>?_) fun _ h=>?_)
    .
     obtain⟨bs,F,h⟩:=bI F h;have ar:(enc aj).set (G.To.toNat) [.v (.bool true)]=enc (Xc aj (G.To.toNat) true):=by exact q4y _ _ _
     simp only[go_sem,ar,F];refine ai ?_;exact au
    exact au
   replace h:=q1k h I;simp only[go_sem,I];refine q8 an (k3b ?_);obtain⟨bv,F,h⟩:=bI F h;have b1:(enc aj).set (G.To.toNat) [.v (.bool true)]=enc (Xc aj (G.To.toNat) true):=by exact q4y _ _ _
   simp only[go_sem,b1,F];refine ai ?_;exact au
  exact au
 exact au
instance j29(G:aa)(I:Int):Ct pp 16 (q5p G I) [.agg (Row.row G),.v (.int .i64 I)] fun r=>(.sl 1 (enc r)):=⟨fun r h=>(z3y G I r h).pure leA⟩
def qr1(W:aa)(T:Int)(Z:Int)(I:Int->Option Bool):Int->Option Bool:=
 fun G=>
 (if (decide (G<Z))=true then q9 (qq6 W.aw T G) (fun a6=>
 (if (!a6)=true then some false
 else I (i64.wrap (G+1))))
 else some true)
def qt4(I:aa)(G:Int):Option Bool:=
 q9 (idx I.ae G) (fun T=>
 q9 (qh0 T.Kind) (fun W=>
 d9 (qr1 I G W) rounds 0))
instance jl1(T:aa)(I:Int):Ct pp 36 (qt4 T I) [.agg (Row.row T),.v (.int .i64 I)] fun r=>(.v (.bool r)):=ctK Tryz.func36 rfl (by rw[qt4]) (by
 intro r h F;refine sM ?_;refine jg fun _ Q2=>?_;refine sg fun _ Z=>?_;obtain⟨W,F,h⟩:=bI F h;simp only[go_sem,F];refine ai ?_;refine q4n h fun a6 h=>?_;simp only[go_sem];refine q8 Z (z8 fun _ Q4=>?_);refine q0e h [1,2,12] (fun G=>([(13,.v (.int .i64 G))],[(0,.box (Row.row T))])) 1 ?_;rintro aj G h _ Q5;rw[qr1]at h;exact au)
def z03(W:aa)(Z:Int)(G:Int->Option Bool):Int->Option Bool:=
 fun I=>
 (if (decide (0<=I))=true then (if (I==Z)=true then some true
 else q9 (idx W.af I) (fun T=>
 G T))
 else some false)
def qo6(G:aa)(W:Int)(I:Int):Option Bool:=
 q9 (idx G.af I) (fun T=>
 d9 (z03 G W) rounds T)
instance jg9(I:aa)(T:Int)(G:Int):Ct pp 70 (qo6 I T G) [.agg (Row.row I),.v (.int .i64 T),.v (.int .i64 G)] fun r=>(.v (.bool r)):=ctK Tryz.func70 rfl (by rw[qo6]) (by
 intro r h F;refine sM ?_;refine jg fun _ Q2=>?_;refine sg fun _ Q3=>?_;obtain⟨Z,F,h⟩:=bI F h;simp only[go_sem,F];refine ai ?_;refine q8 Q3 (z8 fun _ Q4=>?_);refine q0e h [1,3] (fun W=>([(7,.v (.int .i64 W))],[(0,.box (Row.row I))])) 1 ?_;rintro a6 W h _ Q5;rw[z03]at h;exact au)
def q4i(aj:Int)(ak:aa)(self:Int->aa->(List Bool)->Int->Option (aa×(List Bool)×Int))(T:Int×aa×Int×(List Bool)->Option (aa×(List Bool)×Int)):Int×aa×Int×(List Bool)->Option (aa×(List Bool)×Int):=
 fun (G,W,Z,a6)=>
 (if (decide (G<(ak.aw.length:Int)))=true then q9 (idx ak.aw G) (fun I=>
 (if (I.aL==aj)=true then q9 (idx a6 I.To) (fun ar=>
 (if ar=true then T (i64.wrap (G+1),W,Z,a6)
 else q9 (idx W.ae I.To) (fun an=>
 (if (an.Kind==12)=true then q9 (qo6 W an.Scope Z) (fun b1=>
 (if (!b1)=true then q9 (self I.To W (Xc a6 (I.To.toNat) true) Z) (fun ao=>
 T (i64.wrap (G+1),ao.1,ao.2.2,ao.2.1))
 else T (i64.wrap (G+1),W,Z,(Xc a6 (I.To.toNat) true))))
 else q9 (self I.To W (Xc a6 (I.To.toNat) true) Z) (fun aq=>
 T (i64.wrap (G+1),aq.1,aq.2.2,aq.2.1))))))
 else T (i64.wrap (G+1),W,Z,a6)))
 else some (W,a6,Z))
def q3c(self:Int->aa->(List Bool)->Int->Option (aa×(List Bool)×Int))(G:Int)(I:aa)(T:List Bool)(W:Int):Option (aa×(List Bool)×Int):=
 d9 (q4i G I self) rounds (0,I,W,T)
def q1a:Nat->Int->aa->(List Bool)->Int->Option (aa×(List Bool)×Int)
 |0=>fun _ _ _ _=>none
 |n+1=>q3c (q1a n)
def qk2(G:Int)(I:aa)(T:List Bool)(W:Int):Option (aa×(List Bool)×Int):=q1a rounds G I T W
theorem qw1(self:Int->aa->(List Bool)->Int->Option (aa×(List Bool)×Int))(an:∀(I:Int) (W:aa) (T:List Bool) (Z:Int) (r:aa×(List Bool)×Int),self I W T Z=some r->ba pp 69 [.v (.int .i64 I),.ptr 0 0,.ptr 1 0,.ptr 3 0,.ptr 4 0] [(0,.box (Row.row W)),(1,.box [.osl 2 1 (0) (T.length)]),(2,.arr 1 (enc T)),(3,.box [.v (.int .i64 Z)]),(4,.box [.clo 69 [.ptr 0 0,.ptr 1 0,.ptr 3 0,.ptr 4 0]])] 5 (.tup []) [(0,.box (Row.row r.1)),(1,.box [.osl 5 1 (0) (r.2.1.length)]),(3,.box [.v (.int .i64 r.2.2)]),(4,.box [.clo 69 [.ptr 0 0,.ptr 1 0,.ptr 3 0,.ptr 4 0]]),(5,.arr 1 (enc r.2.1))] 6)(I:Int)(W:aa)(T:List Bool)(Z:Int)(r:aa×(List Bool)×Int)(h:q3c self I W T Z=some r):ba pp 69 [.v (.int .i64 I),.ptr 0 0,.ptr 1 0,.ptr 3 0,.ptr 4 0] [(0,.box (Row.row W)),(1,.box [.osl 2 1 (0) (T.length)]),(2,.arr 1 (enc T)),(3,.box [.v (.int .i64 Z)]),(4,.box [.clo 69 [.ptr 0 0,.ptr 1 0,.ptr 3 0,.ptr 4 0]])] 5 (.tup []) [(0,.box (Row.row r.1)),(1,.box [.osl 5 1 (0) (r.2.1.length)]),(3,.box [.v (.int .i64 r.2.2)]),(4,.box [.clo 69 [.ptr 0 0,.ptr 1 0,.ptr 3 0,.ptr 4 0]]),(5,.arr 1 (enc r.2.1))] 6:=by
 refine dtI Tryz.func69 rfl ?_;rw[q3c]at h;have F:=trivial;refine sM ?_;refine z8 fun _ Q2=>?_;refine q0e h [0,1,2,3,4,10,11] (fun x=>([(12,.v (.int .i64 x.1))],[(0,.box (Row.row x.2.1)),(1,.box [.osl 5 1 (0) (x.2.2.2.length)]),(3,.box [.v (.int .i64 x.2.2.1)]),(4,.box [.clo 69 [.ptr 0 0,.ptr 1 0,.ptr 3 0,.ptr 4 0]]),(5,.arr 1 (enc x.2.2.2))])) 6 ?_;rintro c2 ⟨b5,aq,ar,ak⟩ h _ Q3;rw[q4i]at h;refine sM ?_;refine sg fun _ Q5=>?_;refine sB h (fun _ h=>?_) fun _ h=>?_
 .
  refine y7 (q8 Q5 (jg fun _ Q6=>?_));refine z8 fun _ Q7=>?_;refine sg fun _ Q8=>?_;obtain⟨G,F,h⟩:=bI F h;simp only[go_sem,F];refine ai ?_;refine q8 Q8 (sg fun _ Q9=>?_);refine sg fun _ b6=>?_;simp only[go_sem];rcases a6:(G.aL==I)with _|_
  . replace h:=q1l h a6;simp only[go_sem,a6];exact au
  replace h:=q1k h a6;obtain⟨c1,F,h⟩:=bI F h;simp only[go_sem,a6,F];refine ai ?_;refine q8 b6 (sB h (fun _ h=>?_) fun _ h=>?_)
  . exact au
  refine y7 (q8 Q9 (sg fun _ bi=>?_));have b1:(enc ak).set (G.To.toNat) [.v (.bool true)]=enc (Xc ak (G.To.toNat) true):=by exact q4y _ _ _
  simp only[go_sem,b1,F];refine ai ?_;refine q8 bi (sg fun _ bs=>?_);obtain⟨ao,F,h⟩:=bI F h;simp only[go_sem,F];refine ai ?_;refine q8 bs (sg fun _ b2=>?_);simp only[go_sem];rcases aj:(ao.Kind==12)with _|_
  . replace h:=q1l h aj;simp only[go_sem,aj];refine q8 b2 (k3b ?_);obtain⟨bv,b3,h⟩:=w9 h;simp only[go_sem];refine qm5 [0,1,2,3,4,10,11,12,21,22,23,25] ([],[(0,.box (Row.row aq)),(1,.box [.osl 5 1 (0) (Xi (Xc ak (G.To.toNat) true))]),(3,.box [.v (.int .i64 ar)]),(4,.box [.clo 69 [.ptr 0 0,.ptr 1 0,.ptr 3 0,.ptr 4 0]]),(5,.arr 1 (enc (Xc ak (G.To.toNat) true))),(6,.box (Row.row G)),(7,.box (Row.row ao))]) 8 [some 5,some 6,some 7] [.v (.int .i64 G.To),.ptr 0 0,.ptr 1 0,.ptr 3 0,.ptr 4 0] ?_;refine q18 [0,1,5,3,4] (an G.To aq (Xc ak (G.To.toNat) true) ar bv b3) ?_;simp only[go_sem];exact au
  replace h:=q1k h aj;simp only[go_sem,aj];refine q4n h fun c3 h=>?_;simp only[go_sem];refine q8 b2 (sB h (fun _ h=>?_) fun _ h=>?_)
  . obtain⟨c0,b4,h⟩:=w9 h;simp only[go_sem];refine qm5 [0,1,2,3,4,10,11,12,21,22,23,25,41,42,43,44,45,46] ([],[(0,.box (Row.row aq)),(1,.box [.osl 5 1 (0) (Xi (Xc ak (G.To.toNat) true))]),(3,.box [.v (.int .i64 ar)]),(4,.box [.clo 69 [.ptr 0 0,.ptr 1 0,.ptr 3 0,.ptr 4 0]]),(5,.arr 1 (enc (Xc ak (G.To.toNat) true))),(6,.box (Row.row G)),(7,.box (Row.row ao))]) 8 [some 5,some 6,some 7] [.v (.int .i64 G.To),.ptr 0 0,.ptr 1 0,.ptr 3 0,.ptr 4 0] ?_;refine q18 [0,1,5,3,4] (an G.To aq (Xc ak (G.To.toNat) true) ar c0 b4) ?_;simp only[go_sem];exact au
  exact au
 exact au
theorem qa6:∀(n:Nat) (G:Int) (T:aa) (I:List Bool) (W:Int) (r:aa×(List Bool)×Int),q1a n G T I W=some r->ba pp 69 [.v (.int .i64 G),.ptr 0 0,.ptr 1 0,.ptr 3 0,.ptr 4 0] [(0,.box (Row.row T)),(1,.box [.osl 2 1 (0) (I.length)]),(2,.arr 1 (enc I)),(3,.box [.v (.int .i64 W)]),(4,.box [.clo 69 [.ptr 0 0,.ptr 1 0,.ptr 3 0,.ptr 4 0]])] 5 (.tup []) [(0,.box (Row.row r.1)),(1,.box [.osl 5 1 (0) (r.2.1.length)]),(3,.box [.v (.int .i64 r.2.2)]),(4,.box [.clo 69 [.ptr 0 0,.ptr 1 0,.ptr 3 0,.ptr 4 0]]),(5,.arr 1 (enc r.2.1))] 6
 |0,G,T,I,W,r,h=>by simp[q1a]at h
 |n+1,G,T,I,W,r,h=>qw1 (q1a n) (qa6 n) G T I W r h
theorem qy4(G:Int)(T:aa)(I:List Bool)(W:Int)(r:aa×(List Bool)×Int)(h:qk2 G T I W=some r):ba pp 69 [.v (.int .i64 G),.ptr 0 0,.ptr 1 0,.ptr 3 0,.ptr 4 0] [(0,.box (Row.row T)),(1,.box [.osl 2 1 (0) (I.length)]),(2,.arr 1 (enc I)),(3,.box [.v (.int .i64 W)]),(4,.box [.clo 69 [.ptr 0 0,.ptr 1 0,.ptr 3 0,.ptr 4 0]])] 5 (.tup []) [(0,.box (Row.row r.1)),(1,.box [.osl 5 1 (0) (r.2.1.length)]),(3,.box [.v (.int .i64 r.2.2)]),(4,.box [.clo 69 [.ptr 0 0,.ptr 1 0,.ptr 3 0,.ptr 4 0]]),(5,.arr 1 (enc r.2.1))] 6:=qa6 rounds G T I W r h
def qn2(aj:aa)(ak:Int)(I:Int×Int×(List Bool)×aa->Option Bool):Int×Int×(List Bool)×aa->Option Bool:=
 fun (G,W,Z,an)=>
 (if (decide (G<(aj.ae.length:Int)))=true then q9 (idx aj.ae G) (fun T=>
 (if ((T.Kind==11)&&(T.Scope==W))=true then q9 (qk2 G an Z W) (fun a6=>
 I (i64.wrap (G+1),a6.2.2,a6.2.1,a6.1))
 else I (i64.wrap (G+1),W,Z,an)))
 else q9 (idx Z ak) (fun ao=>
 some ao))
def qp2(G:aa)(I:Int):Option Bool:=
 q9 (idx G.ae I) (fun T=>
 (if (!(T.Kind==10))=true then some false
 else u7 (0<=(G.ae.length:Int)/\(G.ae.length:Int)*1<=140737488355328) (
 d9 (qn2 G I) rounds (0,T.Scope,(Xa (G.ae.length) false),G))))
instance jh4(G:aa)(I:Int):Ct pp 37 (qp2 G I) [.agg (Row.row G),.v (.int .i64 I)] fun r=>(.v (.bool r)):=ctK Tryz.func37 rfl (by rw[qp2]) (by
 intro r h F;refine sM ?_;refine sg fun _ Q2=>?_;obtain⟨ar,F,h⟩:=bI F h;simp only[go_sem,F];refine ai ?_;refine q8 Q2 (sg fun _ Q3=>?_);refine sg fun _ Q4=>?_;simp only[go_sem,F];refine ai ?_;refine q8 Q4 (sB h (fun _ h=>?_) fun _ h=>?_)
 . exact au
 refine y7 (q8 Q3 (sg fun _ Q6=>?_));obtain⟨F,h⟩:=bG F h;have W:Xa (G.ae.length) [.v (.bool false)]=enc (Xa (G.ae.length) false):=by (simp[enc,qq3,qi7,q6l,q45];done)
 simp only[go_sem,F];simp only[W];refine q8 Q6 (sM ?_);refine sM ?_;refine jg fun _ Q9=>?_;refine sM ?_;refine z8 fun _ b2=>?_;refine q0e h [1,29,30] (fun x=>([(5,.ptr 0 0),(6,.ptr 1 0),(7,.ptr 2 0),(31,.v (.int .i64 x.1))],[(0,.box [.v (.int .i64 x.2.1)]),(1,.box [.osl 3 1 (0) (x.2.2.1.length)]),(2,.box [.clo 69 [.ptr 4 0,.ptr 1 0,.ptr 0 0,.ptr 2 0]]),(3,.arr 1 (enc x.2.2.1)),(4,.box (Row.row x.2.2.2))])) 5 ?_;rintro b3 ⟨T,a6,aj,ak⟩ h _ b4;rw[qn2]at h;refine sM ?_;refine sg fun _ an=>?_;refine sB h (fun _ h=>?_) fun _ h=>?_
 .
  refine y7 (q8 an (jg fun _ b5=>?_));refine z8 fun _ b6=>?_;refine sg fun _ ao=>?_;obtain⟨b1,F,h⟩:=bI F h;simp only[go_sem,F];refine ai ?_;refine q8 ao (sM ?_);refine sB h (fun _ h=>?_) fun _ h=>?_
  . obtain⟨aq,Z,h⟩:=w9 h;simp only[go_sem];refine q18 [4,1,3,0,2] (qy4 T ak aj a6 aq Z) ?_;simp only[go_sem];exact au
  exact au
 exact au)
def qn7(T:aa)(I:Int->Option (Int×Int)):Int->Option (Int×Int):=
 fun G=>
 (if (decide (G<(T.ae.length:Int)))=true then q9 (qp2 T G) (fun W=>
 (if W=true then some (8,G)
 else I (i64.wrap (G+1))))
 else some (0,0))
def qe7(G:aa):Option (Int×Int):=
 d9 (qn7 G) rounds 0
def qn6(I:aa)(T:Int->Option (Int×Int)):Int->Option (Int×Int):=
 fun G=>
 (if (decide (G<(I.ae.length:Int)))=true then q9 (qt4 I G) (fun W=>
 (if (!W)=true then some (7,G)
 else T (i64.wrap (G+1))))
 else qe7 I)
def qe8(G:aa):Option (Int×Int):=
 d9 (qn6 G) rounds 0
def qn5(T:aa)(W:Int->Option (Int×Int)):Int->Option (Int×Int):=
 fun G=>
 (if (decide (G<(T.aw.length:Int)))=true then q9 (qt5 T G) (fun I=>
 (if (!(I==0))=true then some (I,G)
 else W (i64.wrap (G+1))))
 else qe8 T)
def qe9(G:aa):Option (Int×Int):=
 d9 (qn5 G) rounds 0
def qn4(T:aa)(W:Int->Option (Int×Int)):Int->Option (Int×Int):=
 fun G=>
 (if (decide (G<(T.ae.length:Int)))=true then q9 (qt3 T G) (fun I=>
 (if (!(I==0))=true then some (I,G)
 else W (i64.wrap (G+1))))
 else qe9 T)
def qf0(G:aa):Option (Int×Int):=
 (if (((decide ((G.ae.length:Int)<1))||(decide (32<(G.ae.length:Int))))||(decide (64<(G.aw.length:Int))))=true then some (11,0)
 else d9 (qn4 G) rounds 0)
def qn3(I:aa)(T:Int->Option (Int×Int)):Int->Option (Int×Int):=
 fun G=>
 (if (decide (G<(I.af.length:Int)))=true then q9 (qo8 I G) (fun W=>
 (if (!W)=true then some (6,G)
 else T (i64.wrap (G+1))))
 else qf0 I)
def q8r(G:aa):Option (Int×Int):=
 (if (((decide ((G.af.length:Int)<1))||(decide (8<(G.af.length:Int))))||(!((G.aG.length:Int)==(G.af.length:Int))))=true then some (6,0)
 else d9 (qn3 G) rounds 0)
instance zj1(G:aa):Ct pp 17 (q8r G) [.agg (Row.row G)] fun r=>(.tup [.v (.int .i64 r.1),.v (.int .i64 r.2)]):=ctK Tryz.func17 rfl (by rw[q8r]) (by
 intro r h F;refine sM ?_;refine sg fun _ Q2=>?_;refine sM ?_;refine sB h (fun _ h=>?_) fun _ h=>?_
 . exact au
 refine y7 (q8 Q2 (q30 (fun (_:Unit)=>qf0 G=some r) [1] (fun _=>([],[(0,.box (Row.row G))])) 1 ?_ ?_))
 . intro _ aj;refine sM ?_;refine z8 fun _ ak=>?_;refine q0e h [1,32] (fun T=>([(33,.v (.int .i64 T))],[(0,.box (Row.row G))])) 1 ?_;rintro an T h _ ao;rw[qn3]at h;exact au
 rintro⟨⟩ h
 try dsimp only at h
 rw[qf0]at h;refine sg fun _ Q5=>?_;refine sM ?_;refine sB h (fun _ h=>?_) fun _ h=>?_
 . exact au
 refine y7 (q8 Q5 (q30 (fun (_:Unit)=>qe9 G=some r) [1] (fun _=>([],[(0,.box (Row.row G))])) 1 ?_ ?_))
 . intro _ aq;refine sM ?_;refine z8 fun _ ar=>?_;refine q0e h [1,60] (fun W=>([(61,.v (.int .i64 W))],[(0,.box (Row.row G))])) 1 ?_;rintro b1 W h _ b2;rw[qn4]at h;exact au
 rintro⟨⟩ h
 try dsimp only at h
 rw[qe9]at h;refine q30 (fun (_:Unit)=>qe8 G=some r) [1] (fun _=>([],[(0,.box (Row.row G))])) 1 ?_ ?_
 . intro _ b3;refine sM ?_;refine z8 fun _ b4=>?_;refine q0e h [1,74] (fun Z=>([(75,.v (.int .i64 Z))],[(0,.box (Row.row G))])) 1 ?_;rintro b5 Z h _ b6;rw[qn5]at h;exact au
 rintro⟨⟩ h
 try dsimp only at h
 rw[qe8]at h;refine q30 (fun (_:Unit)=>qe7 G=some r) [1] (fun _=>([],[(0,.box (Row.row G))])) 1 ?_ ?_
 . intro _ bi;refine sM ?_;refine z8 fun _ bs=>?_;refine q0e h [1,88] (fun a6=>([(89,.v (.int .i64 a6))],[(0,.box (Row.row G))])) 1 ?_;rintro bv a6 h _ c0;rw[qn6]at h;exact au
 rintro⟨⟩ h
 try dsimp only at h
 rw[qe7]at h;refine jg fun _ Q8=>?_;refine sM ?_;refine z8 fun _ c1=>?_;refine q0e h [1,100] (fun I=>([(101,.v (.int .i64 I))],[(0,.box (Row.row G))])) 1 ?_;rintro c2 I h _ c3;rw[qn7]at h;exact au)
def q8j(W:aa)(I:Int->Option (Int×Int)):Int->Option (Int×Int):=
 fun G=>
 (if (decide (G<(W.ae.length:Int)))=true then q9 (idx W.ae G) (fun T=>
 (if (T.Kind==10)=true then q9 (q5p W T.Scope) (fun a6=>
 q9 (idx a6 G) (fun Z=>
 (if Z=true then some (8,G)
 else I (i64.wrap (G+1)))))
 else I (i64.wrap (G+1))))
 else some (0,0))
def q65(G:aa):Option (Int×Int):=
 d9 (q8j G) rounds 0
def q8g(a6:aa)(I:Int)(T:(Int->Option (Int×Int)))(G:Int):Option (Int×Int):=
 q9 (idx a6.ae I) (fun W=>
 q9 (q5n W.Kind) (fun Z=>
 (if (decide (G<Z))=true then some (7,I)
 else T (i64.wrap (I+1)))))
def q8i(Z:aa)(W:Int)(a6:(Int->Option (Int×Int)))(T:Int×Int->Option (Int×Int)):Int×Int->Option (Int×Int):=
 fun (G,I)=>
 (if (decide (I<(Z.aw.length:Int)))=true then q9 (idx Z.aw I) (fun aj=>
 (if (aj.To==W)=true then T (i64.wrap (G+1),i64.wrap (I+1))
 else T (G,i64.wrap (I+1))))
 else q8g Z W a6 G)
def q69(I:aa)(T:Int->Option (Int×Int)):Int->Option (Int×Int):=
 fun G=>
 (if (decide (G<(I.ae.length:Int)))=true then d9 (q8i I G T) rounds (0,0)
 else q65 I)
def q66(G:aa):Option (Int×Int):=
 d9 (q69 G) rounds 0
def q8h(T:aa)(W:Int->Option (Int×Int)):Int->Option (Int×Int):=
 fun G=>
 (if (decide (G<(T.aw.length:Int)))=true then q9 (q8f T G) (fun I=>
 (if (!(I==0))=true then some (I,G)
 else W (i64.wrap (G+1))))
 else q66 T)
def q67(G:aa):Option (Int×Int):=
 d9 (q8h G) rounds 0
def q7y(W:aa)(I:Int->Option (Int×Int)):Int->Option (Int×Int):=
 fun G=>
 (if (decide (G<(W.ae.length:Int)))=true then q9 (q8e W G) (fun T=>
 (if (!(T==0))=true then some (T,G)
 else I (i64.wrap (G+1))))
 else q67 W)
def q68(G:aa):Option (Int×Int):=
 (if ((((G.ae.length:Int)==0)||(decide (32<(G.ae.length:Int))))||(decide (64<(G.aw.length:Int))))=true then some (11,0)
 else d9 (q7y G) rounds 0)
def q2a(T:Int)(G:(Int->Option (Int×Int)))(I:Bool):Option (Int×Int):=
 (if (!I)=true then some (6,T)
 else G (i64.wrap (T+1)))
def q29(T:Int)(G:(Int->Option (Int×Int)))(I:Bool):Option (Int×Int):=
 (if (!I)=true then some (6,T)
 else G (i64.wrap (T+1)))
def q3r(W:aa)(G:Int->Option (Int×Int)):Int->Option (Int×Int):=
 fun I=>
 (if (decide (I<(W.af.length:Int)))=true then q9 (idx W.af I) (fun T=>
 (if (T==(-1))=true then q9 (idx W.aG I) (fun Z=>
 (if (decide (0<I))=true then (if (decide (0<=T))=true then (if (decide (T<I))=true then (if (decide (1<=Z))=true then (if (decide (Z<=64))=true then q9 (q44 W I) (fun aj=>
 q29 I G (decide ((aj.length:Int)<=4)))
 else q29 I G false)
 else q29 I G false)
 else q29 I G false)
 else q29 I G false)
 else q29 I G (Z==0)))
 else (if (decide (0<I))=true then (if (decide (0<=T))=true then (if (decide (T<I))=true then q9 (idx W.aG I) (fun a6=>
 (if (decide (1<=a6))=true then (if (decide (a6<=64))=true then q9 (q44 W I) (fun ak=>
 q2a I G (decide ((ak.length:Int)<=4)))
 else q2a I G false)
 else q2a I G false))
 else q2a I G false)
 else q2a I G false)
 else q2a I G false)))
 else q68 W)
def q7s(G:aa):Option (Int×Int):=
 (if ((((G.af.length:Int)==0)||(decide (8<(G.af.length:Int))))||(!((G.af.length:Int)==(G.aG.length:Int))))=true then some (6,0)
 else d9 (q3r G) rounds 0)
instance j28(G:aa):Ct pp 6 (q7s G) [.agg (Row.row G)] fun r=>(.tup [.v (.int .i64 r.1),.v (.int .i64 r.2)]):=ctK Tryz.func6 rfl (by rw[q7s]) (by
 intro r h F;refine sM ?_;refine sg fun _ Q2=>?_;refine sM ?_;refine sB h (fun _ h=>?_) fun _ h=>?_
 . exact au
 refine y7 (q8 Q2 (q30 (fun (_:Unit)=>q68 G=some r) [1] (fun _=>([],[(0,.box (Row.row G))])) 1 ?_ ?_))
 .
  intro _ cp;refine sM ?_;refine z8 fun _ d0=>?_;refine q0e h [1] (fun b3=>([(4,.v (.int .i64 b3))],[(0,.box (Row.row G))])) 1 ?_;rintro bv b3 h _ d1;rw[q3r]at h;refine sg fun _ c7=>?_;refine sM ?_;refine sB h (fun _ h=>?_) fun _ h=>?_
  .
   refine y7 (q8 c7 (jg fun _ d2=>?_));refine z8 fun _ d3=>?_;refine sg fun _ c4=>?_;obtain⟨ar,F,h⟩:=bI F h;simp only[go_sem,F];refine ai ?_;rcases T:(ar==(-1))with _|_
   .
    replace h:=q1l h T;simp only[go_sem,T];refine q8 c4 (q30 (fun (b1:Bool)=>q2a b3 (d9 (q3r G) bv) b1=some r) [1,4] (fun b1=>([(5,.v (.bool b1))],[(0,.box (Row.row G))])) 1 ?_ ?_)
    .
     intro _ d4;refine sM ?_;refine sB h (fun _ h=>?_) fun _ h=>?_
     .
      refine sg fun _ c8=>?_;simp only[go_sem,F];refine ai ?_;rcases W:(decide (0<=ar))with _|_
      . replace h:=q1l h W;simp only[go_sem,W];exact au
      replace h:=q1k h W;simp only[go_sem,W,F];refine ai ?_;rcases Z:(decide (ar<b3))with _|_
      . replace h:=q1l h Z;simp only[go_sem,Z];exact au
      replace h:=q1k h Z;obtain⟨b4,F,h⟩:=bI F h;simp only[go_sem,Z,F];refine ai ?_;rcases a6:(decide (1<=b4))with _|_
      . replace h:=q1l h a6;simp only[go_sem,a6];exact au
      replace h:=q1k h a6;simp only[go_sem,a6,F];refine ai ?_;refine q8 c8 ?_;simp only[go_sem];rcases aj:(decide (b4<=64))with _|_
      . replace h:=q1l h aj;simp only[go_sem,aj];exact au
      replace h:=q1k h aj;obtain⟨c5,c1,h⟩:=w9 h;simp only[go_sem,aj];refine q18 [] (q7z G b3 c5 c1) ?_;simp only[go_sem];exact au
     exact au
    rintro b1 h
    try dsimp only at h
    rw[q2a]at h;exact au
   replace h:=q1k h T;obtain⟨b5,F,h⟩:=bI F h;simp only[go_sem,T,F];refine ai ?_;refine q8 c4 (q30 (fun (b2:Bool)=>q29 b3 (d9 (q3r G) bv) b2=some r) [1,4,47,48,49,51,52] (fun b2=>([(5,.v (.bool b2))],[(0,.box (Row.row G))])) 1 ?_ ?_)
   .
    intro _ d5;refine sM ?_;refine sB h (fun _ h=>?_) fun _ h=>?_
    .
     refine sg fun _ c9=>?_;simp only[go_sem,F];refine ai ?_;rcases ak:(decide (0<=ar))with _|_
     . replace h:=q1l h ak;simp only[go_sem,ak];exact au
     replace h:=q1k h ak;simp only[go_sem,ak,F];refine ai ?_;rcases an:(decide (ar<b3))with _|_
     . replace h:=q1l h an;simp only[go_sem,an];exact au
     replace h:=q1k h an;simp only[go_sem,an,F];refine ai ?_;rcases ao:(decide (1<=b5))with _|_
     . replace h:=q1l h ao;simp only[go_sem,ao];exact au
     replace h:=q1k h ao;simp only[go_sem,ao,F];refine ai ?_;refine q8 c9 ?_;simp only[go_sem];rcases aq:(decide (b5<=64))with _|_
     . replace h:=q1l h aq;simp only[go_sem,aq];exact au
     replace h:=q1k h aq;obtain⟨c6,c2,h⟩:=w9 h;simp only[go_sem,aq];refine q18 [] (q7z G b3 c6 c2) ?_;simp only[go_sem];exact au
    exact au
   rintro b2 h
   try dsimp only at h
   rw[q29]at h;exact au
  exact au
 rintro⟨⟩ h
 try dsimp only at h
 rw[q68]at h;refine sg fun _ Q5=>?_;refine sM ?_;refine sB h (fun _ h=>?_) fun _ h=>?_
 . exact au
 refine y7 (q8 Q5 (q30 (fun (_:Unit)=>q67 G=some r) [1] (fun _=>([],[(0,.box (Row.row G))])) 1 ?_ ?_))
 . intro _ d6;refine sM ?_;refine z8 fun _ d7=>?_;refine q0e h [1] (fun b6=>([(6,.v (.int .i64 b6))],[(0,.box (Row.row G))])) 1 ?_;rintro cd b6 h _ d8;rw[q7y]at h;exact au
 rintro⟨⟩ h
 try dsimp only at h
 rw[q67]at h;refine q30 (fun (_:Unit)=>q66 G=some r) [1] (fun _=>([],[(0,.box (Row.row G))])) 1 ?_ ?_
 . intro _ dc;refine sM ?_;refine z8 fun _ dd=>?_;refine q0e h [1] (fun bi=>([(8,.v (.int .i64 bi))],[(0,.box (Row.row G))])) 1 ?_;rintro dk bi h _ ds;rw[q8h]at h;exact au
 rintro⟨⟩ h
 try dsimp only at h
 rw[q66]at h;refine q30 (fun (_:Unit)=>q65 G=some r) [1] (fun _=>([],[(0,.box (Row.row G))])) 1 ?_ ?_
 .
  intro _ dI;refine sM ?_;refine z8 fun _ dJ=>?_;refine q0e h [1] (fun bs=>([(10,.v (.int .i64 bs))],[(0,.box (Row.row G))])) 1 ?_;rintro cb bs h _ dK;rw[q69]at h;refine sg fun _ cc=>?_;refine sM ?_;refine sB h (fun _ h=>?_) fun _ h=>?_
  .
   refine y7 (q8 cc (jg fun _ dL=>?_));refine z8 fun _ dM=>?_;refine sM ?_;refine q30 (fun (I:Int)=>q8g G bs (d9 (q69 G) cb) I=some r) [1,10] (fun I=>([(11,.v (.int .i64 I))],[(0,.box (Row.row G))])) 1 ?_ ?_
   . intro _ dN;refine sM ?_;refine z8 fun _ dO=>?_;refine q0e h [1,10] (fun x=>([(11,.v (.int .i64 x.1)),(12,.v (.int .i64 x.2))],[(0,.box (Row.row G))])) 1 ?_;rintro dP ⟨c3,cl⟩ h _ dQ;rw[q8i]at h;exact au
   rintro I h
   try dsimp only at h
   rw[q8g]at h;exact au
  exact au
 rintro⟨⟩ h
 try dsimp only at h
 rw[q65]at h;refine jg fun _ Q8=>?_;refine sM ?_;refine z8 fun _ dR=>?_;refine q0e h [1] (fun c0=>([(13,.v (.int .i64 c0))],[(0,.box (Row.row G))])) 1 ?_;rintro dS c0 h _ dT;rw[q8j]at h;exact au)
def qb0(an:az)(a6:(Bool×(List Bool)->Option (List Bool)))(W:Bool×Int×(List Bool)->Option (List Bool)):Bool×Int×(List Bool)->Option (List Bool):=
 fun (T,G,I)=>
 (if (decide (G<(an.g.aw.length:Int)))=true then q9 (idx an.g.aw G) (fun Z=>
 q9 (idx I Z.To) (fun aj=>
 (if aj=true then q9 (idx I Z.aL) (fun ak=>
 (if (!ak)=true then W (true,i64.wrap (G+1),(Xc I (Z.aL.toNat) true))
 else W (T,i64.wrap (G+1),I)))
 else W (T,i64.wrap (G+1),I))))
 else a6 (T,I))
def ql4(W:az)(I:Bool×(List Bool)->Option (List Bool)):Bool×(List Bool)->Option (List Bool):=
 fun (G,T)=>
 (if G=true then d9 (qb0 W I) rounds (false,0,T)
 else some T)
def qa8(G:az)(I:List Bool):Option (List Bool):=
 d9 (ql4 G) rounds (true,I)
def qa9(T:az)(W:Int×(List Bool)->Option (List Bool)):Int×(List Bool)->Option (List Bool):=
 fun (G,I)=>
 (if (decide (G<(T.g.ae.length:Int)))=true then q9 (idx T.g.ae G) (fun Z=>
 q9 (idx I G) (fun a6=>
 W (i64.wrap (G+1),(Xc I (G.toNat) (Z.Kind==15)))))
 else qa8 T I)
def qa2(G:az):Option (List Bool):=
 u7 (0<=(G.g.ae.length:Int)/\(G.g.ae.length:Int)*1<=140737488355328) (
 d9 (qa9 G) rounds (0,(Xa (G.g.ae.length) false)))
theorem z7k(G:az)(r:List Bool)(h:qa2 G=some r):ba pp 39 [.agg (Row.row G)] [] 0 (.osl 0 1 (0) (r.length)) [(0,.arr 1 (enc r))] 1:=by
 refine dtI Tryz.func39 rfl ?_;rw[qa2]at h;have F:=trivial;refine sM ?_;refine sg fun _ Q2=>?_;obtain⟨F,h⟩:=bG F h;have ar:Xa (G.g.ae.length) [.v (.bool false)]=enc (Xa (G.g.ae.length) false):=by (simp[enc,qq3,qi7,q6l,q45];done)
 simp only[go_sem,F];simp only[ar];refine q8 Q2 (q30 (fun (T:(List Bool))=>qa8 G T=some r) [1] (fun T=>([(3,.osl 1 1 (0) (T.length))],[(0,.box (Row.row G)),(1,.arr 1 (enc T))])) 2 ?_ ?_)
 .
  intro _ c1;refine sM ?_;refine z8 fun _ c2=>?_;refine q0e h [1,16,17] (fun x=>([(3,.osl 1 1 (0) (x.2.length)),(18,.v (.int .i64 x.1))],[(0,.box (Row.row G)),(1,.arr 1 (enc x.2))])) 2 ?_;rintro c3 ⟨W,aj⟩ h _ c4;rw[qa9]at h;refine sM ?_;refine sg fun _ b3=>?_;refine sB h (fun _ h=>?_) fun _ h=>?_
  .
   refine y7 (q8 b3 (sg fun _ c5=>?_));refine z8 fun _ c6=>?_;refine sg fun _ b4=>?_;obtain⟨Z,F,h⟩:=bI F h;simp only[go_sem,F];refine ai ?_;refine q8 b4 ?_;obtain⟨b5,F,h⟩:=bI F h;have an:(enc aj).set (W.toNat) [.v (.bool (Z.Kind==15))]=enc (Xc aj (W.toNat) (Z.Kind==15)):=by exact q4y _ _ _
   simp only[go_sem,an,F];refine ai ?_;exact au
  exact au
 rintro T h
 try dsimp only at h
 rw[qa8]at h;refine jg fun _ Q3=>?_;refine sM ?_;refine z8 fun _ Q5=>?_;refine q0e h [1] (fun x=>([(3,.osl 1 1 (0) (x.2.length)),(6,.v (.bool x.1))],[(0,.box (Row.row G)),(1,.arr 1 (enc x.2))])) 2 ?_;rintro c7 ⟨b1,c8⟩ h _ Q6;rw[ql4]at h;refine sg fun _ Q7=>?_;refine sM ?_;refine sB h (fun _ h=>?_) fun _ h=>?_
 .
  refine y7 (q8 Q7 (z8 fun _ Q9=>?_));refine sM ?_;refine sM ?_;refine z8 fun _ c9=>?_;refine q0e h [1,33,34] (fun x=>([(3,.osl 1 1 (0) (x.2.2.length)),(6,.v (.bool x.1)),(35,.v (.int .i64 x.2.1))],[(0,.box (Row.row G)),(1,.arr 1 (enc x.2.2))])) 2 ?_;rintro cb ⟨b2,b6,ak⟩ h _ cc;rw[qb0]at h;refine sM ?_;refine sg fun _ bi=>?_;refine sB h (fun _ h=>?_) fun _ h=>?_
  .
   refine y7 (q8 bi (jg fun _ cd=>?_));refine z8 fun _ cl=>?_;refine sg fun _ bs=>?_;obtain⟨a6,F,h⟩:=bI F h;simp only[go_sem,F];refine ai ?_;refine q8 bs (sg fun _ bv=>?_);obtain⟨ao,F,h⟩:=bI F h;simp only[go_sem,F];refine ai ?_;rcases I:ao with _|_
   . replace h:=q1l h I;simp only[go_sem,I];exact au
   replace h:=q1k h I;obtain⟨c0,F,h⟩:=bI F h;simp only[go_sem,I,F];refine ai ?_;refine q8 bv (sB h (fun _ h=>?_) fun _ h=>?_)
   .
    have aq:(enc ak).set (a6.aL.toNat) [.v (.bool true)]=enc (Xc ak (a6.aL.toNat) true):=by exact q4y _ _ _
    simp only[go_sem,aq,F];refine ai ?_;exact au
   exact au
  exact au
 exact au
def q62(G:List Int):Option (List Int):=
 u7 ((Xi ([]:List Int)+G.length)*8<=140737488355328) (
 some (([]:List Int)++G))
theorem z7i(G:List Int)(r:List Int)(h:q62 G=some r):ba pp 46 [.sl 1 (enc G)] [] 0 (.osl 0 1 (0) (r.length)) [(0,.arr 1 (enc r))] 1:=by
 refine dtI Tryz.func46 rfl ?_;rw[q62]at h;have F:=trivial;refine sM ?_;refine sg fun _ Q2=>?_;refine sg fun _ Q3=>?_;simp only[go_sem];intro Z T;rcases Z with _|_
 .
  refine q8 Q3 (k3c ?_);refine y7 (q8 Q2 (sg fun _ Q4=>?_));obtain⟨W,h⟩:=q06 h;have F:=Xb F W;simp only[Xf,Xg,Xj,Xd]at W;have a6:enc ([]:List Int)++enc G=enc (([]:List Int)++G):=by exact (q2x ([]:List Int) G).symm
  simp only[go_sem,W,a6];exact au
 have I:G=[]:=by cases hq:(G)with|nil=>rfl|cons y ys=>exact absurd (T (by rw[hq];simp[enc])) (by simp)
 simp only[I]at h;exact au
instance z0k(G:List Int):Ct pp 46 (q62 G) [.sl 1 (enc G)] fun r=>(.sl 1 (enc r)):=⟨fun r h=>(z7i G r h).pure leA⟩
def q9z(G:List bg):Option (List bg):=
 u7 ((Xi ([]:List bg)+G.length)*16<=140737488355328) (
 some (([]:List bg)++G))
theorem z7j(G:List bg)(r:List bg)(h:q9z G=some r):ba pp 47 [.sl 2 (enc G)] [] 0 (.osl 0 2 (0) (r.length)) [(0,.arr 2 (enc r))] 1:=by
 refine dtI Tryz.func47 rfl ?_;rw[q9z]at h;have F:=trivial;refine sM ?_;refine sg fun _ Q2=>?_;refine sg fun _ Q3=>?_;simp only[go_sem];intro Z T;rcases Z with _|_
 .
  refine q8 Q3 (k3c ?_);refine y7 (q8 Q2 (sg fun _ Q4=>?_));obtain⟨W,h⟩:=q06 h;have F:=Xb F W;simp only[Xf,Xg,Xj,Xd]at W;have a6:enc ([]:List bg)++enc G=enc (([]:List bg)++G):=by exact (q2x ([]:List bg) G).symm
  simp only[go_sem,W,a6];exact au
 have I:G=[]:=by cases hq:(G)with|nil=>rfl|cons y ys=>exact absurd (T (by rw[hq];simp[enc])) (by simp)
 simp only[I]at h;exact au
def q97(ak:az)(an:List Int)(ao:List Int)(aq:List aH)(Z:List Int)(a6:Int×(List aC)->Option b7):Int×(List aC)->Option b7:=
 fun (I,aj)=>
 (if (decide (I<(ak.g.aw.length:Int)))=true then q9 (idx ak.g.aw I) (fun G=>
 q9 (idx Z G.aL) (fun T=>
 q9 (idx Z G.To) (fun W=>
 u7 ((aj.length+Xi ([(⟨T,W,G.Port,G.aS⟩:aC)]:List aC))*32<=140737488355328) (
 a6 (i64.wrap (I+1),(aj++([(⟨T,W,G.Port,G.aS⟩:aC)]:List aC)))))))
 else some (⟨(⟨an,ao,aq,aj⟩:aa),Z⟩:b7))
def qg0(G:az)(I:List Int)(T:List Int)(W:List aH)(Z:List Int):Option b7:=
 d9 (q97 G I T W Z) rounds (0,[])
def q96(a6:az)(an:List Int)(ao:List Int)(Z:Int×(List aH)×(List Int)->Option b7):Int×(List aH)×(List Int)->Option b7:=
 fun (G,T,W)=>
 (if (decide (G<(a6.g.ae.length:Int)))=true then q9 (idx a6.g.ae G) (fun I=>
 q9 (idx W G) (fun aq=>
 q9 (idx a6.gone G) (fun aj=>
 (if (!aj)=true then q9 (idx (Xc W (G.toNat) (-1)) G) (fun ar=>
 q9 (q9z I.Prog) (fun ak=>
 u7 ((T.length+Xi ([(⟨I.Kind,I.Scope,I.Arg,ak⟩:aH)]:List aH))*48<=140737488355328) (
 Z (i64.wrap (G+1),(T++([(⟨I.Kind,I.Scope,I.Arg,ak⟩:aH)]:List aH)),(Xc (Xc W (G.toNat) (-1)) (G.toNat) (T.length:Int))))))
 else Z (i64.wrap (G+1),T,(Xc W (G.toNat) (-1)))))))
 else qg0 a6 an ao T W)
def q9c(G:az):Option b7:=
 q9 (q62 G.g.af) (fun I=>
 q9 (q62 G.g.aG) (fun T=>
 u7 (0<=(G.g.ae.length:Int)/\(G.g.ae.length:Int)*8<=140737488355328) (
 d9 (q96 G I T) rounds (0,[],(Xa (G.g.ae.length) (0:Int))))))
theorem z16(T:az)(r:b7)(h:q9c T=some r):ba pp 20 [.agg [.sl 1 (enc T.g.af),.sl 1 (enc T.g.aG),.sl 4 (enc T.g.ae),.sl 4 (enc T.g.aw),.sl 1 (enc T.gone)]] [] 0 (.agg [.sl 1 (enc r.bh.af),.sl 1 (enc r.bh.aG),.osl 0 4 (0) (r.bh.ae.length),.osl 1 4 (0) (r.bh.aw.length),.osl 2 1 (0) (r.Now.length)]) [(0,.arr 4 (enc r.bh.ae)),(1,.arr 4 (enc r.bh.aw)),(2,.arr 1 (enc r.Now))] 3:=by
 unfold ba;refine Spec.cD Tryz.func20 rfl (by kernel_rfl) (by kernel_rfl) ?_;rw[q9c]at h;refine sg fun _ Q1=>?_;simp only[go_sem];refine q8 Q1 (sg fun _ Q2=>?_);refine q07 ?_;refine q2g 16 14 16 [0,1,3,7,0,16,48,127,255,0,512,1536,3584,7680,16383,0,65535] [2,3] [0,1,2,3,4,5,6,7,8,9,10,11,12,14] [13] [] [15] mixed (by kernel_rfl) (of_decide_eq_true (by kernel_rfl)) (by kernel_rfl) (by kernel_rfl) (by rfl) ?_;obtain⟨b4,c4,h⟩:=w9 h;simp only[go_sem];refine br (fun _=>(z0k T.g.af b4 c4)) (by rfl) (by rfl) ?_;obtain⟨b5,c5,h⟩:=w9 h;simp only[go_sem];refine br (fun _=>(z0k T.g.aG b5 c5)) (by rfl) (by rfl) ?_;obtain⟨dW,h⟩:=q06 h;have c6:Xa (T.g.ae.length) [.v (.int .i64 0)]=enc (Xa (T.g.ae.length) (0:Int)):=by (simp[enc,qq3,qi7,q6l,q45];done)
 simp only[go_sem,dW];simp only[c6];refine q8 Q2 (z4c (by kernel_rfl) ?_);refine zf7 (ι:=(List aH)×(List Int)) (fun ((b1,b2):(List aH)×(List Int))=>(⟨0,[(1,.ptr 0 0),(2,.ptr 1 0),(3,.ptr 2 0)],[(0,.box [.sl 1 (enc T.g.af),.sl 1 (enc T.g.aG),.sl 4 (enc T.g.ae),.sl 4 (enc T.g.aw),.sl 1 (enc T.gone)]),(1,.box [.v (.slice none 0 0),.v (.slice none 0 0),.v (.slice none 0 0),.v (.slice none 0 0),.v (.slice none 0 0)]),(2,.box [.sl 1 (enc b4),.sl 1 (enc b5),.osl 3 4 (0) (b1.length),.v (.slice none 0 0),.osl 4 1 (0) (b2.length)]),(3,.arr 4 (enc b1)),(4,.arr 1 (enc b2))],5,95⟩:St)) (fun ((b1,b2):(List aH)×(List Int))=>qg0 T b4 b5 b1 b2=some r) ?_ ?_
 .
  intro _ dX;refine sg fun _ dY=>?_;simp only[go_sem];refine q8 dY (z8 ?_);intro _ dZ;refine z8l ?_;refine j1n (ι:=Nat×Int×(List aH)×(List Int)) (fun ((_,I,Z,a6):Nat×Int×(List aH)×(List Int))=>(⟨0,[(1,.ptr 0 0),(2,.ptr 1 0),(3,.ptr 2 0),(25,.sl 4 (enc T.g.ae)),(26,.v (.int .i64 (T.g.ae.length:Int))),(27,.v (.int .i64 I))],[(0,.box [.sl 1 (enc T.g.af),.sl 1 (enc T.g.aG),.sl 4 (enc T.g.ae),.sl 4 (enc T.g.aw),.sl 1 (enc T.gone)]),(1,.box [.v (.slice none 0 0),.v (.slice none 0 0),.v (.slice none 0 0),.v (.slice none 0 0),.v (.slice none 0 0)]),(2,.box [.sl 1 (enc b4),.sl 1 (enc b5),.osl 3 4 (0) (Z.length),.v (.slice none 0 0),.osl 4 1 (0) (a6.length)]),(3,.arr 4 (enc Z)),(4,.arr 1 (enc a6))],5,95⟩:St)) (fun ((n_,I,Z,a6):Nat×Int×(List aH)×(List Int))=>d9 (q96 T b4 b5) n_ (I,Z,a6)=some r) (fun p=>p.1) (rounds,0,[],(Xa (T.g.ae.length) (0:Int))) [some 0,some 1,some 3,none,some 2] ?_ h ?_
  . simp only[go_sem,Le]<;>(repeat' apply Xb)<;>(try with_reducible refine q04 ?_)<;>first|omega|(simp[go_sem];done)
  rintro⟨ef,I,Z,a6⟩ h _ bi
  dsimp only at h;replace h:=qc8 h;obtain⟨c7,rfl,h⟩:=h;rw[q96]at h;refine sg fun _ e0=>?_;simp only[go_sem];refine q8 e0 (sg fun _ c8=>?_);refine qv2 (b:=(decide (I<(T.g.ae.length:Int)))) (by (simp only[go_sem];done)) (fun ao=>?_) (fun ao=>?_)
  .
   replace h:=q1k h ao;simp only[bool_to_prop]at ao;refine y7 (q8 c8 (z4c (by kernel_rfl) ?_));refine z3l ?_;intro _ c9;refine z8 ?_;intro _ cb;refine sg fun _ e1=>?_;obtain⟨G,cc,h⟩:=w9 h;obtain⟨cd,cl,cp⟩:=q83 cc;simp only[go_sem,cd,cl,cp];refine Xb (by omega) ?_;refine q8 e1 (sg fun _ e2=>?_);obtain⟨e3,d0,h⟩:=w9 h;obtain⟨d1,d2,d3⟩:=q83 d0;have bs:(enc a6).set (I.toNat) [.v (.int .i64 (-1))]=enc (Xc a6 (I.toNat) (-1)):=by exact q4y _ _ _
   simp only[go_sem,d1,d2,d3,bs];refine Xb (by omega) ?_;refine q8 e2 (sg fun _ e4=>?_);obtain⟨bv,d4,h⟩:=w9 h;obtain⟨d5,d6,d7⟩:=q83 d4;simp only[go_sem,d5,d6,d7];refine Xb (by omega) ?_;refine q8 e4 ?_;refine qv2 (b:=(!bv)) (by (simp only[go_sem];done)) (fun aq=>?_) (fun aq=>?_)
   .
    replace h:=q1k h aq;simp only[bool_to_prop]at aq;refine sg fun _ e5=>?_;obtain⟨e6,d8,h⟩:=w9 h;obtain⟨dc,dd,dk⟩:=q83 d8;have c0:(enc (Xc a6 (I.toNat) (-1))).set (I.toNat) [.v (.int .i64 (Z.length:Int))]=enc (Xc (Xc a6 (I.toNat) (-1)) (I.toNat) (Z.length:Int)):=by exact q4y _ _ _
    simp only[go_sem,dc,dd,dk,c0];refine Xb (by omega) ?_;refine Xb (by omega) ?_;refine q8 e5 (sg fun _ e7=>?_);obtain⟨b6,ds,h⟩:=w9 h;simp only[go_sem];refine q7h [] (z7j G.Prog b6 ds) (by simp) rfl trivial rfl rfl rfl rfl ?_;simp only[go_sem];refine q8 e7 ?_;have e8:[[.v (.int .i64 G.Kind),.v (.int .i64 G.Scope),.v (.int .i64 G.Arg),.sl 2 (enc b6)]]=enc ([(⟨G.Kind,G.Scope,G.Arg,b6⟩:aH)]:List aH):=by rfl
    obtain⟨dI,h⟩:=q06 h;simp only[Xf,Xg,Xj,Xd]at dI;have c1:enc Z++[[.v (.int .i64 G.Kind),.v (.int .i64 G.Scope),.v (.int .i64 G.Arg),.sl 2 (enc b6)]]=enc (Z++([(⟨G.Kind,G.Scope,G.Arg,b6⟩:aH)]:List aH)):=by exact (q2x Z ([(⟨G.Kind,G.Scope,G.Arg,b6⟩:aH)]:List aH)).symm
    simp only[go_sem,dI,c1];refine q08 cb (q8 c9 ?_);simp only[go_sem];refine p8 bi (⟨(c7,i64.wrap (I+1),(Z++([(⟨G.Kind,G.Scope,G.Arg,b6⟩:aH)]:List aH)),(Xc (Xc a6 (I.toNat) (-1)) (I.toNat) (Z.length:Int))),[some 0,some 1,some 2,some 8,some 4],?_,h,Xm _⟩);simp only[go_sem,Le]<;>(repeat' apply Xb)<;>(try with_reducible refine q04 ?_)<;>first|omega|(simp[go_sem];done)|((try with_reducible refine q04 ?_);(simp[go_sem,enc,q6l];done))
   replace h:=q1l h aq;simp only[bool_to_prop]at aq;refine y7 (q08 cb (q8 c9 ?_));simp only[go_sem];refine p8 bi (⟨(c7,i64.wrap (I+1),Z,(Xc a6 (I.toNat) (-1))),[some 0,some 1,some 2,some 3,some 4],?_,h,Xm _⟩);simp only[go_sem,Le]<;>(repeat' apply Xb)<;>(try with_reducible refine q04 ?_)<;>first|omega|(simp[go_sem];done)
  replace h:=q1l h ao;simp only[bool_to_prop]at ao;refine q0n (q1f c8 (q0o bi (q0h dZ (p8 dX (⟨(Z,a6),[some 0,some 1,some 2,some 3,some 4],?_,h⟩)))));simp only[go_sem,Le]<;>(repeat' apply Xb)<;>(try with_reducible refine q04 ?_)<;>first|omega|(simp[go_sem];done)
 rintro⟨b1,b2⟩ h
 try dsimp only at h
 rw[qg0]at h;refine z4c (by kernel_rfl) ?_;refine z3l ?_;intro _ Q3;refine sg fun _ Q4=>?_;simp only[go_sem];refine q8 Q4 (z8 ?_);intro _ Q5;refine z8l ?_;refine j1n (ι:=Nat×Int×(List aC)) (fun ((_,aj,ar):Nat×Int×(List aC))=>(⟨0,[(2,.ptr 0 0),(3,.ptr 1 0),(65,.sl 4 (enc T.g.aw)),(66,.v (.int .i64 (T.g.aw.length:Int))),(67,.v (.int .i64 aj))],[(0,.box [.v (.slice none 0 0),.v (.slice none 0 0),.v (.slice none 0 0),.v (.slice none 0 0),.v (.slice none 0 0)]),(1,.box [.sl 1 (enc b4),.sl 1 (enc b5),.osl 2 4 (0) (b1.length),.osl 3 4 (0) (ar.length),.osl 4 1 (0) (b2.length)]),(2,.arr 4 (enc b1)),(3,.arr 4 (enc ar)),(4,.arr 1 (enc b2))],5,95⟩:St)) (fun ((n_,aj,ar):Nat×Int×(List aC))=>d9 (q97 T b4 b5 b1 b2) n_ (aj,ar)=some r) (fun p=>p.1) (rounds,0,[]) [some 1,some 2,some 3,none,some 4] ?_ h ?_
 . simp only[go_sem,Le]<;>(repeat' apply Xb)<;>(try with_reducible refine q04 ?_)<;>first|omega|(simp[go_sem];done)
 rintro⟨eg,aj,ar⟩ h _ Q6
 dsimp only at h;replace h:=qc8 h;obtain⟨e9,rfl,h⟩:=h;rw[q97]at h;refine sg fun _ Q7=>?_;simp only[go_sem];refine q8 Q7 (sg fun _ Q8=>?_);refine qv2 (b:=(decide (aj<(T.g.aw.length:Int)))) (by (simp only[go_sem];done)) (fun b3=>?_) (fun b3=>?_)
 .
  replace h:=q1k h b3;simp only[bool_to_prop]at b3;refine y7 (q8 Q8 (sg fun _ Q9=>?_));refine z8 ?_;intro _ ea;refine sg fun _ eb=>?_;obtain⟨W,dJ,h⟩:=w9 h;obtain⟨dK,dL,dM⟩:=q83 dJ;simp only[go_sem,dK,dL,dM];refine Xb (by omega) ?_;refine q8 eb (sg fun _ ec=>?_);refine q07 ?_;refine q2g 14 0 0 [0,1,0,4,15,31,0,64,0,256,960,1984,831,4927,16383,32767] [5] [6,7,10,11] [] [13] [] mixed (by kernel_rfl) (of_decide_eq_true (by kernel_rfl)) (by kernel_rfl) (by kernel_rfl) (by rfl) ?_;obtain⟨ak,dN,h⟩:=w9 h;obtain⟨dO,dP,dQ⟩:=q83 dN;obtain⟨an,dR,h⟩:=w9 h;obtain⟨dS,dT,dU⟩:=q83 dR;simp only[go_sem,dO,dP,dQ,dS,dT,dU];refine Xb (by omega) ?_;refine Xb (by omega) ?_;refine q8 ec ?_;have c2:[[.v (.int .i64 ak),.v (.int .i64 an),.v (.int .i64 W.Port),.v (.bool W.aS)]]=enc ([(⟨ak,an,W.Port,W.aS⟩:aC)]:List aC):=by rfl
  obtain⟨dV,h⟩:=q06 h;simp only[Xf,Xg,Xj,Xd]at dV;have c3:enc ar++[[.v (.int .i64 ak),.v (.int .i64 an),.v (.int .i64 W.Port),.v (.bool W.aS)]]=enc (ar++([(⟨ak,an,W.Port,W.aS⟩:aC)]:List aC)):=by exact (q2x ar ([(⟨ak,an,W.Port,W.aS⟩:aC)]:List aC)).symm
  simp only[go_sem,dV,c3];simp only[c2];refine q08 ea (q8 Q9 ?_);simp only[go_sem];refine p8 Q6 (⟨(e9,i64.wrap (aj+1),(ar++([(⟨ak,an,W.Port,W.aS⟩:aC)]:List aC))),[some 0,some 1,some 2,some 7,some 4],?_,h,Xm _⟩);simp only[go_sem,Le]<;>(repeat' apply Xb)<;>(try with_reducible refine q04 ?_)<;>first|omega|(simp[go_sem];done)
 replace h:=q1l h b3;simp only[bool_to_prop]at b3;refine q0n (q1f Q8 (q0o Q6 (q0h Q5 (q8 Q3 (sg fun _ ee=>?_)))));simp only[go_sem];refine q8 ee (q03 ?_);simp only[go_sem];obtain rfl:=Xk h;refine q2b [some 2,some 3,some 4] ?_;simp only[go_sem,Le]<;>(repeat' apply Xb)<;>(try with_reducible refine q04 ?_)<;>first|omega|(simp[go_sem];done)
def q3w(G:List Bool):Option (List Bool):=
 u7 ((Xi ([]:List Bool)+G.length)*1<=140737488355328) (
 some (([]:List Bool)++G))
theorem qx5(G:List Bool)(r:List Bool)(h:q3w G=some r):ba pp 38 [.sl 1 (enc G)] [] 0 (.osl 0 1 (0) (r.length)) [(0,.arr 1 (enc r))] 1:=by
 refine dtI Tryz.func38 rfl ?_;rw[q3w]at h;have F:=trivial;refine sM ?_;refine sg fun _ Q2=>?_;refine sg fun _ Q3=>?_;simp only[go_sem];intro Z T;rcases Z with _|_
 .
  refine q8 Q3 (k3c ?_);refine y7 (q8 Q2 (sg fun _ Q4=>?_));obtain⟨W,h⟩:=q06 h;have F:=Xb F W;simp only[Xf,Xg,Xj,Xd]at W;have a6:enc ([]:List Bool)++enc G=enc (([]:List Bool)++G):=by exact (q2x ([]:List Bool) G).symm
  simp only[go_sem,W,a6];exact au
 have I:G=[]:=by cases hq:(G)with|nil=>rfl|cons y ys=>exact absurd (T (by rw[hq];simp[enc])) (by simp)
 simp only[I]at h;exact au
def q92(G:List aC):Option (List aC):=
 u7 ((Xi ([]:List aC)+G.length)*32<=140737488355328) (
 some (([]:List aC)++G))
theorem z5t(G:List aC)(r:List aC)(h:q92 G=some r):ba pp 41 [.sl 4 (enc G)] [] 0 (.osl 0 4 (0) (r.length)) [(0,.arr 4 (enc r))] 1:=by
 refine dtI Tryz.func41 rfl ?_;rw[q92]at h;have F:=trivial;refine sM ?_;refine sg fun _ Q2=>?_;refine sg fun _ Q3=>?_;simp only[go_sem];intro Z T;rcases Z with _|_
 .
  refine q8 Q3 (k3c ?_);refine y7 (q8 Q2 (sg fun _ Q4=>?_));obtain⟨W,h⟩:=q06 h;have F:=Xb F W;simp only[Xf,Xg,Xj,Xd]at W;have a6:enc ([]:List aC)++enc G=enc (([]:List aC)++G):=by exact (q2x ([]:List aC) G).symm
  simp only[go_sem,W,a6];exact au
 have I:G=[]:=by cases hq:(G)with|nil=>rfl|cons y ys=>exact absurd (T (by rw[hq];simp[enc])) (by simp)
 simp only[I]at h;exact au
def q3b(G:az):Option Bool:=
 q9 (q9c G) (fun I=>
 q9 (q8r I.bh) (fun T=>
 some (T.1==0)))
instance j73(G:az):Ct pp 43 (q3b G) [.agg (Row.row G)] fun r=>(.v (.bool r)):=ctK Tryz.func43 rfl (by rw[q3b]) (by
 intro r h F;refine sM ?_;refine sg fun _ Q2=>?_;obtain⟨I,T,h⟩:=w9 h;simp only[go_sem];refine q18 [] (z16 G I T) ?_;obtain⟨Z,W,h⟩:=w9 h;simp only[go_sem];refine z1c (zj1 I.bh Z W) ?_;simp only[go_sem];exact au)
def q4x(T:az)(aj:Bool)(ak:List Bool)(W:Int×Int×(List aC)->Option (Bool×az)):Int×Int×(List aC)->Option (Bool×az):=
 fun (G,a6,I)=>
 (if (decide (a6<(I.length:Int)))=true then q9 (idx I a6) (fun Z=>
 q9 (idx ak Z.aL) (fun an=>
 (if an=true then W (G,i64.wrap (a6+1),I)
 else q9 (idx ak Z.To) (fun ao=>
 (if (!ao)=true then q9 (idx I G) (fun aq=>
 W (i64.wrap (G+1),i64.wrap (a6+1),(Xc I (G.toNat) Z)))
 else W (G,i64.wrap (a6+1),I))))))
 else u7 (0<=G/\G<=(I.length:Int)/\(I.length:Int)<=(I.length:Int)) (
 u7 (G.toNat+(I.length-G.toNat)<=I.length) (
 u7 (0<=0/\0<=G/\G<=((I.length:Nat):Int)) (
 (if aj=true then q9 (q3b (⟨(⟨T.g.af,T.g.aG,T.g.ae,(Xe (G.toNat) (Xe (G.toNat) I++Xa ((I.length-G.toNat)) (⟨0,0,0,false⟩:aC)++Xl (G.toNat+(I.length-G.toNat)) I))⟩:aa),ak⟩:az)) (fun ar=>
 (if (!ar)=true then some (false,T)
 else some (true,(⟨(⟨T.g.af,T.g.aG,T.g.ae,(Xe (G.toNat) (Xe (G.toNat) I++Xa ((I.length-G.toNat)) (⟨0,0,0,false⟩:aC)++Xl (G.toNat+(I.length-G.toNat)) I))⟩:aa),ak⟩:az))))
 else some (false,T))))))
def qj7(T:az)(aj:Bool)(ak:List Bool)(W:Int×Int×(List aC)->Option (Bool×az)):Int×Int×(List aC)->Option (Bool×az):=
 fun (G,a6,I)=>
 (if (decide (a6<(I.length:Int)))=true then q9 (idx I a6) (fun Z=>
 q9 (idx ak Z.aL) (fun an=>
 (if an=true then W (G,i64.wrap (a6+1),I)
 else q9 (idx ak Z.To) (fun ao=>
 (if (!ao)=true then q9 (idx I G) (fun aq=>
 W (i64.wrap (G+1),i64.wrap (a6+1),(Xc I (G.toNat) Z)))
 else W (G,i64.wrap (a6+1),I))))))
 else u7 (0<=G/\G<=(I.length:Int)/\(I.length:Int)<=(I.length:Int)) (
 u7 (G.toNat+(I.length-G.toNat)<=I.length) (
 u7 (0<=0/\0<=G/\G<=((I.length:Nat):Int)) (
 (if aj=true then q9 (q3b (⟨(⟨T.g.af,T.g.aG,T.g.ae,(Xe (G.toNat) (Xe (G.toNat) I++Xa ((I.length-G.toNat)) (⟨0,0,0,false⟩:aC)++Xl (G.toNat+(I.length-G.toNat)) I))⟩:aa),ak⟩:az)) (fun ar=>
 (if (!ar)=true then some (false,T)
 else some (true,(⟨(⟨T.g.af,T.g.aG,T.g.ae,(Xe (G.toNat) (Xe (G.toNat) I++Xa ((I.length-G.toNat)) (⟨0,0,0,false⟩:aC)++Xl (G.toNat+(I.length-G.toNat)) I))⟩:aa),ak⟩:az))))
 else some (false,T))))))
def q9r(G:az)(I:Bool)(W:List Bool)(Z:List aC)(aj:Int->Option (Bool×az)):Int->Option (Bool×az):=
 fun T=>
 (if (decide (T<(Z.length:Int)))=true then q9 (idx Z T) (fun a6=>
 q9 (idx W a6.aL) (fun ak=>
 (if ak=true then (if (T==(-1))=true then (if I=true then q9 (q3b (⟨(⟨G.g.af,G.g.aG,G.g.ae,Z⟩:aa),W⟩:az)) (fun ao=>
 (if (!ao)=true then some (false,G)
 else some (true,(⟨(⟨G.g.af,G.g.aG,G.g.ae,Z⟩:aa),W⟩:az))))
 else some (false,G))
 else d9 (qj7 G I W) rounds (T,i64.wrap (T+1),Z))
 else q9 (idx W a6.To) (fun an=>
 (if an=true then (if (T==(-1))=true then (if I=true then q9 (q3b (⟨(⟨G.g.af,G.g.aG,G.g.ae,Z⟩:aa),W⟩:az)) (fun aq=>
 (if (!aq)=true then some (false,G)
 else some (true,(⟨(⟨G.g.af,G.g.aG,G.g.ae,Z⟩:aa),W⟩:az))))
 else some (false,G))
 else d9 (q4x G I W) rounds (T,i64.wrap (T+1),Z))
 else aj (i64.wrap (T+1)))))))
 else (if I=true then q9 (q3b (⟨(⟨G.g.af,G.g.aG,G.g.ae,Z⟩:aa),W⟩:az)) (fun ar=>
 (if (!ar)=true then some (false,G)
 else some (true,(⟨(⟨G.g.af,G.g.aG,G.g.ae,Z⟩:aa),W⟩:az))))
 else some (false,G)))
def q9p(I:az)(G:Bool)(T:List Bool):Option (Bool×az):=
 q9 (q92 I.g.aw) (fun W=>
 d9 (q9r I G T W) rounds 0)
def q9q(Z:az)(an:List Bool)(T:Bool×Int×(List Bool)->Option (Bool×az)):Bool×Int×(List Bool)->Option (Bool×az):=
 fun (I,G,W)=>
 (if (decide (G<(an.length:Int)))=true then q9 (idx an G) (fun a6=>
 (if a6=true then T (I,i64.wrap (G+1),W)
 else q9 (idx Z.gone G) (fun aj=>
 (if aj=true then T (I,i64.wrap (G+1),W)
 else q9 (idx Z.g.ae G) (fun ak=>
 (if (!(ak.Kind==1))=true then q9 (idx W G) (fun ao=>
 T (true,i64.wrap (G+1),(Xc W (G.toNat) true)))
 else T (I,i64.wrap (G+1),W)))))))
 else q9p Z I W)
def q95(G:az):Option (Bool×az):=
 q9 (q3w G.gone) (fun I=>
 q9 (qa2 G) (fun T=>
 d9 (q9q G T) rounds (false,0,I)))
theorem z5w(G:az)(r:Bool×az)(h:q95 G=some r):ba pp 18 [.ptr 0 0] [(0,.box (Row.row G))] 1 (.v (.bool r.1)) [(0,.box (Row.row r.2))] 1:=by
 refine dtI Tryz.func18 rfl ?_;rw[q95]at h;have F:=trivial;refine sM ?_;refine sg fun _ Q2=>?_;refine q07 ?_;refine q2g 11 9 11 [0,1,3,7,0,16,48,112,240,511,0,2047] [1,2] [0,1,2,3,4,5,6,7,9] [8] [] [10] mixed (by kernel_rfl) (of_decide_eq_true (by kernel_rfl)) (by kernel_rfl) (by kernel_rfl) (by rfl) ?_;obtain⟨dN,cp,h⟩:=w9 h;simp only[go_sem];refine z0m [] (qx5 G.gone dN cp) rfl trivial rfl rfl rfl rfl ?_;simp only[go_sem];refine q8 Q2 (sM ?_);refine q30 (fun ((b4,I):Bool×(List Bool))=>q9p G b4 I=some r) [0] (fun x=>([(3,.ptr 1 0),(4,.v (.bool x.1))],[(0,.box (Row.row G)),(1,.box [.sl 1 (enc G.g.af),.sl 1 (enc G.g.aG),.sl 4 (enc G.g.ae),.sl 4 (enc G.g.aw),.osl 2 1 (0) (x.2.length)]),(2,.arr 1 (enc x.2))])) 3 ?_ ?_
 .
  intro _ e9;refine sg fun _ dO=>?_;obtain⟨c1,d0,h⟩:=w9 h;simp only[go_sem];refine q18 [] (z7k G c1 d0) ?_;simp only[go_sem];refine q8 dO (z8 fun _ ea=>?_);refine q0e h [0,21] (fun x=>([(3,.ptr 1 0),(4,.v (.bool x.1)),(20,.osl 2 1 (0) (c1.length)),(22,.v (.int .i64 x.2.1))],[(0,.box (Row.row G)),(1,.box [.sl 1 (enc G.g.af),.sl 1 (enc G.g.aG),.sl 4 (enc G.g.ae),.sl 4 (enc G.g.aw),.osl 3 1 (0) (x.2.2.length)]),(2,.arr 1 (enc c1)),(3,.arr 1 (enc x.2.2))])) 4 ?_;rintro eb ⟨dM,bi,d1⟩ h _ ec;rw[q9q]at h;refine sM ?_;refine sg fun _ dP=>?_;refine sB h (fun _ h=>?_) fun _ h=>?_
  .
   refine y7 (q8 dP (jg fun _ ee=>?_));refine z8 fun _ ef=>?_;refine sg fun _ d2=>?_;obtain⟨c2,F,h⟩:=bI F h;simp only[go_sem,F];refine ai ?_;refine q8 d2 (sg fun _ d3=>?_);simp only[go_sem];rcases aq:c2 with _|_
   .
    replace h:=q1l h aq;obtain⟨c3,F,h⟩:=bI F h;simp only[go_sem,aq,F];refine ai ?_;rcases ar:c3 with _|_
    .
     replace h:=q1l h ar;obtain⟨dQ,F,h⟩:=bI F h;simp only[go_sem,ar,F];refine ai ?_;refine q8 d3 (sB h (fun _ h=>?_) fun _ h=>?_)
     .
      obtain⟨dR,F,h⟩:=bI F h;have c4:(enc d1).set (bi.toNat) [.v (.bool true)]=enc (Xc d1 (bi.toNat) true):=by exact q4y _ _ _
      simp only[go_sem,c4,F];refine ai ?_;exact au
     exact au
    replace h:=q1k h ar;simp only[go_sem,ar];exact au
   replace h:=q1k h aq;simp only[go_sem,aq];exact au
  exact au
 rintro⟨b4,I⟩ h
 try dsimp only at h
 rw[q9p]at h;refine sg fun _ Q4=>?_;obtain⟨an,d4,h⟩:=w9 h;simp only[go_sem];refine q18 [] (z5t G.g.aw an d4) ?_;simp only[go_sem];refine q51 Tryz.func40 rfl (by kernel_rfl) (by kernel_rfl) ?_;refine sM ?_;refine sg fun _ Q6=>?_;simp only[go_sem];refine q51 Tryz.func71 rfl (by kernel_rfl) (by kernel_rfl) ?_;refine sM ?_;refine jg fun _ Q8=>?_;refine sM ?_;refine z8 fun _ c5=>?_;refine q0e h [0,1,7] (fun b5=>([(8,.v (.int .i64 b5))],[(0,.box (Row.row G)),(1,.box [.sl 1 (enc G.g.af),.sl 1 (enc G.g.aG),.sl 4 (enc G.g.ae),.sl 4 (enc G.g.aw),.osl 2 1 (0) (I.length)]),(2,.arr 1 (enc I)),(3,.arr 4 (enc an))])) 4 ?_;rintro eg b5 h _ c6;rw[q9r]at h;refine sM ?_;refine sg fun _ d5=>?_;refine sB h (fun _ h=>?_) fun _ h=>?_
 .
  refine y7 (q8 d5 (sg fun _ d6=>?_));refine z8 fun _ d7=>?_;refine sM ?_;refine sg fun _ d8=>?_;obtain⟨ao,F,h⟩:=bI F h;simp only[go_sem,F];refine ai ?_;refine q51 Tryz.func42 rfl (by kernel_rfl) (by kernel_rfl) ?_;refine sM ?_;refine sg fun _ dc=>?_;obtain⟨c7,F,h⟩:=bI F h;simp only[go_sem,F];refine ai ?_;rcases b1:c7 with _|_
  .
   replace h:=q1l h b1;obtain⟨c8,F,h⟩:=bI F h;simp only[go_sem,b1,F];refine ai ?_;refine q8 dc (q03 ?_);simp only[go_sem];refine q0s [some 4] [(0,.box (Row.row G)),(1,.box [.sl 1 (enc G.g.af),.sl 1 (enc G.g.aG),.sl 4 (enc G.g.ae),.sl 4 (enc G.g.aw),.osl 2 1 (0) (I.length)]),(2,.arr 1 (enc I)),(3,.arr 4 (enc an)),(4,.box (Row.row ao))] 5 (.v (.bool c8)) ?_ ?_
   . exact leA
   refine q13 ?_;simp only[go_sem];refine q8 d8 (sB h (fun _ h=>?_) fun _ h=>?_)
   .
    refine sM ?_;refine q03 (q0r d7 (q0y d6 (q31 c6 (q0r c5 (q0y Q8 ?_)))));simp only[go_sem];refine q0s [some 4] [(0,.box (Row.row G)),(1,.box [.sl 1 (enc G.g.af),.sl 1 (enc G.g.aG),.sl 4 (enc G.g.ae),.sl 4 (enc G.g.aw),.osl 2 1 (0) (I.length)]),(2,.arr 1 (enc I)),(3,.arr 4 (enc an)),(4,.box (Row.row ao))] 5 (.v (.int .i64 b5)) ?_ ?_
    . exact leA
    refine q13 ?_;simp only[go_sem];refine q8 Q6 (sg fun _ dd=>?_);refine sM ?_;refine sB h (fun _ h=>?_) fun _ h=>?_
    .
     refine sM ?_;refine q03 (q0y dd ?_);simp only[go_sem];refine q0s [some 4] [(0,.box (Row.row G)),(1,.box [.sl 1 (enc G.g.af),.sl 1 (enc G.g.aG),.sl 4 (enc G.g.ae),.sl 4 (enc G.g.aw),.osl 2 1 (0) (I.length)]),(2,.arr 1 (enc I)),(3,.arr 4 (enc an)),(4,.box (Row.row ao))] 5 (.osl 3 4 (0) (an.length)) ?_ ?_
     . exact leA
     refine q13 ?_;simp only[go_sem];exact au
    refine y7 (q8 dd (jg fun _ dS=>?_));refine sM ?_;refine z8 fun _ dT=>?_;refine q0e h [1] (fun x=>([(0,.osl 3 4 (0) (x.2.2.length)),(5,.v (.int .i64 x.1)),(6,.v (.int .i64 x.2.1))],[(0,.box (Row.row G)),(1,.box [.sl 1 (enc G.g.af),.sl 1 (enc G.g.aG),.sl 4 (enc G.g.ae),.sl 4 (enc G.g.aw),.osl 2 1 (0) (I.length)]),(2,.arr 1 (enc I)),(3,.arr 4 (enc x.2.2))])) 4 ?_;rintro eh ⟨aj,ei,Z⟩ h _ dU;rw[q4x]at h;refine sg fun _ dk=>?_;refine sM ?_;refine sB h (fun _ h=>?_) fun _ h=>?_
    .
     refine y7 (q8 dk (jg fun _ ej=>?_));refine z8 fun _ ek=>?_;refine sg fun _ dV=>?_;obtain⟨T,F,h⟩:=bI F h;simp only[go_sem,F];refine ai ?_;refine q8 dV (sg fun _ dW=>?_);simp only[go_sem];refine q51 Tryz.func42 rfl (by kernel_rfl) (by kernel_rfl) ?_;refine sM ?_;refine sg fun _ ds=>?_;obtain⟨c9,F,h⟩:=bI F h;simp only[go_sem,F];refine ai ?_;rcases b2:c9 with _|_
     .
      replace h:=q1l h b2;obtain⟨cb,F,h⟩:=bI F h;simp only[go_sem,b2,F];refine ai ?_;refine q8 ds (q03 ?_);simp only[go_sem];refine q0s [some 5] [(0,.box (Row.row G)),(1,.box [.sl 1 (enc G.g.af),.sl 1 (enc G.g.aG),.sl 4 (enc G.g.ae),.sl 4 (enc G.g.aw),.osl 2 1 (0) (I.length)]),(2,.arr 1 (enc I)),(3,.arr 4 (enc Z)),(4,.box (Row.row T)),(5,.box (Row.row T))] 6 (.v (.bool cb)) ?_ ?_
      . exact leA
      refine q13 ?_;simp only[go_sem];refine q8 dW (sB h (fun _ h=>?_) fun _ h=>?_)
      .
       refine sg fun _ en=>?_;obtain⟨dX,F,h⟩:=bI F h;have dI:(enc Z).set (aj.toNat) [.v (.int .i64 T.aL),.v (.int .i64 T.To),.v (.int .i64 T.Port),.v (.bool T.aS)]=enc (Xc Z (aj.toNat) T):=by exact q4y _ _ _
       simp only[go_sem,dI,F];refine ai ?_;exact au
      exact au
     replace h:=q1k h b2;simp only[go_sem,b2];refine q8 ds (q03 ?_);simp only[go_sem];refine q0s [some 5] [(0,.box (Row.row G)),(1,.box [.sl 1 (enc G.g.af),.sl 1 (enc G.g.aG),.sl 4 (enc G.g.ae),.sl 4 (enc G.g.aw),.osl 2 1 (0) (I.length)]),(2,.arr 1 (enc I)),(3,.arr 4 (enc Z)),(4,.box (Row.row T)),(5,.box (Row.row T))] 6 (.v (.bool true)) ?_ ?_
     . exact leA
     refine q13 ?_;simp only[go_sem];exact au
    refine q0n (q1f dk (q0o dU (q0h dT (q8 dS (sg fun _ dY=>?_)))));obtain⟨F,h⟩:=bG F h;obtain⟨F,h⟩:=bG F h;have c0:Xe (aj.toNat) (enc Z)++Xa ((Z.length-aj.toNat)) [.v (.int .i64 0),.v (.int .i64 0),.v (.int .i64 0),.v (.bool false)]++Xl (aj.toNat+(Z.length-aj.toNat)) (enc Z)=enc (Xe (aj.toNat) Z++Xa ((Z.length-aj.toNat)) (⟨0,0,0,false⟩:aC)++Xl (aj.toNat+(Z.length-aj.toNat)) Z):=by (simp[enc,qq3,qi7,q6l,q45,List.map_take,List.map_drop];exact .inr rfl)
    have bs:=c0;simp only[z2c,z5m]at bs;simp only[go_sem,c0,bs,F];refine q8 dY (sg fun _ dZ=>?_);obtain⟨F,h⟩:=bG F h;simp only[go_sem,F];refine q8 dZ (q03 ?_);simp only[go_sem];refine q0s [] [(0,.box (Row.row G)),(1,.box [.sl 1 (enc G.g.af),.sl 1 (enc G.g.aG),.sl 4 (enc G.g.ae),.sl 4 (enc G.g.aw),.osl 2 1 (0) (I.length)]),(2,.arr 1 (enc I)),(3,.arr 4 (enc (Xe (aj.toNat) Z++Xa ((Z.length-aj.toNat)) (⟨0,0,0,false⟩:aC)++Xl (aj.toNat+(Z.length-aj.toNat)) Z)))] 4 (.osl 3 4 (0) (aj.toNat)) ?_ ?_
    . exact leA
    refine q13 ?_;simp only[go_sem];exact au
   exact au
  replace h:=q1k h b1;simp only[go_sem,b1];refine q8 dc (q03 ?_);simp only[go_sem];refine q0s [some 4] [(0,.box (Row.row G)),(1,.box [.sl 1 (enc G.g.af),.sl 1 (enc G.g.aG),.sl 4 (enc G.g.ae),.sl 4 (enc G.g.aw),.osl 2 1 (0) (I.length)]),(2,.arr 1 (enc I)),(3,.arr 4 (enc an)),(4,.box (Row.row ao))] 5 (.v (.bool true)) ?_ ?_
  . exact leA
  refine q13 ?_;simp only[go_sem];refine q8 d8 (k3b ?_);refine sM ?_;refine q03 (q0r d7 (q0y d6 (q31 c6 (q0r c5 (q0y Q8 ?_)))));simp only[go_sem];refine q0s [some 4] [(0,.box (Row.row G)),(1,.box [.sl 1 (enc G.g.af),.sl 1 (enc G.g.aG),.sl 4 (enc G.g.ae),.sl 4 (enc G.g.aw),.osl 2 1 (0) (I.length)]),(2,.arr 1 (enc I)),(3,.arr 4 (enc an)),(4,.box (Row.row ao))] 5 (.v (.int .i64 b5)) ?_ ?_
  . exact leA
  refine q13 ?_;simp only[go_sem];refine q8 Q6 (sg fun _ dJ=>?_);refine sM ?_;refine sB h (fun _ h=>?_) fun _ h=>?_
  .
   refine sM ?_;refine q03 (q0y dJ ?_);simp only[go_sem];refine q0s [some 4] [(0,.box (Row.row G)),(1,.box [.sl 1 (enc G.g.af),.sl 1 (enc G.g.aG),.sl 4 (enc G.g.ae),.sl 4 (enc G.g.aw),.osl 2 1 (0) (I.length)]),(2,.arr 1 (enc I)),(3,.arr 4 (enc an)),(4,.box (Row.row ao))] 5 (.osl 3 4 (0) (an.length)) ?_ ?_
   . exact leA
   refine q13 ?_;simp only[go_sem];exact au
  refine y7 (q8 dJ (jg fun _ e0=>?_));refine sM ?_;refine z8 fun _ e1=>?_;refine q0e h [1] (fun x=>([(0,.osl 3 4 (0) (x.2.2.length)),(5,.v (.int .i64 x.1)),(6,.v (.int .i64 x.2.1))],[(0,.box (Row.row G)),(1,.box [.sl 1 (enc G.g.af),.sl 1 (enc G.g.aG),.sl 4 (enc G.g.ae),.sl 4 (enc G.g.aw),.osl 2 1 (0) (I.length)]),(2,.arr 1 (enc I)),(3,.arr 4 (enc x.2.2))])) 4 ?_;rintro eo ⟨ak,er,a6⟩ h _ e2;rw[qj7]at h;refine sg fun _ dK=>?_;refine sM ?_;refine sB h (fun _ h=>?_) fun _ h=>?_
  .
   refine y7 (q8 dK (jg fun _ es=>?_));refine z8 fun _ et=>?_;refine sg fun _ e3=>?_;obtain⟨W,F,h⟩:=bI F h;simp only[go_sem,F];refine ai ?_;refine q8 e3 (sg fun _ e4=>?_);simp only[go_sem];refine q51 Tryz.func42 rfl (by kernel_rfl) (by kernel_rfl) ?_;refine sM ?_;refine sg fun _ dL=>?_;obtain⟨cc,F,h⟩:=bI F h;simp only[go_sem,F];refine ai ?_;rcases b3:cc with _|_
   .
    replace h:=q1l h b3;obtain⟨cd,F,h⟩:=bI F h;simp only[go_sem,b3,F];refine ai ?_;refine q8 dL (q03 ?_);simp only[go_sem];refine q0s [some 5] [(0,.box (Row.row G)),(1,.box [.sl 1 (enc G.g.af),.sl 1 (enc G.g.aG),.sl 4 (enc G.g.ae),.sl 4 (enc G.g.aw),.osl 2 1 (0) (I.length)]),(2,.arr 1 (enc I)),(3,.arr 4 (enc a6)),(4,.box (Row.row W)),(5,.box (Row.row W))] 6 (.v (.bool cd)) ?_ ?_
    . exact leA
    refine q13 ?_;simp only[go_sem];refine q8 e4 (sB h (fun _ h=>?_) fun _ h=>?_)
    .
     refine sg fun _ eu=>?_;obtain⟨e5,F,h⟩:=bI F h;have cl:(enc a6).set (ak.toNat) [.v (.int .i64 W.aL),.v (.int .i64 W.To),.v (.int .i64 W.Port),.v (.bool W.aS)]=enc (Xc a6 (ak.toNat) W):=by exact q4y _ _ _
     simp only[go_sem,cl,F];refine ai ?_;exact au
    exact au
   replace h:=q1k h b3;simp only[go_sem,b3];refine q8 dL (q03 ?_);simp only[go_sem];refine q0s [some 5] [(0,.box (Row.row G)),(1,.box [.sl 1 (enc G.g.af),.sl 1 (enc G.g.aG),.sl 4 (enc G.g.ae),.sl 4 (enc G.g.aw),.osl 2 1 (0) (I.length)]),(2,.arr 1 (enc I)),(3,.arr 4 (enc a6)),(4,.box (Row.row W)),(5,.box (Row.row W))] 6 (.v (.bool true)) ?_ ?_
   . exact leA
   refine q13 ?_;simp only[go_sem];exact au
  refine q0n (q1f dK (q0o e2 (q0h e1 (q8 e0 (sg fun _ e6=>?_)))));obtain⟨F,h⟩:=bG F h;obtain⟨F,h⟩:=bG F h;have bv:Xe (ak.toNat) (enc a6)++Xa ((a6.length-ak.toNat)) [.v (.int .i64 0),.v (.int .i64 0),.v (.int .i64 0),.v (.bool false)]++Xl (ak.toNat+(a6.length-ak.toNat)) (enc a6)=enc (Xe (ak.toNat) a6++Xa ((a6.length-ak.toNat)) (⟨0,0,0,false⟩:aC)++Xl (ak.toNat+(a6.length-ak.toNat)) a6):=by (simp[enc,qq3,qi7,q6l,q45,List.map_take,List.map_drop];exact .inr rfl)
  have b6:=bv;simp only[z2c,z5m]at b6;simp only[go_sem,bv,b6,F];refine q8 e6 (sg fun _ e7=>?_);obtain⟨F,h⟩:=bG F h;simp only[go_sem,F];refine q8 e7 (q03 ?_);simp only[go_sem];refine q0s [] [(0,.box (Row.row G)),(1,.box [.sl 1 (enc G.g.af),.sl 1 (enc G.g.aG),.sl 4 (enc G.g.ae),.sl 4 (enc G.g.aw),.osl 2 1 (0) (I.length)]),(2,.arr 1 (enc I)),(3,.arr 4 (enc (Xe (ak.toNat) a6++Xa ((a6.length-ak.toNat)) (⟨0,0,0,false⟩:aC)++Xl (ak.toNat+(a6.length-ak.toNat)) a6)))] 4 (.osl 3 4 (0) (ak.toNat)) ?_ ?_
  . exact leA
  refine q13 ?_;simp only[go_sem];exact au
 refine q0n (q1f d5 (q0o c6 (q0h c5 (q8 Q8 (sM ?_)))));refine q03 ?_;simp only[go_sem];refine q0s [] [(0,.box (Row.row G)),(1,.box [.sl 1 (enc G.g.af),.sl 1 (enc G.g.aG),.sl 4 (enc G.g.ae),.sl 4 (enc G.g.aw),.osl 2 1 (0) (I.length)]),(2,.arr 1 (enc I)),(3,.arr 4 (enc an))] 4 (.v (.int .i64 (-1))) ?_ ?_
 . exact leA
 refine q13 ?_;simp only[go_sem];refine q8 Q6 (sg fun _ e8=>?_);refine sM ?_;refine k3b ?_;refine sM ?_;refine q03 (q0y e8 ?_);simp only[go_sem];refine q0s [] [(0,.box (Row.row G)),(1,.box [.sl 1 (enc G.g.af),.sl 1 (enc G.g.aG),.sl 4 (enc G.g.ae),.sl 4 (enc G.g.aw),.osl 2 1 (0) (I.length)]),(2,.arr 1 (enc I)),(3,.arr 4 (enc an))] 4 (.osl 3 4 (0) (an.length)) ?_ ?_
 . exact leA
 refine q13 ?_;simp only[go_sem];exact au
def q89(I:aC)(G:Int):Option Bool:=
 some (I.To==G)
instance z5v(I:aC)(G:Int):Ct pp 102 (q89 I G) [.agg (Row.row I),.el 1 [[.v (.int .i64 G)]] 0 0] fun r=>(.v (.bool r)):=ctI Tryz.func102 rfl (by rw[q89];exact au1)
def q7r(G:az)(I:Int):Option (aC×Bool):=
 q9 (q6h G.g.aw (fun Z=>q89 Z I)) (fun T=>
 (if (decide (T<0))=true then some ((⟨0,0,0,false⟩:aC),false)
 else q9 (idx G.g.aw T) (fun W=>
 some (W,true))))
instance j53(I:az)(G:Int):Ct pp 72 (q7r I G) [.agg (Row.row I),.v (.int .i64 G)] fun r=>(.tup [.agg (Row.row r.1),.v (.bool r.2)]):=ctK Tryz.func72 rfl (by rw[q7r]) (by
 intro r h F;refine sM ?_;refine sg fun _ Q2=>?_;obtain⟨W,T,h⟩:=w9 h;simp only[go_sem];refine z1c (qp6 I.g.aw (fun Z=>q89 Z G) 102 [.el 1 [[.v (.int .i64 G)]] 0 0] (by rfl) (by kernel_rfl) (fun y0 r_ e_=>z5v y0 G r_ e_) W T) ?_;simp only[go_sem];exact au)
def z3g(G:Int):Option Bool:=
 some (((G==6)||(G==7))||(G==14))
instance jh7(G:Int):Ct pp 73 (z3g G) [.v (.int .i64 G)] fun r=>(.v (.bool r)):=ctI Tryz.func73 rfl (by rw[z3g];exact au1)
def q4w(T:az)(W:Int)(Z:aH)(I:Bool):Option Bool:=
 (if I=true then q9 (q7r T W) (fun a6=>
 q9 (idx T.g.ae a6.1.aL) (fun G=>
 (if a6.2=true then q9 (z3g G.Kind) (fun aj=>
 some (aj||((Z.Kind==8)&&(G.Kind==8))))
 else some false)))
 else some false)
def q94(T:az)(I:Int):Option Bool:=
 q9 (idx T.g.ae I) (fun G=>
 (if (G.Kind==13)=true then some true
 else (if (G.Kind==3)=true then some (G.Arg==0)
 else (if (G.Kind==4)=true then some (G.Arg==1)
 else (if (G.Kind==6)=true then q4w T I G (G.Kind==6)
 else q4w T I G (G.Kind==8))))))
instance j3v(T:az)(I:Int):Ct pp 44 (q94 T I) [.agg (Row.row T),.v (.int .i64 I)] fun r=>(.v (.bool r)):=ctK Tryz.func44 rfl (by rw[q94]) (by
 intro r h F;refine sM ?_;refine sg fun _ Z=>?_;obtain⟨W,F,h⟩:=bI F h;simp only[go_sem,F];refine ai ?_;refine q8 Z (jg fun _ Q3=>?_);refine sM ?_;refine z8 fun _ Q5=>?_;refine sM ?_;refine sB h (fun _ h=>?_) fun _ h=>?_
 . exact au
 refine sM ?_;refine sB h (fun _ h=>?_) fun _ h=>?_
 . exact au
 refine sM ?_;refine sB h (fun _ h=>?_) fun _ h=>?_
 . exact au
 refine q30 (fun (G:Bool)=>q4w T I W G=some r) [1,2,5] (fun G=>([(29,.v (.bool G))],[(0,.box (Row.row T)),(1,.box (Row.row W))])) 2 ?_ ?_
 . intro _ a6;exact au
 rintro G h
 try dsimp only at h
 rw[q4w]at h;exact au)
def q4v(G:Int)(T:List aC)(I:(Int×(List aC)->Option az))(W:aC):Option az:=
 u7 ((T.length+Xi ([W]:List aC))*32<=140737488355328) (
 I (i64.wrap (G+1),(T++([W]:List aC))))
def q79(Z:az)(W:Int)(aj:aC×Bool)(ak:List Bool)(T:Int×(List aC)->Option az):Int×(List aC)->Option az:=
 fun (G,a6)=>
 (if (decide (G<(Z.g.aw.length:Int)))=true then q9 (idx Z.g.aw G) (fun I=>
 (if (I.To==W)=true then T (i64.wrap (G+1),a6)
 else (if (I.aL==W)=true then q4v G a6 T (⟨aj.1.aL,I.To,I.Port,I.aS||aj.1.aS⟩:aC)
 else q4v G a6 T I)))
 else q9 (idx ak W) (fun an=>
 some (⟨(⟨Z.g.af,Z.g.aG,Z.g.ae,a6⟩:aa),Xc ak (W.toNat) true⟩:az)))
def q93(I:az)(G:Int):Option az:=
 q9 (q7r I G) (fun T=>
 q9 (q3w I.gone) (fun W=>
 d9 (q79 I G T W) rounds (0,[])))
theorem z5u(I:az)(T:Int)(r:az)(h:q93 I T=some r):ba pp 45 [.agg (Row.row I),.v (.int .i64 T)] [] 0 (.agg [.sl 1 (enc r.g.af),.sl 1 (enc r.g.aG),.sl 4 (enc r.g.ae),.osl 0 4 (0) (r.g.aw.length),.osl 1 1 (0) (r.gone.length)]) [(0,.arr 4 (enc r.g.aw)),(1,.arr 1 (enc r.gone))] 2:=by
 refine dtI Tryz.func45 rfl ?_;rw[q93]at h;have F:=trivial;refine sM ?_;refine sg fun _ Q2=>?_;simp only[go_sem];refine q4n h fun a6 h=>?_;simp only[go_sem];refine q8 Q2 (sg fun _ Q3=>?_);refine q07 ?_;refine q2g 7 5 7 [0,1,0,4,12,31,0,127] [3,4] [0,1,2,3,5] [4] [] [6] mixed (by kernel_rfl) (of_decide_eq_true (by kernel_rfl)) (by kernel_rfl) (by kernel_rfl) (by rfl) ?_;obtain⟨W,an,h⟩:=w9 h;simp only[go_sem];refine z0m [] (qx5 I.gone W an) rfl trivial rfl rfl rfl rfl ?_;simp only[go_sem];refine q8 Q3 (sM ?_);refine jg fun _ Q5=>?_;refine sM ?_;refine z8 fun _ Q7=>?_;refine q0e h [1,26,27] (fun x=>([(4,.ptr 0 0),(5,.ptr 1 0),(7,.ptr 2 0),(28,.v (.int .i64 x.1))],[(0,.box [.v (.slice none 0 0),.v (.slice none 0 0),.v (.slice none 0 0),.v (.slice none 0 0),.v (.slice none 0 0)]),(1,.box (Row.row a6.1)),(2,.box [.sl 1 (enc I.g.af),.sl 1 (enc I.g.aG),.sl 4 (enc I.g.ae),.osl 3 4 (0) (x.2.length),.osl 4 1 (0) (W.length)]),(3,.arr 4 (enc x.2)),(4,.arr 1 (enc W))])) 5 ?_;rintro b2 ⟨aj,Z⟩ h _ Q8;rw[q79]at h;refine sM ?_;refine sg fun _ ao=>?_;refine sB h (fun _ h=>?_) fun _ h=>?_
 .
  refine y7 (q8 ao (jg fun _ bi=>?_));refine z8 fun _ bs=>?_;refine sg fun _ b3=>?_;obtain⟨b5,F,h⟩:=bI F h;simp only[go_sem,F];refine ai ?_;refine q8 b3 (sg fun _ b4=>?_);refine sM ?_;refine sB h (fun _ h=>?_) fun _ h=>?_
  . exact au
  refine y7 (q8 b4 (q30 (fun (G:aC)=>q4v aj Z (d9 (q79 I T a6 W) b2) G=some r) [1,4,5,7,26,27,28] (fun G=>([(9,.ptr 3 0)],[(0,.box [.v (.slice none 0 0),.v (.slice none 0 0),.v (.slice none 0 0),.v (.slice none 0 0),.v (.slice none 0 0)]),(1,.box (Row.row a6.1)),(2,.box [.sl 1 (enc I.g.af),.sl 1 (enc I.g.aG),.sl 4 (enc I.g.ae),.osl 4 4 (0) (Z.length),.osl 5 1 (0) (W.length)]),(3,.box (Row.row G)),(4,.arr 4 (enc Z)),(5,.arr 1 (enc W))])) 6 ?_ ?_))
  .
   intro _ bv;refine sM ?_;refine sB h (fun _ h=>?_) fun _ h=>?_
   . refine q07 ?_;refine q2g 10 0 0 [0,1,0,4,12,28,60,124,15,287,1023,2047] [5] [5,6,7] [] [9] [] mixed (by kernel_rfl) (of_decide_eq_true (by kernel_rfl)) (by kernel_rfl) (by kernel_rfl) (by rfl) ?_;simp only[go_sem];exact au
   exact au
  rintro G h
  try dsimp only at h
  rw[q4v]at h;have aq:[[.v (.int .i64 G.aL),.v (.int .i64 G.To),.v (.int .i64 G.Port),.v (.bool G.aS)]]=enc ([G]:List aC):=by rfl
  obtain⟨ak,h⟩:=q06 h;have F:=Xb F ak;simp only[Xf,Xg,Xj,Xd]at ak;have ar:enc Z++[[.v (.int .i64 G.aL),.v (.int .i64 G.To),.v (.int .i64 G.Port),.v (.bool G.aS)]]=enc (Z++([G]:List aC)):=by exact (q2x Z ([G]:List aC)).symm
  simp only[go_sem,ak,ar];simp only[aq];exact au
 refine q0n (q1f ao (q0o Q8 (q0h Q7 (q8 Q5 (sg fun _ c0=>?_)))));obtain⟨b6,F,h⟩:=bI F h;have b1:(enc W).set (T.toNat) [.v (.bool true)]=enc (Xc W (T.toNat) true):=by exact q4y _ _ _
 simp only[go_sem,b1,F];refine ai ?_;exact au
def q8x(T:az)(I:Int->Option (Bool×az)):Int->Option (Bool×az):=
 fun G=>
 (if (decide (G<(T.g.ae.length:Int)))=true then q9 (idx T.gone G) (fun W=>
 (if W=true then I (i64.wrap (G+1))
 else q9 (q94 T G) (fun a6=>
 (if (!a6)=true then I (i64.wrap (G+1))
 else q9 (q93 T G) (fun Z=>
 q9 (q3b Z) (fun aj=>
 (if aj=true then some (true,Z)
 else I (i64.wrap (G+1)))))))))
 else some (false,T))
def q8a(G:az):Option (Bool×az):=
 d9 (q8x G) rounds 0
theorem z5f(T:az)(r:Bool×az)(h:q8a T=some r):ba pp 19 [.ptr 0 0] [(0,.box (Row.row T))] 1 (.v (.bool r.1)) [(0,.box (Row.row r.2))] 1:=by
 refine dtI Tryz.func19 rfl ?_;rw[q8a]at h;have F:=trivial;refine sM ?_;refine jg fun _ Q2=>?_;refine sM ?_;refine z8 fun _ Q4=>?_;refine q0e h [0,10] (fun G=>([(11,.v (.int .i64 G))],[(0,.box (Row.row T))])) 1 ?_;rintro an G h _ Q5;rw[q8x]at h;refine sM ?_;refine sg fun _ Q7=>?_;refine sB h (fun _ h=>?_) fun _ h=>?_
 .
  refine y7 (q8 Q7 (sg fun _ Q8=>?_));refine z8 fun _ Q9=>?_;refine sM ?_;refine sg fun _ a6=>?_;refine sg fun _ aj=>?_;obtain⟨W,F,h⟩:=bI F h;simp only[go_sem,F];refine ai ?_;rcases I:W with _|_
  .
   replace h:=q1l h I;simp only[go_sem,I];refine q4n h fun ao h=>?_;simp only[go_sem];refine q8 aj (sB h (fun _ h=>?_) fun _ h=>?_)
   . exact au
   refine y7 (q8 a6 (sg fun _ aq=>?_));obtain⟨ak,Z,h⟩:=w9 h;simp only[go_sem];refine q18 [] (z5u T G ak Z) ?_;simp only[go_sem];exact au
  replace h:=q1k h I;simp only[go_sem,I];exact au
 exact au
def qw6(G:az):Option (b7×Int):=
 q9 (q9c G) (fun I=>
 some (I,0))
def z1x(T:(List Int)×(List Int)×(List aH)×(List aC)×(List Bool)->Option (b7×Int)):(List Int)×(List Int)×(List aH)×(List aC)×(List Bool)->Option (b7×Int):=
 fun (W,Z,a6,aj,ak)=>
 q9 (q95 (⟨(⟨W,Z,a6,aj⟩:aa),ak⟩:az)) (fun G=>
 (if G.1=true then T (G.2.g.af,G.2.g.aG,G.2.g.ae,G.2.g.aw,G.2.gone)
 else q9 (q8a G.2) (fun I=>
 (if I.1=true then T (I.2.g.af,I.2.g.aG,I.2.g.ae,I.2.g.aw,I.2.gone)
 else qw6 I.2))))
def qq7(G:aa):Option (b7×Int):=
 q9 (q8r G) (fun I=>
 (if (!(I.1==0))=true then some ((⟨(⟨([]:List Int),([]:List Int),([]:List aH),([]:List aC)⟩:aa),([]:List Int)⟩:b7),1)
 else u7 (0<=(G.ae.length:Int)/\(G.ae.length:Int)*1<=140737488355328) (
 d9 (z1x) rounds (G.af,G.aG,G.ae,G.aw,(Xa (G.ae.length) false)))))
theorem z6o(W:aa)(r:b7×Int)(h:qq7 W=some r):ba pp 7 [.agg (Row.row W)] [] 0 (.tup [.agg [.sl 1 (enc r.1.bh.af),.sl 1 (enc r.1.bh.aG),.osl 0 4 (0) (r.1.bh.ae.length),.osl 1 4 (0) (r.1.bh.aw.length),.osl 2 1 (0) (r.1.Now.length)],.v (.int .i64 r.2)]) [(0,.arr 4 (enc r.1.bh.ae)),(1,.arr 4 (enc r.1.bh.aw)),(2,.arr 1 (enc r.1.Now))] 3:=by
 refine dtI Tryz.func7 rfl ?_;rw[qq7]at h;have F:=trivial;refine sM ?_;refine sg fun _ Q2=>?_;refine sg fun _ Q3=>?_;simp only[go_sem];refine q4n h fun b4 h=>?_;simp only[go_sem];refine q8 Q3 (sM ?_);refine sB h (fun _ h=>?_) fun _ h=>?_
 . exact au
 refine y7 (q8 Q2 (sg fun _ Q6=>?_));refine q07 ?_;refine q2g 5 0 0 [0,0,2,6,14,31,63,127] [2] [0] [] [4] [] mixed (by kernel_rfl) (of_decide_eq_true (by kernel_rfl)) (by kernel_rfl) (by kernel_rfl) (by rfl) ?_;obtain⟨F,h⟩:=bG F h;have aj:Xa (W.ae.length) [.v (.bool false)]=enc (Xa (W.ae.length) false):=by (simp[enc,qq3,qi7,q6l,q45];done)
 simp only[go_sem,F];simp only[aj];refine q8 Q6 (q30 (fun (I:az)=>qw6 I=some r) [] (fun I=>([(2,.ptr 0 0),(6,.ptr 1 0)],[(0,.box [.v (.slice none 0 0),.v (.slice none 0 0),.v (.slice none 0 0),.v (.slice none 0 0),.v (.slice none 0 0)]),(1,.box (Row.row I))])) 2 ?_ ?_)
 .
  intro _ Q8;refine z8 fun _ Q9=>?_;refine q0e h [] (fun x=>([(2,.ptr 0 0),(6,.ptr 1 0)],[(0,.box [.v (.slice none 0 0),.v (.slice none 0 0),.v (.slice none 0 0),.v (.slice none 0 0),.v (.slice none 0 0)]),(1,.box [.sl 1 (enc x.1),.sl 1 (enc x.2.1),.sl 4 (enc x.2.2.1),.sl 4 (enc x.2.2.2.1),.sl 1 (enc x.2.2.2.2)])])) 2 ?_;rintro b5 ⟨ak,an,ao,aq,ar⟩ h _ b6;rw[z1x]at h;refine sg fun _ bi=>?_;refine sg fun _ bs=>?_;obtain⟨T,Z,h⟩:=w9 h;simp only[go_sem];refine q18 [1] (z5w (⟨(⟨ak,an,ao,aq⟩:aa),ar⟩:az) T Z) ?_;simp only[go_sem];rcases G:T.1 with _|_
  . replace h:=q1l h G;obtain⟨b1,a6,h⟩:=w9 h;simp only[go_sem,G];refine q18 [1] (z5f T.2 b1 a6) ?_;simp only[go_sem];exact au
  replace h:=q1k h G;simp only[go_sem,G];exact au
 rintro I h
 try dsimp only at h
 rw[qw6]at h;refine sg fun _ Q7=>?_;obtain⟨b3,b2,h⟩:=w9 h;simp only[go_sem];refine q18 [] (z16 I b3 b2) ?_;simp only[go_sem];exact au
def qb1:Option Bool:=
 q9 (qq7 (⟨([-1]:List Int),([0]:List Int),([(⟨1,0,0,([]:List bg)⟩:aH),(⟨13,0,0,([]:List bg)⟩:aH),(⟨15,0,0,([]:List bg)⟩:aH)]:List aH),([(⟨0,1,0,false⟩:aC),(⟨1,2,0,false⟩:aC)]:List aC)⟩:aa)) (fun G=>
 (if (((G.2==0)&&((G.1.bh.ae.length:Int)==2))&&((G.1.Now.length:Int)==3))=true then q9 (idx G.1.Now 1) (fun I=>
 (if (I==(-1))=true then q9 (idx G.1.Now 2) (fun T=>
 some ((T==1)&&((G.1.bh.aw.length:Int)==1)))
 else some false))
 else some false))
instance j2c:Ct pp 4 (qb1 ) [] fun r=>(.v (.bool r)):=ctK Tryz.func4 rfl (by rw[qb1]) (by
 intro r h F;refine sM ?_;refine sg fun _ Q2=>?_;have T:[[.v (.int .i64 (-1))]]=enc ([-1]:List Int):=by rfl
 have W:[[.v (.int .i64 0)]]=enc ([0]:List Int):=by rfl
 have I:[[.v (.int .i64 1),.v (.int .i64 0),.v (.int .i64 0),.sl 2 (enc ([]:List bg))],[.v (.int .i64 13),.v (.int .i64 0),.v (.int .i64 0),.sl 2 (enc ([]:List bg))],[.v (.int .i64 15),.v (.int .i64 0),.v (.int .i64 0),.sl 2 (enc ([]:List bg))]]=enc ([(⟨1,0,0,([]:List bg)⟩:aH),(⟨13,0,0,([]:List bg)⟩:aH),(⟨15,0,0,([]:List bg)⟩:aH)]:List aH):=by rfl
 have G:=I;simp only[q45]at G;have Z:[[.v (.int .i64 0),.v (.int .i64 1),.v (.int .i64 0),.v (.bool false)],[.v (.int .i64 1),.v (.int .i64 2),.v (.int .i64 0),.v (.bool false)]]=enc ([(⟨0,1,0,false⟩:aC),(⟨1,2,0,false⟩:aC)]:List aC):=by rfl
 simp only[go_sem];simp only[T,W,G,I,Z];refine q8 Q2 (sg fun _ Q3=>?_);obtain⟨aj,a6,h⟩:=w9 h;simp only[go_sem];refine qm5 [] ([],[(0,.box [.sl 1 (enc ([-1]:List Int)),.sl 1 (enc ([0]:List Int)),.sl 4 (enc ([(⟨1,0,0,([]:List bg)⟩:aH),(⟨13,0,0,([]:List bg)⟩:aH),(⟨15,0,0,([]:List bg)⟩:aH)]:List aH)),.sl 4 (enc ([(⟨0,1,0,false⟩:aC),(⟨1,2,0,false⟩:aC)]:List aC))])]) 1 [some 4] [.agg [.sl 1 (enc ([-1]:List Int)),.sl 1 (enc ([0]:List Int)),.sl 4 (enc ([(⟨1,0,0,([]:List bg)⟩:aH),(⟨13,0,0,([]:List bg)⟩:aH),(⟨15,0,0,([]:List bg)⟩:aH)]:List aH)),.sl 4 (enc ([(⟨0,1,0,false⟩:aC),(⟨1,2,0,false⟩:aC)]:List aC))]] ?_;refine q18 [] (z6o (⟨([-1]:List Int),([0]:List Int),([(⟨1,0,0,([]:List bg)⟩:aH),(⟨13,0,0,([]:List bg)⟩:aH),(⟨15,0,0,([]:List bg)⟩:aH)]:List aH),([(⟨0,1,0,false⟩:aC),(⟨1,2,0,false⟩:aC)]:List aC)⟩:aa) aj a6) ?_;simp only[go_sem];exact au)
def q8m(T:aa)(G:Int->Option Bool):Int->Option Bool:=
 fun I=>
 (if (decide (I<(T.ae.length:Int)))=true then q9 (idx T.ae I) (fun W=>
 (if (decide (100<(W.Prog.length:Int)))=true then some false
 else G (i64.wrap (I+1))))
 else some true)
def q7t(G:aa):Option Bool:=
 (if ((((decide (20<(G.af.length:Int)))||(decide (20<(G.aG.length:Int))))||(decide (60<(G.ae.length:Int))))||(decide (100<(G.aw.length:Int))))=true then some false
 else d9 (q8m G) rounds 0)
instance j2a(G:aa):Ct pp 5 (q7t G) [.agg (Row.row G)] fun r=>(.v (.bool r)):=ctK Tryz.func5 rfl (by rw[q7t]) (by
 intro r h F;refine sM ?_;refine sg fun _ T=>?_;refine sM ?_;refine sB h (fun _ h=>?_) fun _ h=>?_
 . exact au
 refine y7 (q8 T (jg fun _ Z=>?_));refine sM ?_;refine z8 fun _ Q7=>?_;refine q0e h [1] (fun I=>([(3,.v (.int .i64 I))],[(0,.box (Row.row G))])) 1 ?_;rintro W I h _ Q8;rw[q8m]at h;exact au)
def qu2(G:Int):Option Bool:=
 some ((decide ((-2147483648)<=G))&&(decide (G<=2147483648)))
instance k00(G:Int):Ct pp 124 (qu2 G) [.v (.int .i64 G)] fun r=>(.v (.bool r)):=ctI Tryz.func124 rfl (by rw[qu2];exact au1)
def qb8(G:Int):Option Bool:=
 some (!(G==G))
instance j74(G:Int):Ct pp 152 (qb8 G) [.v (.int .i64 G)] fun r=>(.v (.bool r)):=ctI Tryz.func152 rfl (by rw[qb8];exact au1)
def q73(G:Int)(I:Int):Option Int:=
 q9 (qb8 G) (fun W=>
 q9 (qb8 I) (fun T=>
 (if W=true then (if T=true then some 0
 else some (-1))
 else (if T=true then some 1
 else (if (decide (G<I))=true then some (-1)
 else (if (decide (I<G))=true then some 1
 else some 0))))))
instance z7l(G:Int)(I:Int):Ct pp 144 (q73 G I) [.v (.int .i64 G),.v (.int .i64 I)] fun r=>(.v (.int .i64 r)):=ctI Tryz.func144 rfl (by rw[q73];exact au1)
def qr3(G:List Int)(W:Int->Option Int):Int->Option Int:=
 fun I=>
 (if (decide (I<(G.length:Int)))=true then q9 (idx G I) (fun T=>
 (if (!(T==0))=true then some T
 else W (i64.wrap (I+1))))
 else some 0)
def qu1(G:List Int):Option Int:=
 d9 (qr3 G) rounds 0
instance zo9(G:List Int):Ct pp 143 (qu1 G) [.sl 1 (enc G)] fun r=>(.v (.int .i64 r)):=ctK Tryz.func143 rfl (by rw[qu1]) (by
 intro r h F;refine sM ?_;refine sM ?_;refine jg fun _ W=>?_;refine sM ?_;refine z8 fun _ Z=>?_;refine q0e h [3,6,7] (fun I=>([(8,.v (.int .i64 I))],[])) 0 ?_;rintro T I h _ Q6;rw[qr3]at h;exact au)
def qq8(G:aP)(I:aP):Option Int:=
 q9 (q73 G.K I.K) (fun T=>
 q9 (q73 G.V I.V) (fun W=>
 q9 (qu1 ([T,W]:List Int)) (fun Z=>
 some Z)))
instance js5(I:aP)(T:aP):Ct pp 128 (qq8 I T) [.agg (Row.row I),.agg (Row.row T)] fun r=>(.v (.int .i64 r)):=ctK Tryz.func128 rfl (by rw[qq8]) (by
 intro r h F;refine sM ?_;refine sg fun _ Q2=>?_;refine q07 ?_;refine k1d ?_;obtain⟨G,Z,h⟩:=w9 h;simp only[go_sem];refine br (fun _=>(z7l I.K T.K G Z)) (by rfl) (by rfl) ?_;simp only[go_sem];refine q4n h fun W h=>?_;have a6:[[.v (.int .i64 G)],[.v (.int .i64 W)]]=enc ([G,W]:List Int):=by rfl
 obtain⟨ak,aj,h⟩:=w9 h;simp only[go_sem];simp only[a6];refine z1c (zo9 ([G,W]:List Int) ak aj) ?_;simp only[go_sem];exact au)
def z1a(G:aP)(I:aP):Option Bool:=
 q9 (qq8 G I) (fun T=>
 some (decide (T<0)))
instance jv6(G:aP)(I:aP):Ct pp 125 (z1a G I) [.agg (Row.row G),.agg (Row.row I)] fun r=>(.v (.bool r)):=ctI Tryz.func125 rfl (by rw[z1a];exact au1)
end Go.Proofs.YtomicnbiniapfaaGreat

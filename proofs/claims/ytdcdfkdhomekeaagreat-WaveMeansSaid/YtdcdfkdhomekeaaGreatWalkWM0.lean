/-
  What functions of the program compute, each told as a plain function that may give nothing, with the proof that the code does so. No condition beyond those that each theorem names.
-/
import Derived.Test.YtdcdfkdhomekeaaGreatLibD
import Derived.Test.YtdcdfkdhomekeaaGreatProg
import Derived.Test.YtdcdfkdhomekeaaGreatLibM
import Derived.DeepKeys4
import Derived.Test.YtdcdfkdhomekeaaGreatLibI
set_option linter.unusedSimpArgs false
set_option linter.unusedVariables false
set_option linter.unusedSectionVars false
set_option maxHeartbeats 2000000
set_option maxRecDepth 100000
open Int renaming toNat->Xa,toNat_natCast->Xh,reduceToNat->Xl
open List renaming take->Xb,length_cons->Xd,getD_eq_getElem?_getD->Xe,length_nil->Xf,length_append->Xj,forall_mem_cons->Xk,cons_append->Xm,length->Xo,nil_append->Xp,append_nil->Xq,map_cons->Xt,set->Xv,map_nil->Xw,drop->Xy,replicate->Xz,append_assoc->X0
open Nat renaming zero_add->Xc,add_zero->Xs,reduceAdd->Xu,mul_one->Xx
open And renaming intro->Xg
open Option renaming some.inj->Xi,getD_some->Xn,map_some->Xr
open Bool renaming and_eq_true->X3
namespace Go.Proofs.YtdcdfkdhomekeaaGreat
open Go Go.RowKit
open Go.IntKind (i64)
noncomputable abbrev pp:Program:=Tryz.prog
theorem zk0:Tryz.prog.underlying 77=some (.map 116 117):=by kernel_rfl
theorem zj9:Tryz.prog.underlying 78=some (.map 3 170):=by kernel_rfl
theorem z5g:Tryz.prog.underlying 79=some (.map 116 69):=by kernel_rfl
@[reducible] def tyF(P:Program)(t s:Nat)(a:Bool)(b:Nat)(n:List (Option Nat))(r:Option (Nat×Nat))(z:Option (List Value)):Prop:=szT P t=s/\q1b P t=true/\q5b P t=a/\q26 P t=b/\q89 P t=n/\qc9 P t=r/\q1s P t=z
@[go_sem] theorem k1j:tyF pp 2 1 false 8 [none] none (some [.int .i64 0])/\(qt6 pp 2=some .i64)/\tyF pp 3 1 false 8 [none] none (some [.int .i64 0])/\(qt6 pp 3=some .i64)/\tyF pp 4 1 false 1 [none] none (some [.bool false])/\(Tryz.prog.underlying 4=some .bool)/\tyF pp 22 1 false 24 [some 1] none (some [.slice none 0 0])/\(aK pp 22=some 3)/\tyF pp 23 1 false 24 [some 4] none (some [.slice none 0 0])/\(aK pp 23=some 41)/\tyF pp 24 1 false 24 [some 4] none (some [.slice none 0 0])/\(aK pp 24=some 43)/\tyF pp 26 4 true 96 [some 1,some 1,some 4,some 4] none (some [.slice none 0 0,.slice none 0 0,.slice none 0 0,.slice none 0 0])/\(q0c pp 26 0=some (0,22))/\(q0c pp 26 1=some (1,22))/\(q0c pp 26 2=some (2,23))/\(q0c pp 26 3=some (3,24))/\(q3m pp 26=some [(0,1),(1,1),(2,1),(3,1)]):=by (repeat' apply Xg)<;>kernel_rfl
@[go_sem] theorem k0h:tyF pp 27 1 false 24 [some 4] none (some [.slice none 0 0])/\(aK pp 27=some 47)/\tyF pp 30 1 false 24 [some 8] none (some [.slice none 0 0])/\(aK pp 30=some 54)/\tyF pp 31 1 false 24 [some 4] none (some [.slice none 0 0])/\(aK pp 31=some 55)/\tyF pp 32 1 false 8 [none] none (some [.int .i64 0])/\(qt6 pp 32=some .i64)/\tyF pp 39 1 false 24 [some 2] none (some [.slice none 0 0])/\(aK pp 39=some 208)/\tyF pp 41 4 true 48 [none,none,none,some 2] none (some [.int .i64 0,.int .i64 0,.int .i64 0,.slice none 0 0])/\(q0c pp 41 0=some (0,3))/\(q0c pp 41 1=some (1,3))/\(q0c pp 41 2=some (2,2))/\(q0c pp 41 3=some (3,39))/\(q3m pp 41=some [(0,1),(1,1),(2,1),(3,1)])/\(szT pp 43=4)/\(q1b pp 43=true)/\(q5b pp 43=true)/\(q26 pp 43=32)/\(q89 pp 43=[none,none,none,none])/\(qc9 pp 43=none)/\(q0c pp 43 0=some (0,3))/\(q0c pp 43 1=some (1,3)):=by (repeat' apply Xg)<;>kernel_rfl
@[go_sem] theorem k0g:(q0c pp 43 2=some (2,3))/\(q0c pp 43 3=some (3,4))/\(q3m pp 43=some [(0,1),(1,1),(2,1),(3,1)])/\(q1s pp 43=some [.int .i64 0,.int .i64 0,.int .i64 0,.bool false])/\tyF pp 45 2 true 16 [none,none] none (some [.int .i64 0,.int .i64 0])/\(q0c pp 45 0=some (0,2))/\(q0c pp 45 1=some (1,2))/\(q3m pp 45=some [(0,1),(1,1)])/\tyF pp 47 4 true 32 [none,none,none,none] none (some [.int .i64 0,.int .i64 0,.int .i64 0,.int .i64 0])/\(q0c pp 47 0=some (0,3))/\(q0c pp 47 1=some (1,3))/\(q0c pp 47 2=some (2,45))/\(q3m pp 47=some [(0,1),(1,1),(2,2)])/\tyF pp 48 4 true 32 [none,none,none,none] (some (4,3)) (some [.int .i64 0,.int .i64 0,.int .i64 0,.int .i64 0])/\(q3m pp 48=some [(0,1),(1,1),(2,1),(3,1)])/\tyF pp 50 5 true 40 [none,none,none,none,none] none (some [.int .i64 0,.int .i64 0,.int .i64 0,.int .i64 0,.int .i64 0])/\(q0c pp 50 0=some (0,3))/\(q0c pp 50 1=some (1,48))/\(q3m pp 50=some [(0,1),(1,4)])/\tyF pp 52 6 true 48 [none,none,none,none,none,none] none (some [.int .i64 0,.int .i64 0,.int .i64 0,.int .i64 0,.int .i64 0,.int .i64 0])/\(q0c pp 52 0=some (0,3))/\(q0c pp 52 1=some (1,50))/\(q3m pp 52=some [(0,1),(1,5)])/\(szT pp 54=8)/\(q1b pp 54=true)/\(q5b pp 54=true)/\(q26 pp 54=64)/\(q89 pp 54=[none,none,none,none,none,none,none,none])/\(qc9 pp 54=none)/\(q0c pp 54 0=some (0,52)):=by (repeat' apply Xg)<;>kernel_rfl
@[go_sem] theorem k0f:(q0c pp 54 1=some (6,3))/\(q0c pp 54 2=some (7,3))/\(q3m pp 54=some [(0,6),(6,1),(7,1)])/\(q1s pp 54=some [.int .i64 0,.int .i64 0,.int .i64 0,.int .i64 0,.int .i64 0,.int .i64 0,.int .i64 0,.int .i64 0])/\tyF pp 55 4 true 32 [none,none,none,none] none (some [.int .i64 0,.int .i64 0,.int .i64 0,.int .i64 0])/\(q0c pp 55 0=some (0,3))/\(q0c pp 55 1=some (1,3))/\(q0c pp 55 2=some (2,45))/\(q3m pp 55=some [(0,1),(1,1),(2,2)])/\(z2y pp 57=true)/\tyF pp 57 1 false 8 [none] none (some [.pointer none])/\tyF pp 58 1 false 24 [some 1] none (some [.slice none 0 0])/\(aK pp 58=some 94)/\tyF pp 60 1 false 24 [some 6] none (some [.slice none 0 0])/\(aK pp 60=some 52)/\tyF pp 61 1 false 24 [some 2] none (some [.slice none 0 0])/\(aK pp 61=some 103)/\tyF pp 63 2 true 48 [some 6,some 2] none (some [.slice none 0 0,.slice none 0 0])/\(q0c pp 63 0=some (0,60))/\(q0c pp 63 1=some (1,61))/\(q3m pp 63=some [(0,1),(1,1)])/\(szT pp 65=12)/\(q1b pp 65=true)/\(q5b pp 65=true):=by (repeat' apply Xg)<;>kernel_rfl
@[go_sem] theorem k0e:(q26 pp 65=272)/\(q89 pp 65=[some 6,some 2,some 1,some 1,some 4,some 4,some 1,some 6,some 2,none,some 8,some 4])/\(qc9 pp 65=none)/\(q0c pp 65 0=some (0,63))/\(q0c pp 65 1=some (2,26))/\(q0c pp 65 2=some (6,58))/\(q0c pp 65 3=some (7,63))/\(q0c pp 65 4=some (9,3))/\(q0c pp 65 5=some (10,30))/\(q0c pp 65 6=some (11,31))/\(q3m pp 65=some [(0,2),(2,4),(6,1),(7,2),(9,1),(10,1),(11,1)])/\(q1s pp 65=some [.slice none 0 0,.slice none 0 0,.slice none 0 0,.slice none 0 0,.slice none 0 0,.slice none 0 0,.slice none 0 0,.slice none 0 0,.slice none 0 0,.int .i64 0,.slice none 0 0,.slice none 0 0])/\tyF pp 68 3 true 24 [none,none,none] none (some [.int .i64 0,.int .i64 0,.int .i64 0])/\(q0c pp 68 0=some (0,45))/\(q0c pp 68 1=some (2,3))/\(q3m pp 68=some [(0,2),(2,1)])/\tyF pp 69 1 false 24 [some 3] none (some [.slice none 0 0])/\(aK pp 69=some 68)/\tyF pp 75 1 false 8 [none] none (some [.nilFunc])/\(z2y pp 76=true)/\tyF pp 76 1 false 8 [none] none (some [.pointer none])/\(Tryz.prog.underlying 77=some (.map 116 117))/\((Tryz.prog.info? 117).bind (·.zero)=some (.pointer none))/\tyF pp 77 1 false 8 [none] none (some [.map none])/\(Tryz.prog.underlying 78=some (.map 3 170))/\((Tryz.prog.info? 170).bind (·.zero)=some (.slice none 0 0))/\(szT pp 78=1)/\(q1b pp 78=true)/\(q5b pp 78=false)/\(q26 pp 78=8):=by (repeat' apply Xg)<;>kernel_rfl
@[go_sem] theorem k0d:(q89 pp 78=[none])/\(qc9 pp 78=none)/\(q1s pp 78=some [.map none])/\(Tryz.prog.underlying 79=some (.map 116 69))/\((Tryz.prog.info? 69).bind (·.zero)=some (.slice none 0 0))/\tyF pp 79 1 false 8 [none] none (some [.map none])/\tyF pp 81 11 true 168 [some 1,some 1,some 4,some 4,none,none,none,none,none,some 4,none] none (some [.slice none 0 0,.slice none 0 0,.slice none 0 0,.slice none 0 0,.map none,.map none,.map none,.int .i64 0,.int .i64 0,.slice none 0 0,.int .i64 0])/\(q0c pp 81 0=some (0,26))/\(q0c pp 81 1=some (4,77))/\(q0c pp 81 2=some (5,78))/\(q0c pp 81 3=some (6,79))/\(q0c pp 81 4=some (7,3))/\(q0c pp 81 5=some (8,3))/\(q0c pp 81 6=some (9,31))/\(q0c pp 81 7=some (10,32))/\(q3m pp 81=some [(0,4),(4,1),(5,1),(6,1),(7,1),(8,1),(9,1),(10,1)])/\tyF pp 89 1 false 8 [none] none (some [.nilFunc])/\tyF pp 90 1 false 24 [some 11] none (some [.slice none 0 0])/\(aK pp 90=some 92)/\tyF pp 92 11 true 88 [none,none,none,none,none,none,none,none,none,none,none] none (some [.int .i64 0,.int .i64 0,.int .i64 0,.int .i64 0,.int .i64 0,.int .i64 0,.int .i64 0,.int .i64 0,.int .i64 0,.int .i64 0,.int .i64 0])/\(q0c pp 92 0=some (0,3))/\(q0c pp 92 1=some (1,3))/\(q0c pp 92 2=some (2,3))/\(q0c pp 92 3=some (3,48))/\(q0c pp 92 4=some (7,48))/\(q3m pp 92=some [(0,1),(1,1),(2,1),(3,4),(7,4)])/\(szT pp 94=1)/\(q1b pp 94=true)/\(q5b pp 94=false)/\(q26 pp 94=24):=by (repeat' apply Xg)<;>kernel_rfl
@[go_sem] theorem k0c:(aK pp 94=some 90)/\(q89 pp 94=[some 1])/\(qc9 pp 94=none)/\(q1s pp 94=some [.slice none 0 0])/\tyF pp 103 2 true 48 [some 3,some 3] (some (2,69)) (some [.slice none 0 0,.slice none 0 0])/\(q3m pp 103=some [(0,1),(1,1)])/\tyF pp 108 1 false 24 [some 1] none (some [.slice none 0 0])/\(aK pp 108=some 69)/\tyF pp 116 6 true 48 [none,none,none,none,none,none] none (some [.int .i64 0,.int .i64 0,.int .i64 0,.int .i64 0,.int .i64 0,.int .i64 0])/\(q0c pp 116 0=some (0,3))/\(q0c pp 116 1=some (1,50))/\(q3m pp 116=some [(0,1),(1,5)])/\(z2y pp 117=true)/\tyF pp 117 1 false 8 [none] none (some [.pointer none])/\tyF pp 120 1 false 8 [none] none (some [.int .u64 0])/\(qt6 pp 120=some .u64)/\tyF pp 138 1 false 8 [none] none (some [.nilFunc])/\(z2y pp 143=true)/\(szT pp 143=1)/\(q1b pp 143=true)/\(q5b pp 143=false)/\(q26 pp 143=8)/\(q89 pp 143=[none])/\(qc9 pp 143=none):=by (repeat' apply Xg)<;>kernel_rfl
@[go_sem] theorem k0b:(q1s pp 143=some [.pointer none])/\tyF pp 145 2 true 32 [some 3,none] none (some [.slice none 0 0,.int .i64 0])/\(q0c pp 145 0=some (0,69))/\(q0c pp 145 1=some (1,3))/\(q3m pp 145=some [(0,1),(1,1)])/\tyF pp 151 1 false 24 [some 2] none (some [.slice none 0 0])/\(aK pp 151=some 45)/\tyF pp 166 1 false 4 [none] none (some [.int .u32 0])/\(qt6 pp 166=some .u32)/\tyF pp 168 1 false 8 [none] none (some [.int .u64 0])/\(qt6 pp 168=some .u64)/\tyF pp 170 1 false 24 [some 6] none (some [.slice none 0 0])/\(aK pp 170=some 172)/\tyF pp 172 6 true 48 [none,none,none,none,none,none] none (some [.int .i64 0,.int .i64 0,.int .i64 0,.int .i64 0,.int .i64 0,.int .i64 0])/\(q0c pp 172 0=some (0,50))/\(q0c pp 172 1=some (5,3))/\(q3m pp 172=some [(0,5),(5,1)])/\(szT pp 180=1)/\(q1b pp 180=true)/\(q5b pp 180=false)/\(q26 pp 180=24)/\(aK pp 180=some 4)/\(q89 pp 180=[some 1])/\(qc9 pp 180=none):=by (repeat' apply Xg)<;>kernel_rfl
@[go_sem] theorem k0a:(q1s pp 180=some [.slice none 0 0])/\tyF pp 181 1 false 8 [none] none (some [.nilFunc])/\tyF pp 193 1 false 8 [none] none (some [.nilFunc])/\tyF pp 195 2 true 16 [none,none] none (some [.int .i64 0,.int .u64 0])/\(q0c pp 195 0=some (0,2))/\(q0c pp 195 1=some (1,168))/\(q3m pp 195=some [(0,1),(1,1)])/\tyF pp 206 1 false 8 [none] none (some [.nilFunc])/\tyF pp 208 2 true 16 [none,none] none (some [.int .i64 0,.int .i64 0])/\(q0c pp 208 0=some (0,3))/\(q0c pp 208 1=some (1,2))/\(q3m pp 208=some [(0,1),(1,1)])/\tyF pp 210 1 false 8 [none] none (some [.nilFunc])/\tyF pp 214 1 false 8 [none] none (some [.nilFunc])/\(z2y pp 229=true)/\(szT pp 229=1)/\(q1b pp 229=true)/\(q5b pp 229=false):=by (repeat' apply Xg)<;>kernel_rfl
@[go_sem] theorem k09:(q26 pp 229=8)/\(q89 pp 229=[none])/\(qc9 pp 229=none)/\(q1s pp 229=some [.pointer none])/\tyF pp 230 1 false 24 [some 1] none (some [.slice none 0 0])/\(aK pp 230=some 2)/\tyF pp 232 6 true 80 [none,none,some 1,some 2,none,none] none (some [.int .i64 0,.int .i64 0,.slice none 0 0,.slice none 0 0,.int .i64 0,.int .i64 0])/\(q0c pp 232 0=some (0,45))/\(q0c pp 232 1=some (2,230))/\(q0c pp 232 2=some (3,151))/\(q0c pp 232 3=some (4,3))/\(q0c pp 232 4=some (5,3))/\(q3m pp 232=some [(0,2),(2,1),(3,1),(4,1),(5,1)])/\(u7 pp 3=true)/\(u7 pp 4=true)/\(u7 pp 5=true)/\(u7 pp 6=true)/\(u7 pp 7=true)/\(u7 pp 8=true)/\(u7 pp 9=true)/\(u7 pp 10=true)/\(u7 pp 11=true)/\(u7 pp 12=true)/\(u7 pp 13=true)/\(u7 pp 14=true)/\(u7 pp 15=true)/\(u7 pp 16=true)/\(u7 pp 17=true)/\(u7 pp 18=true)/\(u7 pp 19=true)/\(u7 pp 20=true)/\(u7 pp 21=true)/\(u7 pp 22=true)/\(u7 pp 23=true)/\(u7 pp 24=true)/\(u7 pp 25=true)/\(u7 pp 26=true)/\(u7 pp 27=true)/\(u7 pp 28=true)/\(u7 pp 29=true)/\(u7 pp 30=true)/\(u7 pp 31=true)/\(u7 pp 32=true)/\(u7 pp 33=true)/\(u7 pp 34=true)/\(u7 pp 35=true)/\(u7 pp 36=true)/\(u7 pp 37=true):=by (repeat' apply Xg)<;>kernel_rfl
@[go_sem] theorem k08:(u7 pp 38=true)/\(u7 pp 39=true)/\(u7 pp 40=true)/\(u7 pp 41=true)/\(u7 pp 42=true)/\(u7 pp 43=true)/\(u7 pp 44=true)/\(u7 pp 47=true)/\(u7 pp 48=true)/\(u7 pp 49=true)/\(u7 pp 50=true)/\(u7 pp 51=true)/\(u7 pp 52=true)/\(u7 pp 53=true)/\(u7 pp 54=true)/\(u7 pp 55=true)/\(u7 pp 56=true)/\(u7 pp 57=true)/\(u7 pp 58=true)/\(u7 pp 59=true)/\(u7 pp 60=true)/\(u7 pp 61=true)/\(u7 pp 62=true)/\(u7 pp 63=true)/\(u7 pp 64=true)/\(u7 pp 65=true)/\(u7 pp 66=true)/\(u7 pp 67=true)/\(u7 pp 68=true)/\(u7 pp 69=true)/\(u7 pp 70=true)/\(u7 pp 71=true)/\(u7 pp 72=true)/\(u7 pp 73=true)/\(u7 pp 74=true)/\(u7 pp 75=true)/\(u7 pp 76=true)/\(u7 pp 77=true)/\(u7 pp 78=true)/\(u7 pp 79=true)/\(u7 pp 80=true)/\(u7 pp 81=true)/\(u7 pp 82=true)/\(u7 pp 83=true)/\(u7 pp 84=true)/\(u7 pp 85=true)/\(u7 pp 86=true)/\(u7 pp 98=true)/\(u7 pp 99=true)/\(u7 pp 100=true)/\(u7 pp 101=true)/\(u7 pp 102=true)/\(u7 pp 103=true)/\(u7 pp 104=true)/\(u7 pp 105=true)/\(u7 pp 106=true)/\(u7 pp 107=true)/\(u7 pp 108=true)/\(u7 pp 109=true)/\(u7 pp 110=true):=by (repeat' apply Xg)<;>kernel_rfl
@[go_sem] theorem k07:(u7 pp 111=true)/\(u7 pp 112=true)/\(u7 pp 113=true)/\(u7 pp 114=true)/\(u7 pp 115=true)/\(u7 pp 116=true)/\(u7 pp 117=true)/\(u7 pp 118=true)/\(u7 pp 119=true)/\(u7 pp 120=true)/\(u7 pp 121=true)/\(u7 pp 122=true)/\(u7 pp 123=true)/\(u7 pp 124=true)/\(u7 pp 125=true)/\(u7 pp 126=true)/\(u7 pp 127=true)/\(u7 pp 128=true)/\(u7 pp 129=true)/\(u7 pp 130=true)/\(u7 pp 131=true)/\(u7 pp 137=true)/\(u7 pp 138=true)/\(u7 pp 139=true)/\(u7 pp 140=true)/\(u7 pp 141=true)/\(u7 pp 142=true)/\(u7 pp 143=true)/\(u7 pp 144=true)/\(u7 pp 145=true)/\(u7 pp 146=true)/\(u7 pp 147=true)/\(u7 pp 148=true)/\(u7 pp 149=true)/\(u7 pp 150=true)/\(u7 pp 151=true)/\(u7 pp 152=true)/\(u7 pp 153=true)/\(u7 pp 154=true)/\(u7 pp 156=true)/\(u7 pp 157=true)/\(u7 pp 158=true)/\(u7 pp 161=true)/\(u7 pp 162=true)/\(u7 pp 165=true)/\(u7 pp 166=true)/\(u7 pp 168=true)/\(u7 pp 169=true)/\(u7 pp 170=true)/\(u7 pp 171=true)/\(u7 pp 173=true)/\(u7 pp 174=true)/\(u7 pp 175=true):=by (repeat' apply Xg)<;>kernel_rfl
theorem mixed:Tryz.prog.follows .mixedOrders=true:=by kernel_rfl
structure aP(α:Type) where
 a0:α
 a1:α
instance {α:Type}[Row α]:Row (aP α):=⟨Row.sz α+Row.sz α,λx=>Row.row x.a0++Row.row x.a1⟩
instance {α:Type}[Dat α]:Dat (aP α) where
 ct:=Dat.ct α++(Dat.ct α)
 ok x:=Dat.ok x.a0/\Dat.ok x.a1
 len:=by simp only[Xj,Dat.len];(try simp only[Row.sz]);(try omega)
 of a h:=by
  obtain⟨b0,f,rfl,b,g0⟩:=q2m h;obtain⟨c,rfl,d⟩:=Dat.of (α:=α) _ b;obtain⟨e,rfl,k1⟩:=Dat.of (α:=α) _ g0;exact⟨⟨c,e⟩,by simp only[Row.row,X0],d,k1⟩
structure bq(α:Type) where
 a0:α
 a1:α
 a2:α
 a3:α
instance {α:Type}[Row α]:Row (bq α):=⟨Row.sz α+Row.sz α+Row.sz α+Row.sz α,λx=>Row.row x.a0++Row.row x.a1++Row.row x.a2++Row.row x.a3⟩
instance {α:Type}[Dat α]:Dat (bq α) where
 ct:=Dat.ct α++(Dat.ct α++(Dat.ct α++(Dat.ct α)))
 ok x:=Dat.ok x.a0/\Dat.ok x.a1/\Dat.ok x.a2/\Dat.ok x.a3
 len:=by simp only[Xj,Dat.len];(try simp only[Row.sz]);(try omega)
 of a h:=by
  obtain⟨b0,m,rfl,b,g0⟩:=q2m h;obtain⟨n,o,rfl,c,g1⟩:=q2m g0;obtain⟨p,q,rfl,d,g2⟩:=q2m g1;obtain⟨e,rfl,f⟩:=Dat.of (α:=α) _ b;obtain⟨g,rfl,k1⟩:=Dat.of (α:=α) _ c;obtain⟨j,rfl,k2⟩:=Dat.of (α:=α) _ d;obtain⟨k,rfl,l⟩:=Dat.of (α:=α) _ g2;exact⟨⟨e,g,j,k⟩,by simp only[Row.row,X0],f,k1,k2,l⟩
structure fH where
 n:Int
instance:Row fH:=⟨1,λx=>[.v (.int .u64 x.n)]⟩
@[go_sem] theorem k0p(x:fH):Row.row x=[.v (.int .u64 x.n)]:=rfl
structure cy where
 Op:Int
 N:Int
instance:Row cy:=⟨2,λx=>[.v (.int .i64 x.Op),.v (.int .i64 x.N)]⟩
@[go_sem] theorem k0s(x:cy):Row.row x=[.v (.int .i64 x.Op),.v (.int .i64 x.N)]:=rfl
@[go_sem] theorem k1m:Row.sz cy=2:=rfl
instance:Dat cy where
 ct:=Dat.ct Int++(Dat.ct Int)
 ok x:=Dat.ok x.Op/\Dat.ok x.N
 len:=rfl
 of a h:=by
  obtain⟨b0,f,rfl,b,g0⟩:=q2m h;obtain⟨c,rfl,d⟩:=Dat.of (α:=Int) _ b;obtain⟨e,rfl,k1⟩:=Dat.of (α:=Int) _ g0;exact⟨⟨c,e⟩,rfl,d,k1⟩
structure aN where
 Kind:Int
 Scope:Int
 Arg:Int
 Prog:List cy
instance:Row aN:=⟨4,λx=>[.v (.int .i64 x.Kind),.v (.int .i64 x.Scope),.v (.int .i64 x.Arg),.sl 2 (enc x.Prog)]⟩
@[go_sem] theorem k01(x:aN):Row.row x=[.v (.int .i64 x.Kind),.v (.int .i64 x.Scope),.v (.int .i64 x.Arg),.sl 2 (enc x.Prog)]:=rfl
@[go_sem] theorem k0k:Row.sz aN=4:=rfl
instance:Dat aN where
 ct:=Dat.ct Int++(Dat.ct Int++(Dat.ct Int++(Dat.ct (List cy))))
 ok x:=Dat.ok x.Kind/\Dat.ok x.Scope/\Dat.ok x.Arg/\Dat.ok x.Prog
 len:=rfl
 of a h:=by
  obtain⟨b0,m,rfl,b,g0⟩:=q2m h;obtain⟨n,o,rfl,c,g1⟩:=q2m g0;obtain⟨p,q,rfl,d,g2⟩:=q2m g1;obtain⟨e,rfl,f⟩:=Dat.of (α:=Int) _ b;obtain⟨g,rfl,k1⟩:=Dat.of (α:=Int) _ c;obtain⟨j,rfl,k2⟩:=Dat.of (α:=Int) _ d;obtain⟨k,rfl,l⟩:=Dat.of (α:=List cy) _ g2;exact⟨⟨e,g,j,k⟩,rfl,f,k1,k2,l⟩
structure aU where
 aO:Int
 To:Int
 Port:Int
 bR:Bool
instance:Row aU:=⟨4,λx=>[.v (.int .i64 x.aO),.v (.int .i64 x.To),.v (.int .i64 x.Port),.v (.bool x.bR)]⟩
@[go_sem] theorem k03(x:aU):Row.row x=[.v (.int .i64 x.aO),.v (.int .i64 x.To),.v (.int .i64 x.Port),.v (.bool x.bR)]:=rfl
@[go_sem] theorem k0n:Row.sz aU=4:=rfl
instance:Dat aU where
 ct:=Dat.ct Int++(Dat.ct Int++(Dat.ct Int++(Dat.ct Bool)))
 ok x:=Dat.ok x.aO/\Dat.ok x.To/\Dat.ok x.Port/\Dat.ok x.bR
 len:=rfl
 of a h:=by
  obtain⟨b0,m,rfl,b,g0⟩:=q2m h;obtain⟨n,o,rfl,c,g1⟩:=q2m g0;obtain⟨p,q,rfl,d,g2⟩:=q2m g1;obtain⟨e,rfl,f⟩:=Dat.of (α:=Int) _ b;obtain⟨g,rfl,k1⟩:=Dat.of (α:=Int) _ c;obtain⟨j,rfl,k2⟩:=Dat.of (α:=Int) _ d;obtain⟨k,rfl,l⟩:=Dat.of (α:=Bool) _ g2;exact⟨⟨e,g,j,k⟩,rfl,f,k1,k2,l⟩
structure aa where
 ae:List Int
 aG:List Int
 al:List aN
 aw:List aU
instance:Row aa:=⟨4,λx=>[.sl 1 (enc x.ae),.sl 1 (enc x.aG),.sl 4 (enc x.al),.sl 4 (enc x.aw)]⟩
@[go_sem] theorem jx0(x:aa):Row.row x=[.sl 1 (enc x.ae),.sl 1 (enc x.aG),.sl 4 (enc x.al),.sl 4 (enc x.aw)]:=rfl
@[go_sem] theorem jz7:Row.sz aa=4:=rfl
instance:Dat aa where
 ct:=Dat.ct (List Int)++(Dat.ct (List Int)++(Dat.ct (List aN)++(Dat.ct (List aU))))
 ok x:=Dat.ok x.ae/\Dat.ok x.aG/\Dat.ok x.al/\Dat.ok x.aw
 len:=rfl
 of a h:=by
  obtain⟨b0,m,rfl,b,g0⟩:=q2m h;obtain⟨n,o,rfl,c,g1⟩:=q2m g0;obtain⟨p,q,rfl,d,g2⟩:=q2m g1;obtain⟨e,rfl,f⟩:=Dat.of (α:=List Int) _ b;obtain⟨g,rfl,k1⟩:=Dat.of (α:=List Int) _ c;obtain⟨j,rfl,k2⟩:=Dat.of (α:=List aN) _ d;obtain⟨k,rfl,l⟩:=Dat.of (α:=List aU) _ g2;exact⟨⟨e,g,j,k⟩,rfl,f,k1,k2,l⟩
structure aR where
 K:Int
 V:Int
instance:Row aR:=⟨2,λx=>[.v (.int .i64 x.K),.v (.int .i64 x.V)]⟩
@[go_sem] theorem k0q(x:aR):Row.row x=[.v (.int .i64 x.K),.v (.int .i64 x.V)]:=rfl
@[go_sem] theorem k1k:Row.sz aR=2:=rfl
instance:Dat aR where
 ct:=Dat.ct Int++(Dat.ct Int)
 ok x:=Dat.ok x.K/\Dat.ok x.V
 len:=rfl
 of a h:=by
  obtain⟨b0,f,rfl,b,g0⟩:=q2m h;obtain⟨c,rfl,d⟩:=Dat.of (α:=Int) _ b;obtain⟨e,rfl,k1⟩:=Dat.of (α:=Int) _ g0;exact⟨⟨c,e⟩,rfl,d,k1⟩
structure aT where
 Node:Int
 aJ:Int
 Rec:aR
instance:Row aT:=⟨4,λx=>[.v (.int .i64 x.Node),.v (.int .i64 x.aJ),.v (.int .i64 x.Rec.K),.v (.int .i64 x.Rec.V)]⟩
@[go_sem] theorem k02(x:aT):Row.row x=[.v (.int .i64 x.Node),.v (.int .i64 x.aJ),.v (.int .i64 x.Rec.K),.v (.int .i64 x.Rec.V)]:=rfl
@[go_sem] theorem k0m:Row.sz aT=4:=rfl
instance:Dat aT where
 ct:=Dat.ct Int++(Dat.ct Int++(Dat.ct aR))
 ok x:=Dat.ok x.Node/\Dat.ok x.aJ/\Dat.ok x.Rec
 len:=rfl
 of a h:=by
  obtain⟨b0,j,rfl,b,g0⟩:=q2m h;obtain⟨k,l,rfl,c,g1⟩:=q2m g0;obtain⟨d,rfl,e⟩:=Dat.of (α:=Int) _ b;obtain⟨f,rfl,k1⟩:=Dat.of (α:=Int) _ c;obtain⟨g,rfl,k2⟩:=Dat.of (α:=aR) _ g1;exact⟨⟨d,f,g⟩,rfl,e,k1,k2⟩
structure aH where
 aO:Int
 br:Int
 bL:Int
 Add:bq Int
 T:bq Int
instance:Row aH:=⟨11,λx=>[.v (.int .i64 x.aO),.v (.int .i64 x.br),.v (.int .i64 x.bL),.v (.int .i64 x.Add.a0),.v (.int .i64 x.Add.a1),.v (.int .i64 x.Add.a2),.v (.int .i64 x.Add.a3),.v (.int .i64 x.T.a0),.v (.int .i64 x.T.a1),.v (.int .i64 x.T.a2),.v (.int .i64 x.T.a3)]⟩
@[go_sem] theorem k0t(x:aH):Row.row x=[.v (.int .i64 x.aO),.v (.int .i64 x.br),.v (.int .i64 x.bL),.v (.int .i64 x.Add.a0),.v (.int .i64 x.Add.a1),.v (.int .i64 x.Add.a2),.v (.int .i64 x.Add.a3),.v (.int .i64 x.T.a0),.v (.int .i64 x.T.a1),.v (.int .i64 x.T.a2),.v (.int .i64 x.T.a3)]:=rfl
@[go_sem] theorem k1n:Row.sz aH=11:=rfl
structure af where
 D:Int
 C:bq Int
instance:Row af:=⟨5,λx=>[.v (.int .i64 x.D),.v (.int .i64 x.C.a0),.v (.int .i64 x.C.a1),.v (.int .i64 x.C.a2),.v (.int .i64 x.C.a3)]⟩
@[go_sem] theorem k00(x:af):Row.row x=[.v (.int .i64 x.D),.v (.int .i64 x.C.a0),.v (.int .i64 x.C.a1),.v (.int .i64 x.C.a2),.v (.int .i64 x.C.a3)]:=rfl
@[go_sem] theorem k0j:Row.sz af=5:=rfl
structure ax where
 Node:Int
 Time:af
instance:Row ax:=⟨6,λx=>[.v (.int .i64 x.Node),.v (.int .i64 x.Time.D),.v (.int .i64 x.Time.C.a0),.v (.int .i64 x.Time.C.a1),.v (.int .i64 x.Time.C.a2),.v (.int .i64 x.Time.C.a3)]⟩
@[go_sem] theorem jw9(x:ax):Row.row x=[.v (.int .i64 x.Node),.v (.int .i64 x.Time.D),.v (.int .i64 x.Time.C.a0),.v (.int .i64 x.Time.C.a1),.v (.int .i64 x.Time.C.a2),.v (.int .i64 x.Time.C.a3)]:=rfl
@[go_sem] theorem jz6:Row.sz ax=6:=rfl
structure a7 where
 Rec:aR
 N:Int
instance:Row a7:=⟨3,λx=>[.v (.int .i64 x.Rec.K),.v (.int .i64 x.Rec.V),.v (.int .i64 x.N)]⟩
@[go_sem] theorem j5z(x:a7):Row.row x=[.v (.int .i64 x.Rec.K),.v (.int .i64 x.Rec.V),.v (.int .i64 x.N)]:=rfl
@[go_sem] theorem k0l:Row.sz a7=3:=rfl
structure aM where
 aj:List ax
 in_:List (aP (List a7))
instance:Row aM:=⟨2,λx=>[.sl 6 (enc x.aj),.sl 2 (enc x.in_)]⟩
@[go_sem] theorem ji4(x:aM):Row.row x=[.sl 6 (enc x.aj),.sl 2 (enc x.in_)]:=rfl
@[go_sem] theorem jo1:Row.sz aM=2:=rfl
structure bn where
 cW:ax
 fY:Int
 gj:Int
instance:Row bn:=⟨8,λx=>[.v (.int .i64 x.cW.Node),.v (.int .i64 x.cW.Time.D),.v (.int .i64 x.cW.Time.C.a0),.v (.int .i64 x.cW.Time.C.a1),.v (.int .i64 x.cW.Time.C.a2),.v (.int .i64 x.cW.Time.C.a3),.v (.int .i64 x.fY),.v (.int .i64 x.gj)]⟩
@[go_sem] theorem jz9(x:bn):Row.row x=[.v (.int .i64 x.cW.Node),.v (.int .i64 x.cW.Time.D),.v (.int .i64 x.cW.Time.C.a0),.v (.int .i64 x.cW.Time.C.a1),.v (.int .i64 x.cW.Time.C.a2),.v (.int .i64 x.cW.Time.C.a3),.v (.int .i64 x.fY),.v (.int .i64 x.gj)]:=rfl
@[go_sem] theorem k0i:Row.sz bn=8:=rfl
structure aB where
 Node:Int
 aJ:Int
 Rec:aR
instance:Row aB:=⟨4,λx=>[.v (.int .i64 x.Node),.v (.int .i64 x.aJ),.v (.int .i64 x.Rec.K),.v (.int .i64 x.Rec.V)]⟩
@[go_sem] theorem k0r(x:aB):Row.row x=[.v (.int .i64 x.Node),.v (.int .i64 x.aJ),.v (.int .i64 x.Rec.K),.v (.int .i64 x.Rec.V)]:=rfl
@[go_sem] theorem k1l:Row.sz aB=4:=rfl
structure aq where
 aI:aM
 g:aa
 table:List (List (List aH))
 ay:aM
 work:Int
 aL:List bn
 outs:List aB
instance:Row aq:=⟨12,λx=>[.sl 6 (enc x.aI.aj),.sl 2 (enc x.aI.in_),.sl 1 (enc x.g.ae),.sl 1 (enc x.g.aG),.sl 4 (enc x.g.al),.sl 4 (enc x.g.aw),.sl 1 (enc x.table),.sl 6 (enc x.ay.aj),.sl 2 (enc x.ay.in_),.v (.int .i64 x.work),.sl 8 (enc x.aL),.sl 4 (enc x.outs)]⟩
@[go_sem] theorem j8t(x:aq):Row.row x=[.sl 6 (enc x.aI.aj),.sl 2 (enc x.aI.in_),.sl 1 (enc x.g.ae),.sl 1 (enc x.g.aG),.sl 4 (enc x.g.al),.sl 4 (enc x.g.aw),.sl 1 (enc x.table),.sl 6 (enc x.ay.aj),.sl 2 (enc x.ay.in_),.v (.int .i64 x.work),.sl 8 (enc x.aL),.sl 4 (enc x.outs)]:=rfl
@[go_sem] theorem jc5:Row.sz aq=12:=rfl
structure az where
 r:aR
 stack:List Int
 out:List aR
 at_:Int
 bad:Int
instance:Row az:=⟨6,λx=>[.v (.int .i64 x.r.K),.v (.int .i64 x.r.V),.sl 1 (enc x.stack),.sl 2 (enc x.out),.v (.int .i64 x.at_),.v (.int .i64 x.bad)]⟩
@[go_sem] theorem j7q(x:az):Row.row x=[.v (.int .i64 x.r.K),.v (.int .i64 x.r.V),.sl 1 (enc x.stack),.sl 2 (enc x.out),.v (.int .i64 x.at_),.v (.int .i64 x.bad)]:=rfl
@[go_sem] theorem j8f:Row.sz az=6:=rfl
structure ak where
 out:List a7
 many:Int
instance:Row ak:=⟨2,λx=>[.sl 3 (enc x.out),.v (.int .i64 x.many)]⟩
@[go_sem] theorem ji5(x:ak):Row.row x=[.sl 3 (enc x.out),.v (.int .i64 x.many)]:=rfl
@[go_sem] theorem jo2:Row.sz ak=2:=rfl
structure aV where
 hi:Int
 lo:fH
instance:Row aV:=⟨2,λx=>[.v (.int .i64 x.hi),.v (.int .u64 x.lo.n)]⟩
@[go_sem] theorem jo3(x:aV):Row.row x=[.v (.int .i64 x.hi),.v (.int .u64 x.lo.n)]:=rfl
@[go_sem] theorem jp8:Row.sz aV=2:=rfl
structure ah where
 node:Int
 time:af
instance:Row ah:=⟨6,λx=>[.v (.int .i64 x.node),.v (.int .i64 x.time.D),.v (.int .i64 x.time.C.a0),.v (.int .i64 x.time.C.a1),.v (.int .i64 x.time.C.a2),.v (.int .i64 x.time.C.a3)]⟩
@[go_sem] theorem jc6(x:ah):Row.row x=[.v (.int .i64 x.node),.v (.int .i64 x.time.D),.v (.int .i64 x.time.C.a0),.v (.int .i64 x.time.C.a1),.v (.int .i64 x.time.C.a2),.v (.int .i64 x.time.C.a3)]:=rfl
@[go_sem] theorem jh3:Row.sz ah=6:=rfl
structure aD where
 Time:af
 N:Int
instance:Row aD:=⟨6,λx=>[.v (.int .i64 x.Time.D),.v (.int .i64 x.Time.C.a0),.v (.int .i64 x.Time.C.a1),.v (.int .i64 x.Time.C.a2),.v (.int .i64 x.Time.C.a3),.v (.int .i64 x.N)]⟩
@[go_sem] theorem jx1(x:aD):Row.row x=[.v (.int .i64 x.Time.D),.v (.int .i64 x.Time.C.a0),.v (.int .i64 x.Time.C.a1),.v (.int .i64 x.Time.C.a2),.v (.int .i64 x.Time.C.a3),.v (.int .i64 x.N)]:=rfl
@[go_sem] theorem jz8:Row.sz aD=6:=rfl
structure a8 where
 g:aa
 ins:List ah×List (aP (List a7))
 ay:List Int×List (List aD)
 aE:List ah×List (List a7)
 work:Int
 aC:Int
 outs:List aB
 e:Int
instance:Key ah where
 kv x:=.agg ⟨[.int .i64 x.node,.int .i64 x.time.D,.int .i64 x.time.C.a0,.int .i64 x.time.C.a1,.int .i64 x.time.C.a2,.int .i64 x.time.C.a3]⟩
 keq a b:=(a.node==b.node)&&(a.time.D==b.time.D)&&(a.time.C.a0==b.time.C.a0)&&(a.time.C.a1==b.time.C.a1)&&(a.time.C.a2==b.time.C.a2)&&(a.time.C.a3==b.time.C.a3)
 bX:=by
  intro a b;obtain⟨a1,⟨a2,⟨a3,a4,a5,c⟩⟩⟩:=a;obtain⟨d,⟨e,⟨f,g,j,k⟩⟩⟩:=b
  constructor
  . intro h;simp only[X3,beq_iff_eq]at h;simp[h]
  intro h;cases h;simp
 okb a:=(Key.okb a.node)&&(Key.okb a.time.D)&&(Key.okb a.time.C.a0)&&(Key.okb a.time.C.a1)&&(Key.okb a.time.C.a2)&&(Key.okb a.time.C.a3)
 inj:=by
  intro a b h;obtain⟨a1,⟨a2,⟨a3,a4,a5,c⟩⟩⟩:=a;obtain⟨d,⟨e,⟨f,g,j,k⟩⟩⟩:=b;simp at h;simp[h]
@[go_sem] theorem k0o(x:aP (List a7)):Row.row x=[.sl 3 (enc x.a0),.sl 3 (enc x.a1)]:=rfl
theorem j9m:laidOutB pp=true:=by kernel_rfl
theorem z5p:Go.Maps.Keyed pp 3:=Go.Maps.int_keyed (q:=.i64) (by kernel_rfl)
theorem j6v(p:Int)(h:Key.okb p=true):∃l,keyOf pp 3 (Key.kv p)=some l:=eN (by kernel_rfl) h
theorem q42:Go.Maps.Keyed pp 116:=Go.Maps.Keyed.of_law (deep_law_laid j9m (m:=6) (by omega) (of_decide_eq_true (by kernel_rfl)) (by kernel_rfl) (by kernel_rfl))
theorem z3e(p:ah)(h:Key.okb p=true):∃l,keyOf pp 116 (Key.kv p)=some l:=by
 obtain⟨a1,⟨a2,⟨a3,a4,a5,a⟩⟩⟩:=p;replace h:(Key.okb a1&&Key.okb a2&&Key.okb a3&&Key.okb a4&&Key.okb a5&&Key.okb a)=true:=h;simp only[X3]at h;obtain⟨⟨⟨⟨⟨b,c⟩,d⟩,e⟩,f⟩,g⟩:=h;exact j4g (by rw[Tryz.underlying116]) (by kernel_rfl) (by kernel_rfl) (by kernel_rfl) (by kernel_rfl) (Xk.2 ⟨z2l b,Xk.2 ⟨z2l c,Xk.2 ⟨z2l d,Xk.2 ⟨z2l e,Xk.2 ⟨z2l f,Xk.2 ⟨z2l g,λ_ h=>nomatch h⟩⟩⟩⟩⟩⟩)
@[go_sem] theorem k1v:EqT pp 52 [some .i64,some .i64,some .i64,some .i64,some .i64,some .i64]:=j7o (by kernel_rfl) (by kernel_rfl) (by kernel_rfl)
@[go_sem] theorem k1u:EqT pp 55 [some .i64,some .i64,some .i64,some .i64]:=j7o (by kernel_rfl) (by kernel_rfl) (by kernel_rfl)
attribute [go_sem] Tryz.ntmps3 Tryz.results3 Tryz.ntmps4 Tryz.results4 Tryz.ntmps5 Tryz.results5 Tryz.ntmps6 Tryz.results6 Tryz.ntmps7 Tryz.results7 Tryz.ntmps8 Tryz.results8 Tryz.ntmps9 Tryz.results9 Tryz.ntmps10 Tryz.results10 Tryz.ntmps11 Tryz.results11 Tryz.ntmps12 Tryz.results12 Tryz.ntmps13 Tryz.results13 Tryz.ntmps14 Tryz.results14 Tryz.ntmps15 Tryz.results15 Tryz.ntmps16 Tryz.results16 Tryz.ntmps17 Tryz.results17 Tryz.ntmps18 Tryz.results18 Tryz.ntmps19 Tryz.results19 Tryz.ntmps20 Tryz.results20 Tryz.ntmps21 Tryz.results21 Tryz.ntmps22 Tryz.results22 Tryz.ntmps23 Tryz.results23 Tryz.ntmps24 Tryz.results24 Tryz.ntmps25 Tryz.results25 Tryz.ntmps26 Tryz.results26 Tryz.ntmps27 Tryz.results27 Tryz.ntmps28 Tryz.results28 Tryz.ntmps29 Tryz.results29 Tryz.ntmps30 Tryz.results30 Tryz.ntmps31 Tryz.results31 Tryz.ntmps32 Tryz.results32 Tryz.ntmps33 Tryz.results33 Tryz.ntmps34 Tryz.results34 Tryz.ntmps35 Tryz.results35 Tryz.ntmps36 Tryz.results36 Tryz.ntmps37 Tryz.results37 Tryz.ntmps38 Tryz.results38 Tryz.ntmps39 Tryz.results39 Tryz.ntmps40 Tryz.results40 Tryz.ntmps41 Tryz.results41 Tryz.ntmps42 Tryz.results42 Tryz.ntmps43 Tryz.results43 Tryz.ntmps44 Tryz.results44 Tryz.ntmps47 Tryz.results47 Tryz.ntmps48 Tryz.results48 Tryz.ntmps49 Tryz.results49 Tryz.ntmps50 Tryz.results50 Tryz.ntmps51 Tryz.results51 Tryz.ntmps52 Tryz.results52 Tryz.ntmps53 Tryz.results53 Tryz.ntmps54 Tryz.results54 Tryz.ntmps55 Tryz.results55 Tryz.ntmps56 Tryz.results56 Tryz.ntmps57 Tryz.results57 Tryz.ntmps58 Tryz.results58 Tryz.ntmps59 Tryz.results59 Tryz.ntmps60 Tryz.results60 Tryz.ntmps61 Tryz.results61 Tryz.ntmps62 Tryz.results62 Tryz.ntmps63 Tryz.results63 Tryz.ntmps64 Tryz.results64 Tryz.ntmps65 Tryz.results65 Tryz.ntmps66 Tryz.results66 Tryz.ntmps67 Tryz.results67 Tryz.ntmps68 Tryz.results68 Tryz.ntmps69 Tryz.results69 Tryz.ntmps70 Tryz.results70 Tryz.ntmps71 Tryz.results71 Tryz.ntmps72 Tryz.results72 Tryz.ntmps73 Tryz.results73 Tryz.ntmps74 Tryz.results74 Tryz.ntmps75 Tryz.results75 Tryz.ntmps76 Tryz.results76 Tryz.ntmps77 Tryz.results77 Tryz.ntmps78 Tryz.results78 Tryz.ntmps79 Tryz.results79 Tryz.ntmps80 Tryz.results80 Tryz.ntmps81 Tryz.results81 Tryz.ntmps82 Tryz.results82 Tryz.ntmps83 Tryz.results83 Tryz.ntmps84 Tryz.results84 Tryz.ntmps85 Tryz.results85 Tryz.ntmps86 Tryz.results86 Tryz.ntmps98 Tryz.results98 Tryz.ntmps99 Tryz.results99 Tryz.ntmps100 Tryz.results100 Tryz.ntmps101 Tryz.results101 Tryz.ntmps102 Tryz.results102 Tryz.ntmps103 Tryz.results103 Tryz.ntmps104 Tryz.results104 Tryz.ntmps105 Tryz.results105 Tryz.ntmps106 Tryz.results106 Tryz.ntmps107 Tryz.results107 Tryz.ntmps108 Tryz.results108 Tryz.ntmps109 Tryz.results109 Tryz.ntmps110 Tryz.results110 Tryz.ntmps111 Tryz.results111 Tryz.ntmps112 Tryz.results112 Tryz.ntmps113 Tryz.results113 Tryz.ntmps114 Tryz.results114 Tryz.ntmps115 Tryz.results115 Tryz.ntmps116 Tryz.results116 Tryz.ntmps117 Tryz.results117 Tryz.ntmps118 Tryz.results118 Tryz.ntmps119 Tryz.results119 Tryz.ntmps120 Tryz.results120 Tryz.ntmps121 Tryz.results121 Tryz.ntmps122 Tryz.results122 Tryz.ntmps123 Tryz.results123 Tryz.ntmps124 Tryz.results124 Tryz.ntmps125 Tryz.results125 Tryz.ntmps126 Tryz.results126 Tryz.ntmps127 Tryz.results127 Tryz.ntmps128 Tryz.results128 Tryz.ntmps129 Tryz.results129 Tryz.ntmps130 Tryz.results130 Tryz.ntmps131 Tryz.results131 Tryz.ntmps137 Tryz.results137 Tryz.ntmps138 Tryz.results138 Tryz.ntmps139 Tryz.results139 Tryz.ntmps140 Tryz.results140 Tryz.ntmps141 Tryz.results141 Tryz.ntmps142 Tryz.results142 Tryz.ntmps143 Tryz.results143 Tryz.ntmps144 Tryz.results144 Tryz.ntmps145 Tryz.results145 Tryz.ntmps146 Tryz.results146 Tryz.ntmps147 Tryz.results147 Tryz.ntmps148 Tryz.results148 Tryz.ntmps149 Tryz.results149 Tryz.ntmps150 Tryz.results150 Tryz.ntmps151 Tryz.results151 Tryz.ntmps152 Tryz.results152 Tryz.ntmps153 Tryz.results153 Tryz.ntmps154 Tryz.results154 Tryz.ntmps156 Tryz.results156 Tryz.ntmps157 Tryz.results157 Tryz.ntmps158 Tryz.results158 Tryz.ntmps161 Tryz.results161 Tryz.ntmps162 Tryz.results162 Tryz.ntmps165 Tryz.results165 Tryz.ntmps166 Tryz.results166 Tryz.ntmps168 Tryz.results168 Tryz.ntmps169 Tryz.results169 Tryz.ntmps170 Tryz.results170 Tryz.ntmps171 Tryz.results171 Tryz.ntmps173 Tryz.results173 Tryz.ntmps174 Tryz.results174 Tryz.ntmps175 Tryz.results175
def q8k(a:Int):Option Int:=
 (if (a==0)=true then some 1048576
 else some 64)
instance zd1(a:Int):Ct pp 137 (q8k a) [.v (.int .i64 a)] λr=>(.v (.int .i64 r)):=ctI Tryz.func137 rfl (by rw[q8k];exact au1)
def qu0(b:af)(d:Int->Option Bool):Int->Option Bool:=
 λa=>
 (if (decide (a<4))=true then q9 (idx ([b.C.a0,b.C.a1,b.C.a2,b.C.a3]:List Int) a) (λc=>
 (if (decide (c<0))=true then some false
 else (if (decide (a<b.D))=true then q9 (q8k a) (λe=>
 (if ((decide (e<c))||((decide (b.D<=a))&&(!(c==0))))=true then some false
 else d (i64.wrap (a+1))))
 else (if ((decide (b.D<=a))&&(!(c==0)))=true then some false
 else d (i64.wrap (a+1))))))
 else some true)
def q4k(a:af):Option Bool:=
 (if ((decide (a.D<1))||(decide (4<a.D)))=true then some false
 else q02 (qu0 a) rounds 0)
instance z7m(c:af):Ct pp 100 (q4k c) [.agg (Row.row c)] λr=>(.v (.bool r)):=ctK Tryz.func100 rfl (by rw[q4k]) (by
 intro r h F;refine sM ?_;refine sg λ_ m=>?_;refine sM ?_;refine sB h (λ_ h=>?_) λ_ h=>?_
 . exact au
 refine y5 (q8 m (jg λ_ s=>?_));refine sM ?_;refine w9 λ_ t=>?_;refine q0e h [1,14] (λb=>([(15,.v (.int .i64 b))],[(0,.box (Row.row c))])) 1 ?_;rintro n b h _ u;rw[qu0]at h;refine sM ?_;refine sg λ_ g=>?_;refine sB h (λ_ h=>?_) λ_ h=>?_
 . refine y5 (q8 g (sg λ_ o=>?_));refine w9 λ_ p=>?_;refine sg λ_ q=>?_;obtain⟨l,j,h⟩:=z8 h;obtain⟨k,d,e,a⟩:=j06 (f:=(λy=>AV.v (.int .i64 y))) j;simp only[Xm,Xp,Xq,Xt,Xw,Xd,Xf,Xc,Xu,q0w]at d e a;simp only[go_sem,k,d,e,a];refine ai ?_;refine ai ?_;simp only[Xe,Xx,a,Xr,Xn,true_and];exact au
 exact au)
def z4f(a:af)(b:af):Option Bool:=
 q9 (q4k a) (λc=>
 (if c=true then q9 (q4k b) (λd=>
 some (d&&(a.D==b.D)))
 else some false))
instance jt1(a:af)(b:af):Ct pp 121 (z4f a b) [.agg (Row.row a),.agg (Row.row b)] λr=>(.v (.bool r)):=ctI Tryz.func121 rfl (by rw[z4f];exact au1)
def qy7(b:af)(c:af)(d:Int->Option Bool):Int->Option Bool:=
 λa=>
 (if (decide (a<(min b.D c.D)))=true then x9 (0<=a/\a<4) (
 q9 (idx ([b.C.a0,b.C.a1,b.C.a2,b.C.a3]:List Int) a) (λe=>
 x9 (0<=a/\a<4) (
 q9 (idx ([c.C.a0,c.C.a1,c.C.a2,c.C.a3]:List Int) a) (λf=>
 (if (!(e==f))=true then x9 (0<=a/\a<4) (
 q9 (idx ([b.C.a0,b.C.a1,b.C.a2,b.C.a3]:List Int) a) (λg=>
 x9 (0<=a/\a<4) (
 q9 (idx ([c.C.a0,c.C.a1,c.C.a2,c.C.a3]:List Int) a) (λj=>
 some (decide (g<j))))))
 else d (i64.wrap (a+1)))))))
 else some (decide (b.D<c.D)))
def qx2(a:af)(b:af):Option Bool:=
 q9 (q4k a) (λc=>
 (if c=true then q9 (q4k b) (λd=>
 (if (!d)=true then some false
 else q02 (qy7 a b) rounds 0))
 else some false))
instance jt3(g:af)(j:af):Ct pp 68 (qx2 g j) [.agg (Row.row g),.agg (Row.row j)] λr=>(.v (.bool r)):=ctK Tryz.func68 rfl (by rw[qx2]) (by
 intro r h F;refine sM ?_;refine sg λ_ O=>?_;refine sg λ_ P=>?_;simp only[go_sem];refine q2b h λu h=>?_;simp only[go_sem];rcases e:u with _|_
 . replace h:=q2s h e;simp only[go_sem,e];exact au
 replace h:=q2r h e;simp only[go_sem,e];refine q2b h λQ h=>?_;simp only[go_sem];refine q8 P (sB h (λ_ h=>?_) λ_ h=>?_)
 . exact au
 refine y5 (q8 O (jg λ_ V=>?_));refine sM ?_;refine w9 λ_ W=>?_;refine q0e h [2,3,18] (λk=>([(19,.v (.int .i64 k))],[(0,.box (Row.row g)),(1,.box (Row.row j))])) 2 ?_;rintro R k h _ X;rw[qy7]at h;refine sM ?_;refine sg λ_ w=>?_;refine sB h (λ_ h=>?_) λ_ h=>?_
 .
  refine y5 (q8 w (sg λ_ S=>?_));refine w9 λ_ T=>?_;refine sM ?_;refine sg λ_ z=>?_;refine q00 ?_;refine jy5 ?_;obtain⟨F,h⟩:=bG F h;obtain⟨K,A,h⟩:=z8 h;obtain⟨B,l,m,a⟩:=q4i (f:=(λy=>AV.v (.int .i64 y))) [.v (.int .i64 g.D)] [] A;simp only[Xm,Xp,Xq,Xt,Xw,Xd,Xf,Xc,Xu,q0w]at l m a;obtain⟨F,h⟩:=bG F h;obtain⟨L,C,h⟩:=z8 h;obtain⟨E,n,o,b⟩:=q4i (f:=(λy=>AV.v (.int .i64 y))) [.v (.int .i64 j.D)] [] C;simp only[Xm,Xp,Xq,Xt,Xw,Xd,Xf,Xc,Xu,q0w]at n o b;simp only[go_sem,B,l,m,a,E,n,o,b,F];refine ai ?_;refine ai ?_;simp only[Xe,Xx,a,Xr,Xn,true_and,Xe,Xx,b,Xr,Xn,true_and];refine q8 z (sB h (λ_ h=>?_) λ_ h=>?_)
  . refine sg λ_ U=>?_;refine q00 ?_;refine jy5 ?_;obtain⟨F,h⟩:=bG F h;obtain⟨M,G,h⟩:=z8 h;obtain⟨H,p,q,c⟩:=q4i (f:=(λy=>AV.v (.int .i64 y))) [.v (.int .i64 g.D)] [] G;simp only[Xm,Xp,Xq,Xt,Xw,Xd,Xf,Xc,Xu,q0w]at p q c;obtain⟨F,h⟩:=bG F h;obtain⟨N,I,h⟩:=z8 h;obtain⟨J,s,t,d⟩:=q4i (f:=(λy=>AV.v (.int .i64 y))) [.v (.int .i64 j.D)] [] I;simp only[Xm,Xp,Xq,Xt,Xw,Xd,Xf,Xc,Xu,q0w]at s t d;simp only[go_sem,H,p,q,c,J,s,t,d,F];refine ai ?_;refine ai ?_;simp only[Xe,Xx,c,Xr,Xn,true_and,Xe,Xx,d,Xr,Xn,true_and];exact au
  exact au
 exact au)
def z2f(b:af)(c:af)(d:Int->Option Bool):Int->Option Bool:=
 λa=>
 (if (decide (a<4))=true then x9 (0<=a/\a<4) (
 q9 (idx ([b.C.a0,b.C.a1,b.C.a2,b.C.a3]:List Int) a) (λe=>
 x9 (0<=a/\a<4) (
 q9 (idx ([c.C.a0,c.C.a1,c.C.a2,c.C.a3]:List Int) a) (λf=>
 (if (decide (f<e))=true then some false
 else d (i64.wrap (a+1)))))))
 else some true)
def z0l(a:af)(b:af):Option Bool:=
 q9 (z4f a b) (λc=>
 (if (!c)=true then some false
 else q02 (z2f a b) rounds 0))
instance j4q(d:af)(e:af):Ct pp 74 (z0l d e) [.agg (Row.row d),.agg (Row.row e)] λr=>(.v (.bool r)):=ctK Tryz.func74 rfl (by rw[z0l]) (by
 intro r h F;refine sM ?_;refine sg λ_ u=>?_;refine sg λ_ w=>?_;simp only[go_sem];refine q2b h λz h=>?_;simp only[go_sem];refine q8 w (sB h (λ_ h=>?_) λ_ h=>?_)
 . exact au
 refine y5 (q8 u (jg λ_ G=>?_));refine sM ?_;refine w9 λ_ H=>?_;refine q0e h [2,3] (λc=>([(10,.v (.int .i64 c))],[(0,.box (Row.row d)),(1,.box (Row.row e))])) 2 ?_;rintro A c h _ I;rw[z2f]at h;refine sM ?_;refine sg λ_ m=>?_;refine sB h (λ_ h=>?_) λ_ h=>?_
 . refine y5 (q8 m (sg λ_ B=>?_));refine w9 λ_ C=>?_;refine sM ?_;refine sg λ_ E=>?_;refine q00 ?_;refine jy5 ?_;obtain⟨F,h⟩:=bG F h;obtain⟨s,n,h⟩:=z8 h;obtain⟨o,g,j,a⟩:=q4i (f:=(λy=>AV.v (.int .i64 y))) [.v (.int .i64 d.D)] [] n;simp only[Xm,Xp,Xq,Xt,Xw,Xd,Xf,Xc,Xu,q0w]at g j a;obtain⟨F,h⟩:=bG F h;obtain⟨t,p,h⟩:=z8 h;obtain⟨q,k,l,b⟩:=q4i (f:=(λy=>AV.v (.int .i64 y))) [.v (.int .i64 e.D)] [] p;simp only[Xm,Xp,Xq,Xt,Xw,Xd,Xf,Xc,Xu,q0w]at k l b;simp only[go_sem,o,g,j,a,q,k,l,b,F];refine ai ?_;refine ai ?_;simp only[Xe,Xx,a,Xr,Xn,true_and,Xe,Xx,b,Xr,Xn,true_and];exact au
 exact au)
def q2g(b:Int)(a:Int):Option Bool:=
 some ((decide (0<=b))&&(decide (b<a)))
instance j7s(b:Int)(a:Int):Ct pp 61 (q2g b a) [.v (.int .i64 b),.v (.int .i64 a)] λr=>(.v (.bool r)):=ctI Tryz.func61 rfl (by rw[q2g];exact au1)
def qv8(c:aa)(a:Int×Int->Option Int):Int×Int->Option Int:=
 λ(b,d)=>
 q9 (q2g d (c.ae.length:Int)) (λf=>
 (if (f&&(decide (b<=8)))=true then q9 (idx c.ae d) (λe=>
 a (i64.wrap (b+1),e))
 else some b))
def qj4(b:aa)(a:Int):Option Int:=
 q02 (qv8 b) rounds (0,a)
instance j9z(b:aa)(a:Int):Ct pp 62 (qj4 b a) [.agg (Row.row b),.v (.int .i64 a)] λr=>(.v (.int .i64 r)):=ctK Tryz.func62 rfl (by rw[qj4]) (by
 intro r h F;refine sM ?_;refine sM ?_;refine jg λ_ f=>?_;refine sM ?_;refine w9 λ_ g=>?_;refine q0e h [2] (λx=>([(5,.v (.int .i64 x.1)),(6,.v (.int .i64 x.2))],[(0,.box (Row.row b))])) 1 ?_;rintro c ⟨d,e⟩ h _ j;rw[qv8]at h;exact au)
def qi9(a:aa)(b:Int):Option Bool:=
 (if (b==0)=true then q9 (idx a.ae 0) (λd=>
 (if (d==(-1))=true then q9 (idx a.aG 0) (λe=>
 some (e==0))
 else some false))
 else q9 (idx a.ae b) (λf=>
 q9 (q2g f b) (λg=>
 (if g=true then q9 (idx a.aG b) (λc=>
 (if (decide (1<=c))=true then (if (decide (c<=64))=true then q9 (qj4 a b) (λj=>
 some (decide (j<=4)))
 else some false)
 else some false))
 else some false))))
instance j9u(a:aa)(b:Int):Ct pp 51 (qi9 a b) [.agg (Row.row a),.v (.int .i64 b)] λr=>(.v (.bool r)):=ctI Tryz.func51 rfl (by rw[qi9];exact au1)
def qj6(c:List aN)(e:aN->Option Bool)(b:Int->Option Int):Int->Option Int:=
 λa=>
 (if (decide (a<(c.length:Int)))=true then q9 (idx c a) (λd=>
 q9 (e d) (λf=>
 (if f=true then some a
 else b (i64.wrap (a+1)))))
 else some (-1))
def q9v(a:List aN)(b:aN->Option Bool):Option Int:=
 q02 (qj6 a b) rounds 0
theorem z1k(g:List aN)(j:aN->Option Bool)(a:FuncId)(b:List AV)(d:q0f b=true)(e:u7 pp a=true)(f:∀(p:aN) (r:Bool),j p=some r->be pp a ([.agg (Row.row p)]++b) 0 (.v (.bool r)))(r:Int)(h:q9v g j=some r):be pp 156 [.sl 4 (enc g),.clo a b] 0 (.v (.int .i64 r)):=by
 refine ptI Tryz.func156 rfl ?_;rw[q9v]at h;have F:=trivial;refine sM ?_;refine jg λ_ q=>?_;refine sM ?_;refine w9 λ_ s=>?_;refine q0e h [0,1,7] (λc=>([(8,.v (.int .i64 c))],[])) 0 ?_;rintro y c h _ m;rw[qj6]at h;refine sM ?_;refine sg λ_ t=>?_;refine sB h (λ_ h=>?_) λ_ h=>?_
 .
  refine y5 (q8 t (sg λ_ u=>?_));refine w9 λ_ w=>?_;refine sM ?_;refine sg λ_ n=>?_;obtain⟨k,F,h⟩:=bI F h;obtain⟨o,l,h⟩:=z8 h;simp only[go_sem,e,F];refine ai ?_;refine q9s (f k o l) (by rfl) (by simp[go_sem,q0f,q0n,d]) ?_;simp only[go_sem];refine q8 n (sB h (λ_ h=>?_) λ_ h=>?_)
  . refine sM ?_;refine q04 (q12 w (q18 u (q34 m (q12 s (q18 q ?_)))));simp only[go_sem];obtain rfl:=Xi h;refine q5h rfl ?_;exact leA
  refine y5 (q08 w (q8 u ?_));simp only[go_sem];refine u6 m ?_;exact nxC _ h [] leA
 refine q0u (q1w t (q0v m (q0m s (q8 q (sM ?_)))));refine q04 ?_;simp only[go_sem];obtain rfl:=Xi h;refine q5h rfl ?_;exact leA
def q6j(a:List aN)(b:aN->Option Bool):Option Bool:=
 q9 (q9v a b) (λc=>
 some (decide (0<=c)))
theorem z06(d:List aN)(e:aN->Option Bool)(a:FuncId)(b:List AV)(c:q0f b=true)(f:u7 pp a=true)(g:∀(l:aN) (r:Bool),e l=some r->be pp a ([.agg (Row.row l)]++b) 0 (.v (.bool r)))(r:Bool)(h:q6j d e=some r):be pp 138 [.sl 4 (enc d),.clo a b] 0 (.v (.bool r)):=by
 refine ptI Tryz.func138 rfl ?_;rw[q6j]at h;have F:=trivial;refine sM ?_;refine sg λ_ m=>?_;obtain⟨k,j,h⟩:=z8 h;simp only[go_sem];refine q9s (z1k d e a b c f g k j) (by rfl) (by simp[go_sem,q0f,q0n,c]) ?_;simp only[go_sem];refine q8 m (q04 ?_);simp only[go_sem];obtain rfl:=Xi h;refine q5h rfl ?_;exact leA
def q98(b:aN)(a:Int):Option Bool:=
 some (b.Scope==a)
instance z7r(b:aN)(a:Int):Ct pp 139 (q98 b a) [.agg (Row.row b),.el 1 [[.v (.int .i64 a)]] 0 0] λr=>(.v (.bool r)):=ctI Tryz.func139 rfl (by rw[q98];exact au1)
def q8o(c:aa)(a:Int)(d:aN)(b:Bool):Option Bool:=
 (if b=true then x9 (0<=0/\0<=a/\a<=(c.al.length:Int)) (
 q9 (q6j (Xb (a.toNat) c.al) (λe=>q98 e d.Scope)) (λf=>
 some (!f)))
 else some false)
def qr9(e:aa)(f:Int)(c:aN)(g:Int)(d:Bool×Int->Option Bool):Bool×Int->Option Bool:=
 λ(a,b)=>
 (if (decide (0<=b))=true then (if (b==c.Scope)=true then some true
 else q9 (idx e.ae b) (λj=>
 d ((a||(b==g)),j)))
 else q8o e f c a)
def qf0(c:aa)(a:Int):Option Bool:=
 q9 (idx c.al a) (λb=>
 (if (a==0)=true then some (b.Scope==0)
 else q9 (idx c.al (i64.wrap (a-1))) (λd=>
 q9 (idx c.ae b.Scope) (λe=>
 q02 (qr9 c a b e) rounds (false,d.Scope)))))
instance j7t(e:aa)(c:Int):Ct pp 105 (qf0 e c) [.agg (Row.row e),.v (.int .i64 c)] λr=>(.v (.bool r)):=ctK Tryz.func105 rfl (by rw[qf0]) (by
 intro r h F;refine sM ?_;refine sg λ_ n=>?_;obtain⟨b,F,h⟩:=bI F h;simp only[go_sem,F];refine ai ?_;refine q8 n (sg λ_ o=>?_);refine sM ?_;refine sB h (λ_ h=>?_) λ_ h=>?_
 . exact au
 refine y5 (q8 o (sg λ_ p=>?_));obtain⟨l,F,h⟩:=bI F h;simp only[go_sem,F];refine ai ?_;refine q8 p (sg λ_ q=>?_);obtain⟨m,F,h⟩:=bI F h;simp only[go_sem,F];refine ai ?_;refine q8 q (sM ?_);refine q3e (λ(a:Bool)=>q8o e c b a=some r) [1,2,5] (λa=>([(8,.v (.bool a))],[(0,.box (Row.row e)),(1,.box [.v (.int .i64 b.Scope)])])) 2 ?_ ?_
 . intro _ s;refine sM ?_;refine w9 λ_ t=>?_;refine q0e h [1,2,5,7] (λx=>([(8,.v (.bool x.1)),(9,.v (.int .i64 x.2))],[(0,.box (Row.row e)),(1,.box [.v (.int .i64 b.Scope)])])) 2 ?_;rintro u ⟨f,w⟩ h _ y;rw[qr9]at h;exact au
 rintro a h
 try dsimp only at h
 rw[q8o]at h;refine sg λ_ C=>?_;simp only[go_sem];rcases d:a with _|_
 . replace h:=q2s h d;simp only[go_sem,d];exact au
 replace h:=q2r h d;obtain⟨F,h⟩:=bG F h;obtain⟨j,g,h⟩:=z8 h;simp only[go_sem,d,F];refine qo8 (z06 (Xb (c.toNat) e.al) (λk=>q98 k b.Scope) 139 [.el 1 [[.v (.int .i64 b.Scope)]] 0 0] (by rfl) (by kernel_rfl) (λz A B=>z7r z b.Scope A B) j g) ?_;simp only[go_sem];exact au)
def qo2(a:Int):Option Bool:=
 some ((a==14)||(a==15))
instance je1(a:Int):Ct pp 140 (qo2 a) [.v (.int .i64 a)] λr=>(.v (.bool r)):=ctI Tryz.func140 rfl (by rw[qo2];exact au1)
def q8b(d:List cy)(c:Int->Option Bool):Int->Option Bool:=
 λb=>
 (if (decide (b<(d.length:Int)))=true then q9 (idx d b) (λa=>
 (if ((decide (a.Op<1))||(decide (16<a.Op)))=true then some false
 else q9 (qo2 a.Op) (λe=>
 (if e=true then (if ((decide (a.N<0))||(decide ((d.length:Int)<a.N)))=true then some false
 else c (i64.wrap (b+1)))
 else (if ((!(a.Op==1))&&(!(a.N==0)))=true then some false
 else c (i64.wrap (b+1)))))))
 else some true)
def q84(a:List cy):Option Bool:=
 (if (decide (64<(a.length:Int)))=true then some false
 else q02 (q8b a) rounds 0)
instance je2(b:List cy):Ct pp 106 (q84 b) [.sl 2 (enc b)] λr=>(.v (.bool r)):=ctK Tryz.func106 rfl (by rw[q84]) (by
 intro r h F;refine sM ?_;refine sg λ_ c=>?_;refine sM ?_;refine sB h (λ_ h=>?_) λ_ h=>?_
 . exact au
 refine y5 (q8 c (jg λ_ e=>?_));refine sM ?_;refine w9 λ_ f=>?_;refine q0e h [0,8,9] (λa=>([(10,.v (.int .i64 a))],[])) 0 ?_;rintro d a h _ g;rw[q8b]at h;exact au)
def qp7(a:Int):Option (Bool×Bool):=
 some ((((a==10)||(a==11))||(a==12)),((a==1)||(a==15)))
instance j7u(a:Int):Ct pp 104 (qp7 a) [.v (.int .i64 a)] λr=>(.tup [.v (.bool r.1),.v (.bool r.2)]):=ctI Tryz.func104 rfl (by rw[qp7];exact au1)
def qa3(a:Int):Option Int:=
 (if ((a==5)||(a==9))=true then some 2
 else (if ((decide (1<a))&&(decide (a<=15)))=true then some 1
 else some 0))
instance j9y(a:Int):Ct pp 107 (qa3 a) [.v (.int .i64 a)] λr=>(.v (.int .i64 r)):=ctI Tryz.func107 rfl (by rw[qa3];exact au1)
def qj1(c:aa)(a:aN):Option Int:=
 (if (a.Kind==11)=true then q9 (idx c.ae a.Scope) (λb=>
 some b)
 else some a.Scope)
instance j9w(b:aa)(a:aN):Ct pp 108 (qj1 b a) [.agg (Row.row b),.agg (Row.row a)] λr=>(.v (.int .i64 r)):=ctI Tryz.func108 rfl (by rw[qj1];exact au1)
def qj0(a:Int):Option Bool:=
 some (((decide (6<=a))&&(decide (a<=9)))||(a==14))
instance j9v(a:Int):Ct pp 109 (qj0 a) [.v (.int .i64 a)] λr=>(.v (.bool r)):=ctI Tryz.func109 rfl (by rw[qj0];exact au1)
def qj8(c:List aU)(e:aU->Option Bool)(b:Int->Option Int):Int->Option Int:=
 λa=>
 (if (decide (a<(c.length:Int)))=true then q9 (idx c a) (λd=>
 q9 (e d) (λf=>
 (if f=true then some a
 else b (i64.wrap (a+1)))))
 else some (-1))
def q9x(a:List aU)(b:aU->Option Bool):Option Int:=
 q02 (qj8 a b) rounds 0
theorem z1m(g:List aU)(j:aU->Option Bool)(a:FuncId)(b:List AV)(d:q0f b=true)(e:u7 pp a=true)(f:∀(p:aU) (r:Bool),j p=some r->be pp a ([.agg (Row.row p)]++b) 0 (.v (.bool r)))(r:Int)(h:q9x g j=some r):be pp 157 [.sl 4 (enc g),.clo a b] 0 (.v (.int .i64 r)):=by
 refine ptI Tryz.func157 rfl ?_;rw[q9x]at h;have F:=trivial;refine sM ?_;refine jg λ_ q=>?_;refine sM ?_;refine w9 λ_ s=>?_;refine q0e h [0,1,7] (λc=>([(8,.v (.int .i64 c))],[])) 0 ?_;rintro y c h _ m;rw[qj8]at h;refine sM ?_;refine sg λ_ t=>?_;refine sB h (λ_ h=>?_) λ_ h=>?_
 .
  refine y5 (q8 t (sg λ_ u=>?_));refine w9 λ_ w=>?_;refine sM ?_;refine sg λ_ n=>?_;obtain⟨k,F,h⟩:=bI F h;obtain⟨o,l,h⟩:=z8 h;simp only[go_sem,e,F];refine ai ?_;refine q9s (f k o l) (by rfl) (by simp[go_sem,q0f,q0n,d]) ?_;simp only[go_sem];refine q8 n (sB h (λ_ h=>?_) λ_ h=>?_)
  . refine sM ?_;refine q04 (q12 w (q18 u (q34 m (q12 s (q18 q ?_)))));simp only[go_sem];obtain rfl:=Xi h;refine q5h rfl ?_;exact leA
  refine y5 (q08 w (q8 u ?_));simp only[go_sem];refine u6 m ?_;exact nxC _ h [] leA
 refine q0u (q1w t (q0v m (q0m s (q8 q (sM ?_)))));refine q04 ?_;simp only[go_sem];obtain rfl:=Xi h;refine q5h rfl ?_;exact leA
def q6k(a:List aU)(b:aU->Option Bool):Option Bool:=
 q9 (q9x a b) (λc=>
 some (decide (0<=c)))
theorem z07(d:List aU)(e:aU->Option Bool)(a:FuncId)(b:List AV)(c:q0f b=true)(f:u7 pp a=true)(g:∀(l:aU) (r:Bool),e l=some r->be pp a ([.agg (Row.row l)]++b) 0 (.v (.bool r)))(r:Bool)(h:q6k d e=some r):be pp 141 [.sl 4 (enc d),.clo a b] 0 (.v (.bool r)):=by
 refine ptI Tryz.func141 rfl ?_;rw[q6k]at h;have F:=trivial;refine sM ?_;refine sg λ_ m=>?_;obtain⟨k,j,h⟩:=z8 h;simp only[go_sem];refine q9s (z1m d e a b c f g k j) (by rfl) (by simp[go_sem,q0f,q0n,c]) ?_;simp only[go_sem];refine q8 m (q04 ?_);simp only[go_sem];obtain rfl:=Xi h;refine q5h rfl ?_;exact leA
def qj2(c:aU)(a:Int)(b:Int):Option Bool:=
 some ((c.To==a)&&(c.Port==b))
instance zc9(c:aU)(a:Int)(b:Int):Ct pp 142 (qj2 c a b) [.agg (Row.row c),.el 1 [[.v (.int .i64 a)]] 0 0,.el 1 [[.v (.int .i64 b)]] 0 0] λr=>(.v (.bool r)):=ctI Tryz.func142 rfl (by rw[qj2];exact au1)
def qk9(c:List aU)(a:Int)(b:Int):Option Bool:=
 q9 (q6k c (λd=>qj2 d a b)) (λe=>
 some e)
instance jk6(c:List aU)(a:Int)(b:Int):Ct pp 110 (qk9 c a b) [.sl 4 (enc c),.v (.int .i64 a),.v (.int .i64 b)] λr=>(.v (.bool r)):=ctK Tryz.func110 rfl (by rw[qk9]) (by
 intro r h F;refine sM ?_;refine sg λ_ l=>?_;obtain⟨e,d,h⟩:=z8 h;simp only[go_sem];refine qo8 (z07 c (λf=>qj2 f a b) 142 [.el 1 [[.v (.int .i64 a)]] 0 0,.el 1 [[.v (.int .i64 b)]] 0 0] (by rfl) (by kernel_rfl) (λg j k=>zc9 g a b j k) e d) ?_;simp only[go_sem];exact au)
def qn7(c:aa)(b:Int):Option Int:=
 q9 (idx c.al b) (λa=>
 q9 (qp7 a.Kind) (λd=>
 (if ((decide (a.Kind<1))||(decide (15<a.Kind)))=true then some 1
 else q9 (q2g a.Scope (c.ae.length:Int)) (λe=>
 (if (((!e)||(d.1&&(a.Scope==0)))||(d.2&&(!(a.Scope==0))))=true then some 6
 else q9 (qf0 c b) (λf=>
 (if (!f)=true then some 6
 else (if (((a.Kind==4)&&(decide (a.Arg<1)))||(((!(a.Kind==4))&&(!(a.Kind==3)))&&(!(a.Arg==0))))=true then some 1
 else q9 (q84 a.Prog) (λg=>
 (if ((!g)||((!(a.Kind==2))&&(decide (0<(a.Prog.length:Int)))))=true then some 13
 else some 0))))))))))
instance jd6(b:aa)(a:Int):Ct pp 52 (qn7 b a) [.agg (Row.row b),.v (.int .i64 a)] λr=>(.v (.int .i64 r)):=ctI Tryz.func52 rfl (by rw[qn7];exact au1)
def q7a(c:aa)(a:aN):Option Int:=
 (if (a.Kind==10)=true then q9 (idx c.ae a.Scope) (λb=>
 some b)
 else some a.Scope)
instance j9t(b:aa)(a:aN):Ct pp 63 (q7a b a) [.agg (Row.row b),.agg (Row.row a)] λr=>(.v (.int .i64 r)):=ctI Tryz.func63 rfl (by rw[q7a];exact au1)
def qn9(b:aa)(c:Int):Option Int:=
 q9 (idx b.aw c) (λa=>
 q9 (q2g a.aO (b.al.length:Int)) (λf=>
 (if f=true then q9 (q2g a.To (b.al.length:Int)) (λg=>
 (if (!g)=true then some 7
 else q9 (idx b.al a.aO) (λd=>
 q9 (idx b.al a.To) (λe=>
 (if (d.Kind==15)=true then some 7
 else q9 (qa3 e.Kind) (λj=>
 q9 (q2g a.Port j) (λk=>
 (if (!k)=true then some 7
 else q9 (qj1 b d) (λl=>
 q9 (q7a b e) (λm=>
 (if (!(l==m))=true then some 6
 else (if ((decide (a.To<=a.aO))&&(!(d.Kind==12)))=true then some 8
 else q9 (qj0 e.Kind) (λn=>
 (if (n&&(!a.bR))=true then some 1
 else x9 (0<=0/\0<=c/\c<=(b.aw.length:Int)) (
 q9 (qk9 (Xb (c.toNat) b.aw) a.To a.Port) (λo=>
 (if o=true then some 7
 else some 0)))))))))))))))))
 else some 7)))
instance jd8(c:aa)(b:Int):Ct pp 53 (qn9 c b) [.agg (Row.row c),.v (.int .i64 b)] λr=>(.v (.int .i64 r)):=ctK Tryz.func53 rfl (by rw[qn9]) (by
 intro r h F;refine sM ?_;refine sg λ_ j=>?_;obtain⟨e,F,h⟩:=bI F h;simp only[go_sem,F];refine ai ?_;refine q8 j (sg λ_ k=>?_);refine sg λ_ l=>?_;simp only[go_sem];refine q2b h λd h=>?_;simp only[go_sem];rcases a:d with _|_
 . replace h:=q2s h a;simp only[go_sem,a];exact au
 replace h:=q2r h a;simp only[go_sem,a];refine q2b h λm h=>?_;simp only[go_sem];refine q8 l (sB h (λ_ h=>?_) λ_ h=>?_)
 . exact au
 refine y5 (q8 k (sg λ_ n=>?_));refine q00 ?_;refine q1r 15 0 14 [0,1,0,4,15,31,0,64,0,256,960,1984,0,0,12351,32767] [2,3] [0,1,2,3,4,5,6,7,8,9,10,11] [] [14] [12,13] mixed (by kernel_rfl) (of_decide_eq_true (by kernel_rfl)) (by kernel_rfl) (by kernel_rfl) (by rfl) ?_;obtain⟨f,F,h⟩:=bI F h;obtain⟨g,F,h⟩:=bI F h;simp only[go_sem,F];refine ai ?_;refine ai ?_;exact au)
def qv7(d:aa)(e:Int)(a:Int->Option Bool):Int->Option Bool:=
 λb=>
 (if (decide (0<=b))=true then (if (b==e)=true then some true
 else q9 (idx d.ae b) (λc=>
 a c))
 else some false)
def qi8(a:aa)(d:Int)(b:Int):Option Bool:=
 q9 (idx a.ae b) (λc=>
 q02 (qv7 a d) rounds c)
instance j9s(b:aa)(c:Int)(a:Int):Ct pp 112 (qi8 b c a) [.agg (Row.row b),.v (.int .i64 c),.v (.int .i64 a)] λr=>(.v (.bool r)):=ctK Tryz.func112 rfl (by rw[qi8]) (by
 intro r h F;refine sM ?_;refine jg λ_ j=>?_;refine sg λ_ f=>?_;obtain⟨e,F,h⟩:=bI F h;simp only[go_sem,F];refine ai ?_;refine q8 f (w9 λ_ k=>?_);refine q0e h [1,3] (λd=>([(7,.v (.int .i64 d))],[(0,.box (Row.row b))])) 1 ?_;rintro g d h _ l;rw[qv7]at h;exact au)
def q4j(g:Int)(j:aa)(self:Int->aa->(List Bool)->Int->Option (aa×(List Bool)×Int))(c:Int×aa×Int×(List Bool)->Option (aa×(List Bool)×Int)):Int×aa×Int×(List Bool)->Option (aa×(List Bool)×Int):=
 λ(a,d,e,f)=>
 (if (decide (a<(j.aw.length:Int)))=true then q9 (idx j.aw a) (λb=>
 (if (b.aO==g)=true then q9 (idx f b.To) (λn=>
 (if n=true then c (i64.wrap (a+1),d,e,f)
 else q9 (idx d.al b.To) (λk=>
 (if (k.Kind==12)=true then q9 (qi8 d k.Scope e) (λo=>
 (if (!o)=true then q9 (self b.To d (Xv f (b.To.toNat) true) e) (λl=>
 c (i64.wrap (a+1),l.1,l.2.2,l.2.1))
 else c (i64.wrap (a+1),d,e,(Xv f (b.To.toNat) true))))
 else q9 (self b.To d (Xv f (b.To.toNat) true) e) (λm=>
 c (i64.wrap (a+1),m.1,m.2.2,m.2.1))))))
 else c (i64.wrap (a+1),d,e,f)))
 else some (d,f,e))
def q39(self:Int->aa->(List Bool)->Int->Option (aa×(List Bool)×Int))(a:Int)(b:aa)(c:List Bool)(d:Int):Option (aa×(List Bool)×Int):=
 q02 (q4j a b self) rounds (0,b,d,c)
def q1g:Nat->Int->aa->(List Bool)->Int->Option (aa×(List Bool)×Int)
 |0=>λ_ _ _ _=>none
 |n+1=>q39 (q1g n)
def qd9(a:Int)(b:aa)(c:List Bool)(d:Int):Option (aa×(List Bool)×Int):=q1g rounds a b c d
theorem qp8(self:Int->aa->(List Bool)->Int->Option (aa×(List Bool)×Int))(k:∀(b:Int) (d:aa) (c:List Bool) (e:Int) (r:aa×(List Bool)×Int),self b d c e=some r->bu pp 111 [.v (.int .i64 b),.ptr 0 0,.ptr 1 0,.ptr 3 0,.ptr 4 0] [(0,.box (Row.row d)),(1,.box [.osl 2 1 (0) (c.length)]),(2,.arr 1 (enc c)),(3,.box [.v (.int .i64 e)]),(4,.box [.clo 111 [.ptr 0 0,.ptr 1 0,.ptr 3 0,.ptr 4 0]])] 5 (.tup []) [(0,.box (Row.row r.1)),(1,.box [.osl 5 1 (0) (r.2.1.length)]),(3,.box [.v (.int .i64 r.2.2)]),(4,.box [.clo 111 [.ptr 0 0,.ptr 1 0,.ptr 3 0,.ptr 4 0]]),(5,.arr 1 (enc r.2.1))] 6)(b:Int)(d:aa)(c:List Bool)(e:Int)(r:aa×(List Bool)×Int)(h:q39 self b d c e=some r):bu pp 111 [.v (.int .i64 b),.ptr 0 0,.ptr 1 0,.ptr 3 0,.ptr 4 0] [(0,.box (Row.row d)),(1,.box [.osl 2 1 (0) (c.length)]),(2,.arr 1 (enc c)),(3,.box [.v (.int .i64 e)]),(4,.box [.clo 111 [.ptr 0 0,.ptr 1 0,.ptr 3 0,.ptr 4 0]])] 5 (.tup []) [(0,.box (Row.row r.1)),(1,.box [.osl 5 1 (0) (r.2.1.length)]),(3,.box [.v (.int .i64 r.2.2)]),(4,.box [.clo 111 [.ptr 0 0,.ptr 1 0,.ptr 3 0,.ptr 4 0]]),(5,.arr 1 (enc r.2.1))] 6:=by
 refine dtI Tryz.func111 rfl ?_;rw[q39]at h;have F:=trivial;refine sM ?_;refine w9 λ_ I=>?_;refine q0e h [0,1,2,3,4,10,11] (λx=>([(12,.v (.int .i64 x.1))],[(0,.box (Row.row x.2.1)),(1,.box [.osl 5 1 (0) (x.2.2.2.length)]),(3,.box [.v (.int .i64 x.2.2.1)]),(4,.box [.clo 111 [.ptr 0 0,.ptr 1 0,.ptr 3 0,.ptr 4 0]]),(5,.arr 1 (enc x.2.2.2))])) 6 ?_;rintro C ⟨t,m,n,j⟩ h _ J;rw[q4j]at h;refine sM ?_;refine sg λ_ D=>?_;refine sB h (λ_ h=>?_) λ_ h=>?_
 .
  refine y5 (q8 D (jg λ_ K=>?_));refine w9 λ_ L=>?_;refine sg λ_ E=>?_;obtain⟨a,F,h⟩:=bI F h;simp only[go_sem,F];refine ai ?_;refine q8 E (sg λ_ G=>?_);refine sg λ_ u=>?_;simp only[go_sem];rcases f:(a.aO==b)with _|_
  . replace h:=q2s h f;simp only[go_sem,f];exact au
  replace h:=q2r h f;obtain⟨B,F,h⟩:=bI F h;simp only[go_sem,f,F];refine ai ?_;refine q8 u (sB h (λ_ h=>?_) λ_ h=>?_)
  . exact au
  refine y5 (q8 G (sg λ_ w=>?_));have o:(enc j).set (a.To.toNat) [.v (.bool true)]=enc (Xv j (a.To.toNat) true):=by exact q6w _ _ _
  simp only[go_sem,o,F];refine ai ?_;refine q8 w (sg λ_ y=>?_);obtain⟨l,F,h⟩:=bI F h;simp only[go_sem,F];refine ai ?_;refine q8 y (sg λ_ p=>?_);simp only[go_sem];rcases g:(l.Kind==12)with _|_
  . replace h:=q2s h g;simp only[go_sem,g];refine q8 p (k1w ?_);obtain⟨z,q,h⟩:=z8 h;simp only[go_sem];refine qe1 [0,1,2,3,4,10,11,12,21,22,23,25] ([],[(0,.box (Row.row m)),(1,.box [.osl 5 1 (0) (Xo (Xv j (a.To.toNat) true))]),(3,.box [.v (.int .i64 n)]),(4,.box [.clo 111 [.ptr 0 0,.ptr 1 0,.ptr 3 0,.ptr 4 0]]),(5,.arr 1 (enc (Xv j (a.To.toNat) true))),(6,.box (Row.row a)),(7,.box (Row.row l))]) 8 [some 5,some 6,some 7] [.v (.int .i64 a.To),.ptr 0 0,.ptr 1 0,.ptr 3 0,.ptr 4 0] ?_;refine q1l [0,1,5,3,4] (k a.To m (Xv j (a.To.toNat) true) n z q) ?_;simp only[go_sem];exact au
  replace h:=q2r h g;simp only[go_sem,g];refine q2b h λH h=>?_;simp only[go_sem];refine q8 p (sB h (λ_ h=>?_) λ_ h=>?_)
  . obtain⟨A,s,h⟩:=z8 h;simp only[go_sem];refine qe1 [0,1,2,3,4,10,11,12,21,22,23,25,41,42,43,44,45,46] ([],[(0,.box (Row.row m)),(1,.box [.osl 5 1 (0) (Xo (Xv j (a.To.toNat) true))]),(3,.box [.v (.int .i64 n)]),(4,.box [.clo 111 [.ptr 0 0,.ptr 1 0,.ptr 3 0,.ptr 4 0]]),(5,.arr 1 (enc (Xv j (a.To.toNat) true))),(6,.box (Row.row a)),(7,.box (Row.row l))]) 8 [some 5,some 6,some 7] [.v (.int .i64 a.To),.ptr 0 0,.ptr 1 0,.ptr 3 0,.ptr 4 0] ?_;refine q1l [0,1,5,3,4] (k a.To m (Xv j (a.To.toNat) true) n A s) ?_;simp only[go_sem];exact au
  exact au
 exact au
theorem q8a:∀(n:Nat) (a:Int) (c:aa) (b:List Bool) (d:Int) (r:aa×(List Bool)×Int),q1g n a c b d=some r->bu pp 111 [.v (.int .i64 a),.ptr 0 0,.ptr 1 0,.ptr 3 0,.ptr 4 0] [(0,.box (Row.row c)),(1,.box [.osl 2 1 (0) (b.length)]),(2,.arr 1 (enc b)),(3,.box [.v (.int .i64 d)]),(4,.box [.clo 111 [.ptr 0 0,.ptr 1 0,.ptr 3 0,.ptr 4 0]])] 5 (.tup []) [(0,.box (Row.row r.1)),(1,.box [.osl 5 1 (0) (r.2.1.length)]),(3,.box [.v (.int .i64 r.2.2)]),(4,.box [.clo 111 [.ptr 0 0,.ptr 1 0,.ptr 3 0,.ptr 4 0]]),(5,.arr 1 (enc r.2.1))] 6
 |0,a,c,b,d,r,h=>by simp[q1g]at h
 |n+1,a,c,b,d,r,h=>qp8 (q1g n) (q8a n) a c b d r h
theorem qs8(a:Int)(c:aa)(b:List Bool)(d:Int)(r:aa×(List Bool)×Int)(h:qd9 a c b d=some r):bu pp 111 [.v (.int .i64 a),.ptr 0 0,.ptr 1 0,.ptr 3 0,.ptr 4 0] [(0,.box (Row.row c)),(1,.box [.osl 2 1 (0) (b.length)]),(2,.arr 1 (enc b)),(3,.box [.v (.int .i64 d)]),(4,.box [.clo 111 [.ptr 0 0,.ptr 1 0,.ptr 3 0,.ptr 4 0]])] 5 (.tup []) [(0,.box (Row.row r.1)),(1,.box [.osl 5 1 (0) (r.2.1.length)]),(3,.box [.v (.int .i64 r.2.2)]),(4,.box [.clo 111 [.ptr 0 0,.ptr 1 0,.ptr 3 0,.ptr 4 0]]),(5,.arr 1 (enc r.2.1))] 6:=q8a rounds a c b d r h
def ql5(d:aa)(c:Int)(e:Int)(b:Int->Option Bool):Int->Option Bool:=
 λa=>
 (if (decide (a<e))=true then q9 (qk9 d.aw c a) (λf=>
 (if (!f)=true then some false
 else b (i64.wrap (a+1))))
 else some true)
def qn8(b:aa)(a:Int):Option Bool:=
 q9 (idx b.al a) (λc=>
 q9 (qa3 c.Kind) (λd=>
 q02 (ql5 b a d) rounds 0))
instance jd7(c:aa)(b:Int):Ct pp 54 (qn8 c b) [.agg (Row.row c),.v (.int .i64 b)] λr=>(.v (.bool r)):=ctK Tryz.func54 rfl (by rw[qn8]) (by
 intro r h F;refine sM ?_;refine jg λ_ j=>?_;refine sg λ_ e=>?_;obtain⟨d,F,h⟩:=bI F h;simp only[go_sem,F];refine ai ?_;refine q2b h λf h=>?_;simp only[go_sem];refine q8 e (w9 λ_ k=>?_);refine q0e h [1,2,12] (λa=>([(13,.v (.int .i64 a))],[(0,.box (Row.row c))])) 1 ?_;rintro g a h _ l;rw[ql5]at h;exact au)
def qg9(g:aa)(j:Int)(b:Int×Int×(List Bool)×aa->Option Bool):Int×Int×(List Bool)×aa->Option Bool:=
 λ(a,d,e,k)=>
 (if (decide (a<(g.al.length:Int)))=true then q9 (idx g.al a) (λc=>
 (if ((c.Kind==11)&&(c.Scope==d))=true then q9 (qd9 a k e d) (λf=>
 b (i64.wrap (a+1),f.2.2,f.2.1,f.1))
 else b (i64.wrap (a+1),d,e,k)))
 else q9 (idx e j) (λl=>
 some l))
def qj3(a:aa)(b:Int):Option Bool:=
 q9 (idx a.al b) (λc=>
 (if (!(c.Kind==10))=true then some false
 else x9 (0<=(a.al.length:Int)/\(a.al.length:Int)*1<=140737488355328) (
 q02 (qg9 a b) rounds (0,c.Scope,(Xz (a.al.length) false),a))))
instance j9x(a:aa)(b:Int):Ct pp 55 (qj3 a b) [.agg (Row.row a),.v (.int .i64 b)] λr=>(.v (.bool r)):=ctK Tryz.func55 rfl (by rw[qj3]) (by
 intro r h F;refine sM ?_;refine sg λ_ p=>?_;obtain⟨n,F,h⟩:=bI F h;simp only[go_sem,F];refine ai ?_;refine q8 p (sg λ_ q=>?_);refine sg λ_ s=>?_;simp only[go_sem,F];refine ai ?_;refine q8 s (sB h (λ_ h=>?_) λ_ h=>?_)
 . exact au
 refine y5 (q8 q (sg λ_ t=>?_));obtain⟨F,h⟩:=bG F h;have d:Xz (a.al.length) [.v (.bool false)]=enc (Xz (a.al.length) false):=by (simp[enc,z0d,qv1,q71,q0w];done)
 simp only[go_sem,F];simp only[d];refine q8 t (sM ?_);refine sM ?_;refine jg λ_ B=>?_;refine sM ?_;refine w9 λ_ u=>?_;refine q0e h [1,29,30] (λx=>([(5,.ptr 0 0),(6,.ptr 1 0),(7,.ptr 2 0),(31,.v (.int .i64 x.1))],[(0,.box [.v (.int .i64 x.2.1)]),(1,.box [.osl 3 1 (0) (x.2.2.1.length)]),(2,.box [.clo 111 [.ptr 4 0,.ptr 1 0,.ptr 0 0,.ptr 2 0]]),(3,.arr 1 (enc x.2.2.1)),(4,.box (Row.row x.2.2.2))])) 5 ?_;rintro w ⟨c,f,g,j⟩ h _ y;rw[qg9]at h;refine sM ?_;refine sg λ_ k=>?_;refine sB h (λ_ h=>?_) λ_ h=>?_
 .
  refine y5 (q8 k (jg λ_ z=>?_));refine w9 λ_ A=>?_;refine sg λ_ l=>?_;obtain⟨o,F,h⟩:=bI F h;simp only[go_sem,F];refine ai ?_;refine q8 l (sM ?_);refine sB h (λ_ h=>?_) λ_ h=>?_
  . obtain⟨m,e,h⟩:=z8 h;simp only[go_sem];refine q1l [4,1,3,0,2] (qs8 c j g f m e) ?_;simp only[go_sem];exact au
  exact au
 exact au)
def qh4(c:aa)(b:Int->Option (Int×Int)):Int->Option (Int×Int):=
 λa=>
 (if (decide (a<(c.al.length:Int)))=true then q9 (qj3 c a) (λd=>
 (if d=true then some (8,a)
 else b (i64.wrap (a+1))))
 else some (0,0))
def q99(a:aa):Option (Int×Int):=
 q02 (qh4 a) rounds 0
def qh3(b:aa)(c:Int->Option (Int×Int)):Int->Option (Int×Int):=
 λa=>
 (if (decide (a<(b.al.length:Int)))=true then q9 (qn8 b a) (λd=>
 (if (!d)=true then some (7,a)
 else c (i64.wrap (a+1))))
 else q99 b)
def q9a(a:aa):Option (Int×Int):=
 q02 (qh3 a) rounds 0
def qh2(c:aa)(d:Int->Option (Int×Int)):Int->Option (Int×Int):=
 λa=>
 (if (decide (a<(c.aw.length:Int)))=true then q9 (qn9 c a) (λb=>
 (if (!(b==0))=true then some (b,a)
 else d (i64.wrap (a+1))))
 else q9a c)
def q9b(a:aa):Option (Int×Int):=
 q02 (qh2 a) rounds 0
def qh1(c:aa)(d:Int->Option (Int×Int)):Int->Option (Int×Int):=
 λa=>
 (if (decide (a<(c.al.length:Int)))=true then q9 (qn7 c a) (λb=>
 (if (!(b==0))=true then some (b,a)
 else d (i64.wrap (a+1))))
 else q9b c)
def q9c(a:aa):Option (Int×Int):=
 (if (((decide ((a.al.length:Int)<1))||(decide (32<(a.al.length:Int))))||(decide (64<(a.aw.length:Int))))=true then some (11,0)
 else q02 (qh1 a) rounds 0)
def qh0(b:aa)(c:Int->Option (Int×Int)):Int->Option (Int×Int):=
 λa=>
 (if (decide (a<(b.ae.length:Int)))=true then q9 (qi9 b a) (λd=>
 (if (!d)=true then some (6,a)
 else c (i64.wrap (a+1))))
 else q9c b)
def q8j(a:aa):Option (Int×Int):=
 (if (((decide ((a.ae.length:Int)<1))||(decide (8<(a.ae.length:Int))))||(!((a.aG.length:Int)==(a.ae.length:Int))))=true then some (6,0)
 else q02 (qh0 a) rounds 0)
instance ja0(a:aa):Ct pp 25 (q8j a) [.agg (Row.row a)] λr=>(.tup [.v (.int .i64 r.1),.v (.int .i64 r.2)]):=ctK Tryz.func25 rfl (by rw[q8j]) (by
 intro r h F;refine sM ?_;refine sg λ_ g=>?_;refine sM ?_;refine sB h (λ_ h=>?_) λ_ h=>?_
 . exact au
 refine y5 (q8 g (q3e (λ(_:Unit)=>q9c a=some r) [1] (λ_=>([],[(0,.box (Row.row a))])) 1 ?_ ?_))
 . intro _ j;refine sM ?_;refine w9 λ_ k=>?_;refine q0e h [1,32] (λc=>([(33,.v (.int .i64 c))],[(0,.box (Row.row a))])) 1 ?_;rintro l c h _ m;rw[qh0]at h;exact au
 rintro⟨⟩ h
 try dsimp only at h
 rw[q9c]at h;refine sg λ_ n=>?_;refine sM ?_;refine sB h (λ_ h=>?_) λ_ h=>?_
 . exact au
 refine y5 (q8 n (q3e (λ(_:Unit)=>q9b a=some r) [1] (λ_=>([],[(0,.box (Row.row a))])) 1 ?_ ?_))
 . intro _ o;refine sM ?_;refine w9 λ_ p=>?_;refine q0e h [1,60] (λd=>([(61,.v (.int .i64 d))],[(0,.box (Row.row a))])) 1 ?_;rintro q d h _ s;rw[qh1]at h;exact au
 rintro⟨⟩ h
 try dsimp only at h
 rw[q9b]at h;refine q3e (λ(_:Unit)=>q9a a=some r) [1] (λ_=>([],[(0,.box (Row.row a))])) 1 ?_ ?_
 . intro _ t;refine sM ?_;refine w9 λ_ u=>?_;refine q0e h [1,74] (λe=>([(75,.v (.int .i64 e))],[(0,.box (Row.row a))])) 1 ?_;rintro w e h _ y;rw[qh2]at h;exact au
 rintro⟨⟩ h
 try dsimp only at h
 rw[q9a]at h;refine q3e (λ(_:Unit)=>q99 a=some r) [1] (λ_=>([],[(0,.box (Row.row a))])) 1 ?_ ?_
 . intro _ z;refine sM ?_;refine w9 λ_ A=>?_;refine q0e h [1,88] (λf=>([(89,.v (.int .i64 f))],[(0,.box (Row.row a))])) 1 ?_;rintro B f h _ C;rw[qh3]at h;exact au
 rintro⟨⟩ h
 try dsimp only at h
 rw[q99]at h;refine jg λ_ H=>?_;refine sM ?_;refine w9 λ_ D=>?_;refine q0e h [1,100] (λb=>([(101,.v (.int .i64 b))],[(0,.box (Row.row a))])) 1 ?_;rintro E b h _ G;rw[qh4]at h;exact au)
def qo5(a:Int):Option Bool:=
 some ((decide ((-2147483648)<=a))&&(decide (a<=2147483648)))
instance jt4(a:Int):Ct pp 143 (qo5 a) [.v (.int .i64 a)] λr=>(.v (.bool r)):=ctI Tryz.func143 rfl (by rw[qo5];exact au1)
def q8p(a:Int):Option Bool:=
 some (!(a==a))
instance j4s(a:Int):Ct pp 166 (q8p a) [.v (.int .i64 a)] λr=>(.v (.bool r)):=ctI Tryz.func166 rfl (by rw[q8p];exact au1)
def q6c(a:Int)(b:Int):Option Int:=
 q9 (q8p a) (λd=>
 q9 (q8p b) (λc=>
 (if d=true then (if c=true then some 0
 else some (-1))
 else (if c=true then some 1
 else (if (decide (a<b))=true then some (-1)
 else (if (decide (b<a))=true then some 1
 else some 0))))))
instance z5b(a:Int)(b:Int):Ct pp 158 (q6c a b) [.v (.int .i64 a),.v (.int .i64 b)] λr=>(.v (.int .i64 r)):=ctI Tryz.func158 rfl (by rw[q6c];exact au1)
def ql8(a:List Int)(d:Int->Option Int):Int->Option Int:=
 λb=>
 (if (decide (b<(a.length:Int)))=true then q9 (idx a b) (λc=>
 (if (!(c==0))=true then some c
 else d (i64.wrap (b+1))))
 else some 0)
def qf4(a:List Int):Option Int:=
 q02 (ql8 a) rounds 0
instance z4h(a:List Int):Ct pp 17 (qf4 a) [.sl 1 (enc a)] λr=>(.v (.int .i64 r)):=ctK Tryz.func17 rfl (by rw[qf4]) (by
 intro r h F;refine sM ?_;refine sM ?_;refine jg λ_ d=>?_;refine sM ?_;refine w9 λ_ e=>?_;refine q0e h [3,6,7] (λb=>([(8,.v (.int .i64 b))],[])) 0 ?_;rintro c b h _ f;rw[ql8]at h;exact au)
def ql1(a:aR)(b:aR):Option Int:=
 q9 (q6c a.K b.K) (λc=>
 q9 (q6c a.V b.V) (λd=>
 q9 (qf4 ([c,d]:List Int)) (λe=>
 some e)))
instance jl1(b:aR)(c:aR):Ct pp 147 (ql1 b c) [.agg (Row.row b),.agg (Row.row c)] λr=>(.v (.int .i64 r)):=ctK Tryz.func147 rfl (by rw[ql1]) (by
 intro r h F;refine sM ?_;refine sg λ_ k=>?_;refine q00 ?_;refine jy5 ?_;obtain⟨a,e,h⟩:=z8 h;simp only[go_sem];refine bx (λ_=>(z5b b.K c.K a e)) (by rfl) (by rfl) ?_;simp only[go_sem];refine q2b h λd h=>?_;have f:[[.v (.int .i64 a)],[.v (.int .i64 d)]]=enc ([a,d]:List Int):=by rfl
 obtain⟨j,g,h⟩:=z8 h;simp only[go_sem];simp only[f];refine qo8 (z4h ([a,d]:List Int) j g) ?_;simp only[go_sem];exact au)
def z00(a:aR)(b:aR):Option Bool:=
 q9 (ql1 a b) (λc=>
 some (decide (c<0)))
instance jp0(a:aR)(b:aR):Ct pp 144 (z00 a b) [.agg (Row.row a),.agg (Row.row b)] λr=>(.v (.bool r)):=ctI Tryz.func144 rfl (by rw[z00];exact au1)
def qq9(d:List a7)(b:Int->Option Bool):Int->Option Bool:=
 λa=>
 (if (decide (a<(d.length:Int)))=true then q9 (idx d a) (λc=>
 (if (c.N==0)=true then some false
 else q9 (qo5 c.N) (λf=>
 (if f=true then (if (decide (0<a))=true then q9 (idx d (i64.wrap (a-1))) (λe=>
 q9 (z00 e.Rec c.Rec) (λg=>
 (if (!g)=true then some false
 else b (i64.wrap (a+1)))))
 else b (i64.wrap (a+1)))
 else some false))))
 else some true)
def q7x(a:List a7):Option Bool:=
 q02 (qq9 a) rounds 0
instance jl2(b:List a7):Ct pp 116 (q7x b) [.sl 3 (enc b)] λr=>(.v (.bool r)):=ctK Tryz.func116 rfl (by rw[q7x]) (by
 intro r h F;refine sM ?_;refine jg λ_ d=>?_;refine sM ?_;refine w9 λ_ e=>?_;refine q0e h [0,5,6] (λa=>([(7,.v (.int .i64 a))],[])) 0 ?_;rintro c a h _ f;rw[qq9]at h;exact au)
def q4l(c:List a7)(a:aR)(d:a7->aR->Option Int)(b:Int):Option (Int×Bool):=
 (if (decide (b<(c.length:Int)))=true then q9 (idx c b) (λe=>
 q9 (d e a) (λf=>
 some (b,(f==0))))
 else some (b,false))
def q6o(f:List a7)(a:aR)(c:a7->aR->Option Int)(d:Int×Int->Option (Int×Bool)):Int×Int->Option (Int×Bool):=
 λ(b,e)=>
 (if (decide (b<e))=true then q9 (idx f (i64.wrap (q2p .u64 (IntKind.u64.wrap (i64.wrap (b+e))) 1))) (λg=>
 q9 (c g a) (λj=>
 (if (decide (j<0))=true then d (i64.wrap ((i64.wrap (q2p .u64 (IntKind.u64.wrap (i64.wrap (b+e))) 1))+1),e)
 else d (b,i64.wrap (q2p .u64 (IntKind.u64.wrap (i64.wrap (b+e))) 1)))))
 else q4l f a c b)
def q3p(b:List a7)(a:aR)(c:a7->aR->Option Int):Option (Int×Bool):=
 q02 (q6o b a c) rounds (0,(b.length:Int))
theorem qv9(j:List a7)(a:aR)(g:a7->aR->Option Int)(b:FuncId)(c:List AV)(d:q0f c=true)(e:u7 pp b=true)(f:∀(z:a7) (A:aR) (r:Int),g z A=some r->be pp b ([.agg (Row.row z),.agg (Row.row A)]++c) 0 (.v (.int .i64 r)))(r:Int×Bool)(h:q3p j a g=some r):be pp 145 [.sl 3 (enc j),.agg (Row.row a),.clo b c] 0 (.tup [.v (.int .i64 r.1),.v (.bool r.2)]):=by
 refine ptI Tryz.func145 rfl ?_;rw[q3p]at h;have F:=trivial;refine sM ?_;refine sM ?_;refine sM ?_;refine q3e (λ(l:Int)=>q4l j a g l=some r) [0,2,4,8] (λl=>([(9,.v (.int .i64 l))],[(0,.box (Row.row a))])) 1 ?_ ?_
 .
  intro _ D;refine w9 λ_ E=>?_;refine q0e h [0,2,4,8] (λx=>([(9,.v (.int .i64 x.1)),(10,.v (.int .i64 x.2))],[(0,.box (Row.row a))])) 1 ?_;rintro G ⟨s,H⟩ h _ t;rw[q6o]at h;refine sg λ_ B=>?_;refine sM ?_;refine sB h (λ_ h=>?_) λ_ h=>?_
  .
   refine y5 (q8 B (w9 λ_ m=>?_));refine sM ?_;refine sg λ_ u=>?_;refine q00 ?_;refine jy5 ?_;obtain⟨n,F,h⟩:=bI F h;obtain⟨w,o,h⟩:=z8 h;simp only[go_sem,e,F];refine ai ?_;refine q9s (f n a w o) (by rfl) (by simp[go_sem,q0f,q0n,d]) ?_;simp only[go_sem];refine q8 u (sB h (λ_ h=>?_) λ_ h=>?_)
   . simp only[go_sem];refine q08 m (u6 t ?_);exact nxC _ h [some 0] leA
   simp only[go_sem];refine q08 m (u6 t ?_);exact nxC _ h [some 0] leA
  refine q0u (q1w B (q0v t (q0m E (u6 D (⟨s,[some 0],?_,h⟩)))));exact leA
 rintro l h
 try dsimp only at h
 rw[q4l]at h;refine sg λ_ C=>?_;refine q00 ?_;refine jy5 ?_;simp only[go_sem];rcases k:(decide (l<(j.length:Int)))with _|_
 . replace h:=q2s h k;simp only[go_sem,k];refine q8 C (q04 ?_);simp only[go_sem];obtain rfl:=Xi h;refine q5h rfl ?_;exact leA
 replace h:=q2r h k;obtain⟨p,F,h⟩:=bI F h;obtain⟨y,q,h⟩:=z8 h;simp only[go_sem,k,e,F];refine ai ?_;refine ai ?_;refine bx (λ_=>(f p a y q)) (by rfl) (by simp[go_sem,q0f,q0n,d]) ?_;simp only[go_sem];refine q8 C (q04 ?_);simp only[go_sem];obtain rfl:=Xi h;refine q5h rfl ?_;exact leA
def qd5(a:a7)(b:aR):Option Int:=
 q9 (ql1 a.Rec b) (λc=>
 some c)
instance zm8(a:a7)(b:aR):Ct pp 146 (qd5 a b) [.agg (Row.row a),.agg (Row.row b)] λr=>(.v (.int .i64 r)):=ctI Tryz.func146 rfl (by rw[qd5];exact au1)
def q6b(a:List a7):Option (List a7):=
 x9 ((Xo ([]:List a7)+a.length)*24<=140737488355328) (
 some (([]:List a7)++a))
theorem qr7(a:List a7)(r:List a7)(h:q6b a=some r):bu pp 115 [.sl 3 (enc a)] [] 0 (.osl 0 3 (0) (r.length)) [(0,.arr 3 (enc r))] 1:=by
 refine dtI Tryz.func115 rfl ?_;rw[q6b]at h;have F:=trivial;refine sM ?_;refine sg λ_ g=>?_;refine sg λ_ j=>?_;simp only[go_sem];intro e c;rcases e with _|_
 .
  refine q8 j (k1x ?_);refine y5 (q8 g (sg λ_ l=>?_));obtain⟨d,h⟩:=q07 h;have F:=Xg F d;simp only[Xd,Xf,Xc,Xj]at d;have f:enc ([]:List a7)++enc a=enc (([]:List a7)++a):=by exact (q2v ([]:List a7) a).symm
  simp only[go_sem,d,f];exact au
 have b:a=[]:=by cases k:(a)with|nil=>rfl|cons y ys=>exact absurd (c (by rw[k];simp[enc])) (by simp)
 simp only[b]at h;exact au
def q4y(a:List a7)(b:Int)(c:List a7):Option (List a7):=zl9 24 a b c
theorem qs0:dN pp (zh2 148 159 160 0 3 4 68 69) 3 24 (.agg #[.int .i64 0,.int .i64 0,.int .i64 0]:Value):={mixed:=by kernel_rfl,t0:=Tryz.underlying0,a0:=Tryz.isAgg0,z0:=Tryz.sizeOf0,v0:=Tryz.zeroValue0,t3:=Tryz.underlying3,a3:=Tryz.isAgg3,z3:=Tryz.sizeOf3,v3:=Tryz.zeroValue3,t4:=Tryz.underlying4,a4:=Tryz.isAgg4,z4:=Tryz.sizeOf4,v4:=Tryz.zeroValue4,t24:=Tryz.underlying69,a24:=Tryz.isAgg69,z24:=Tryz.sizeOf69,v24:=Tryz.zeroValue69,z9:=Tryz.sizeOf68,i9:=j2u (by kernel_rfl),f22:=⟨"slices.Insert[[]backwash/api.Item,backwash/api.Item]",by decide,by kernel_rfl⟩,ov:=⟨_,Tryz.func159,by kernel_rfl,by kernel_rfl,by kernel_rfl,by kernel_rfl⟩}
theorem qs1(a:List a7)(c:Int)(b:List a7)(r:List a7)(h:q4y a c b=some r):bu pp 148 [.osl 0 3 0 (a.length),.v (.int .i64 c),.osl 1 3 0 (b.length)] [(0,.arr 3 (enc a)),(1,.arr 3 (enc b))] 2 (.osl 2 3 0 (r.length)) [(2,.arr 3 (enc r))] 3:=
 j4l qs0 (by kernel_rfl) (by kernel_rfl) (by decide) (by rfl) (by decide) rfl (λ_=>rfl) h
def q8w(a:List a7)(b:Int)(c:Int):Option (List a7):=z2m a b c
theorem z04:dy pp (zh2 149 0 0 0 3 4 68 69) 3 (.agg #[.int .i64 0,.int .i64 0,.int .i64 0]:Value):={mixed:=by kernel_rfl,t0:=Tryz.underlying0,a0:=Tryz.isAgg0,z0:=Tryz.sizeOf0,v0:=Tryz.zeroValue0,t3:=Tryz.underlying3,a3:=Tryz.isAgg3,z3:=Tryz.sizeOf3,v3:=Tryz.zeroValue3,t4:=Tryz.underlying4,a4:=Tryz.isAgg4,z4:=Tryz.sizeOf4,v4:=Tryz.zeroValue4,t24:=Tryz.underlying69,a24:=Tryz.isAgg69,z24:=Tryz.sizeOf69,v24:=Tryz.zeroValue69,z9:=Tryz.sizeOf68,v9:=Tryz.zeroValue68,i9:=zc3 (b:=24) (by kernel_rfl),f24:=⟨"slices.Delete[[]backwash/api.Item,backwash/api.Item]",by decide,by kernel_rfl⟩}
theorem z05(a:List a7)(b:Int)(c:Int)(r:List a7)(h:q8w a b c=some r):bu pp 149 [.osl 0 3 0 (a.length),.v (.int .i64 b),.v (.int .i64 c)] [(0,.arr 3 (enc a))] 1 (.osl 1 3 0 (r.length)) [(1,.arr 3 (enc r))] 2:=
 z7b z04 (by kernel_rfl) (by decide) (by rfl) (by rfl) (λ_=>rfl) h
def q7o(b:List a7)(e:aR)(a:Int):Option (List a7):=
 q9 (q3p b e (λf g=>qd5 f g)) (λd=>
 (if (a==0)=true then some b
 else q9 (qo5 a) (λj=>
 (if (!j)=true then some b
 else (if (!d.2)=true then q9 (q4y b d.1 ([(⟨e,a⟩:a7)]:List a7)) (λk=>
 some k)
 else q9 (idx b d.1) (λc=>
 (if ((i64.wrap (c.N+a))==0)=true then q9 (q8w b d.1 (i64.wrap (d.1+1))) (λl=>
 some l)
 else q9 (qo5 (i64.wrap (c.N+a))) (λm=>
 (if m=true then some (Xv b (d.1.toNat) (⟨c.Rec,i64.wrap (c.N+a)⟩:a7))
 else some b)))))))))
theorem z1f(c:List a7)(a:aR)(b:Int)(r:List a7)(h:q7o c a b=some r):bu pp 117 [.osl 0 3 (0) (c.length),.agg (Row.row a),.v (.int .i64 b)] [(0,.arr 3 (enc c))] 1 (.osl 1 3 (0) (r.length)) [(1,.arr 3 (enc r))] 2:=by
 refine dtI Tryz.func117 rfl ?_;rw[q7o]at h;have F:=trivial;refine sM ?_;refine sg λ_ t=>?_;obtain⟨e,j,h⟩:=z8 h;simp only[go_sem];refine qo8 (qv9 c a (λn o=>qd5 n o) 146 [] (by rfl) (by kernel_rfl) (λu w y z=>zm8 u w y z) e j) ?_;simp only[go_sem];refine q8 t (jg λ_ G=>?_);refine w9 λ_ H=>?_;refine sg λ_ A=>?_;simp only[go_sem];rcases d:(b==0)with _|_
 .
  replace h:=q2s h d;simp only[go_sem,d];refine q2b h λB h=>?_;simp only[go_sem];refine q8 A (sB h (λ_ h=>?_) λ_ h=>?_)
  . exact au
  refine sM ?_;refine sB h (λ_ h=>?_) λ_ h=>?_
  .
   refine sg λ_ I=>?_;have k:[[.v (.int .i64 a.K),.v (.int .i64 a.V),.v (.int .i64 b)]]=enc ([(⟨a,b⟩:a7)]:List a7):=by rfl
   obtain⟨p,l,h⟩:=z8 h;simp only[go_sem];simp only[k];refine q1l [0,2] (qs1 c e.1 ([(⟨a,b⟩:a7)]:List a7) p l) ?_;simp only[go_sem];exact au
  refine sg λ_ C=>?_;obtain⟨f,F,h⟩:=bI F h;simp only[go_sem,F];refine ai ?_;refine q8 C (sB h (λ_ h=>?_) λ_ h=>?_)
  . refine sg λ_ D=>?_;obtain⟨q,m,h⟩:=z8 h;simp only[go_sem];refine q1l [0] (z05 c e.1 (i64.wrap (e.1+1)) q m) ?_;simp only[go_sem];exact au
  refine sg λ_ s=>?_;simp only[go_sem,F];refine ai ?_;refine q2b h λE h=>?_;simp only[go_sem];refine q8 s (sB h (λ_ h=>?_) λ_ h=>?_)
  . have g:=q6w c (e.1.toNat) (⟨f.Rec,i64.wrap (f.N+b)⟩:a7);simp only[j5z]at g;simp only[go_sem,g,F];refine ai ?_;refine ai ?_;exact au
  exact au
 replace h:=q2r h d;simp only[go_sem,d];exact au
def z1g(a:List a7)(b:aR)(c:Int):Option (List a7):=
 q9 (q6b a) (λd=>
 q9 (q7x a) (λe=>
 (if (!e)=true then some d
 else q9 (q7o d b c) (λf=>
 some f))))
theorem zs7(c:List a7)(a:aR)(b:Int)(r:List a7)(h:z1g c a b=some r):bu pp 129 [.sl 3 (enc c),.agg (Row.row a),.v (.int .i64 b)] [] 0 (.osl 0 3 (0) (r.length)) [(0,.arr 3 (enc r))] 1:=by
 refine dtI Tryz.func129 rfl ?_;rw[z1g]at h;have F:=trivial;refine sM ?_;refine sg λ_ j=>?_;obtain⟨d,e,h⟩:=z8 h;simp only[go_sem];refine q1l [] (qr7 c d e) ?_;simp only[go_sem];refine q8 j (sg λ_ k=>?_);refine sg λ_ l=>?_;simp only[go_sem];refine q2b h λm h=>?_;simp only[go_sem];refine q8 l (sB h (λ_ h=>?_) λ_ h=>?_)
 . exact au
 refine y5 (q8 k (sg λ_ n=>?_));obtain⟨g,f,h⟩:=z8 h;simp only[go_sem];refine q1l [1] (z1f d a b g f) ?_;simp only[go_sem];exact au
def ql9(e:List a7)(b:Int)(d:Int×(List a7)->Option (List a7)):Int×(List a7)->Option (List a7):=
 λ(a,f)=>
 (if (decide (a<(e.length:Int)))=true then q9 (idx e a) (λc=>
 q9 (q7o f c.Rec (i64.wrap (b*c.N))) (λg=>
 d (i64.wrap (a+1),g)))
 else some f)
def qz9(c:List a7)(d:List a7)(a:Int):Option (List a7):=
 q9 (q6b c) (λb=>
 q9 (q7x c) (λe=>
 (if e=true then q9 (q7x d) (λf=>
 (if (!f)=true then some b
 else q02 (ql9 d a) rounds (0,b)))
 else some b)))
theorem zd3(d:List a7)(e:List a7)(a:Int)(r:List a7)(h:qz9 d e a=some r):bu pp 67 [.sl 3 (enc d),.sl 3 (enc e),.v (.int .i64 a)] [] 0 (.osl 0 3 (0) (r.length)) [(0,.arr 3 (enc r))] 1:=by
 refine dtI Tryz.func67 rfl ?_;rw[qz9]at h;have F:=trivial;refine sM ?_;refine sg λ_ q=>?_;obtain⟨j,f,h⟩:=z8 h;simp only[go_sem];refine q1l [] (qr7 d j f) ?_;simp only[go_sem];refine q8 q (sg λ_ s=>?_);refine sg λ_ t=>?_;simp only[go_sem];refine q2b h λk h=>?_;simp only[go_sem];rcases b:k with _|_
 . replace h:=q2s h b;simp only[go_sem,b];exact au
 replace h:=q2r h b;simp only[go_sem,b];refine q2b h λu h=>?_;simp only[go_sem];refine q8 t (sB h (λ_ h=>?_) λ_ h=>?_)
 . exact au
 refine y5 (q8 s (jg λ_ B=>?_));refine sM ?_;refine w9 λ_ C=>?_;refine q0e h [2,21,22] (λx=>([(7,.osl 0 3 (0) (x.2.length)),(23,.v (.int .i64 x.1))],[(0,.arr 3 (enc x.2))])) 1 ?_;rintro w ⟨l,m⟩ h _ y;rw[ql9]at h;refine sM ?_;refine sg λ_ n=>?_;refine sB h (λ_ h=>?_) λ_ h=>?_
 . refine y5 (q8 n (sg λ_ z=>?_));refine w9 λ_ A=>?_;refine sg λ_ o=>?_;obtain⟨c,F,h⟩:=bI F h;simp only[go_sem,F];refine ai ?_;refine q8 o ?_;obtain⟨p,g,h⟩:=z8 h;simp only[go_sem];refine q1l [0] (z1f m c.Rec (i64.wrap (a*c.N)) p g) ?_;simp only[go_sem];exact au
 exact au
def q31(a:List a7)(b:List a7):Option (List a7):=
 q9 (qz9 a b 1) (λc=>
 some c)
theorem qr0(a:List a7)(b:List a7)(r:List a7)(h:q31 a b=some r):bu pp 34 [.sl 3 (enc a),.sl 3 (enc b)] [] 0 (.osl 0 3 (0) (r.length)) [(0,.arr 3 (enc r))] 1:=by
 refine dtI Tryz.func34 rfl ?_;rw[q31]at h;have F:=trivial;refine sM ?_;refine sg λ_ e=>?_;obtain⟨d,c,h⟩:=z8 h;simp only[go_sem];refine q1l [] (zd3 a b 1 d c) ?_;simp only[go_sem];exact au
instance qk2(a:List a7)(b:List a7):Ct pp 34 (q31 a b) [.sl 3 (enc a),.sl 3 (enc b)] λr=>(.sl 3 (enc r)):=⟨λr h=>(qr0 a b r h).pure leA⟩
def qq7(a:List a7)(b:List a7):Option (List a7):=
 q9 (q7x a) (λc=>
 (if (!c)=true then some ([]:List a7)
 else some b))
def qq8(e:List a7)(b:Int×(List a7)->Option (List a7)):Int×(List a7)->Option (List a7):=
 λ(a,d)=>
 (if (decide (a<(e.length:Int)))=true then q9 (idx e a) (λc=>
 (if (decide (0<c.N))=true then x9 ((d.length+Xo ([c]:List a7))*24<=140737488355328) (
 b (i64.wrap (a+1),(d++([c]:List a7))))
 else b (i64.wrap (a+1),d)))
 else qq7 e d)
def ql2(a:List a7):Option (List a7):=
 q02 (qq8 a) rounds (0,[])
theorem z4i(c:List a7)(r:List a7)(h:ql2 c=some r):bu pp 76 [.sl 3 (enc c)] [] 0 (.osl 0 3 (0) (r.length)) [(0,.arr 3 (enc r))] 1:=by
 refine dtI Tryz.func76 rfl ?_;rw[ql2]at h;have F:=trivial;refine sM ?_;refine sM ?_;refine q3e (λ(b:(List a7))=>qq7 c b=some r) [0] (λb=>([(3,.osl 0 3 (0) (b.length))],[(0,.arr 3 (enc b))])) 1 ?_ ?_
 .
  intro _ q;refine sM ?_;refine w9 λ_ s=>?_;refine q0e h [0,6,7] (λx=>([(3,.osl 0 3 (0) (x.2.length)),(8,.v (.int .i64 x.1))],[(0,.arr 3 (enc x.2))])) 1 ?_;rintro m ⟨l,d⟩ h _ n;rw[qq8]at h;refine sM ?_;refine sg λ_ j=>?_;refine sB h (λ_ h=>?_) λ_ h=>?_
  .
   refine y5 (q8 j (jg λ_ o=>?_));refine w9 λ_ p=>?_;refine sg λ_ k=>?_;obtain⟨a,F,h⟩:=bI F h;simp only[go_sem,F];refine ai ?_;refine q8 k (sM ?_);refine sB h (λ_ h=>?_) λ_ h=>?_
   .
    have f:[[.v (.int .i64 a.Rec.K),.v (.int .i64 a.Rec.V),.v (.int .i64 a.N)]]=enc ([a]:List a7):=by rfl
    obtain⟨e,h⟩:=q07 h;have F:=Xg F e;simp only[Xd,Xf,Xc,Xj]at e;have g:enc d++[[.v (.int .i64 a.Rec.K),.v (.int .i64 a.Rec.V),.v (.int .i64 a.N)]]=enc (d++([a]:List a7)):=by exact (q2v d ([a]:List a7)).symm
    simp only[go_sem,e,g];simp only[f];exact au
   exact au
  exact au
 rintro b h
 try dsimp only at h
 rw[qq7]at h;exact au
def q0b(a:az)(b:Int):Option az:=
 (if ((a.stack.length:Int)==8)=true then some (⟨a.r,a.stack,a.out,a.at_,1⟩:az)
 else x9 ((a.stack.length+Xo ([b]:List Int))*8<=140737488355328) (
 some (⟨a.r,(a.stack++([b]:List Int)),a.out,a.at_,a.bad⟩:az)))
theorem q11(a:az)(b:Int)(r:az)(h:q0b a b=some r):bu pp 171 [.ptr 0 0,.v (.int .i64 b)] [(0,.box [.v (.int .i64 a.r.K),.v (.int .i64 a.r.V),.osl 1 1 (0) (a.stack.length),.osl 2 2 (0) (a.out.length),.v (.int .i64 a.at_),.v (.int .i64 a.bad)]),(1,.arr 1 (enc a.stack)),(2,.arr 2 (enc a.out))] 3 (.tup []) [(0,.box [.v (.int .i64 r.r.K),.v (.int .i64 r.r.V),.osl 3 1 (0) (r.stack.length),.osl 4 2 (0) (r.out.length),.v (.int .i64 r.at_),.v (.int .i64 r.bad)]),(3,.arr 1 (enc r.stack)),(4,.arr 2 (enc r.out))] 5:=by
 refine dtI Tryz.func171 rfl ?_;rw[q0b]at h;have F:=trivial;refine sg λ_ f=>?_;refine sM ?_;refine sB h (λ_ h=>?_) λ_ h=>?_
 . exact au
 refine y5 (q8 f ?_);have d:[[.v (.int .i64 b)]]=enc ([b]:List Int):=by rfl
 obtain⟨c,h⟩:=q07 h;have F:=Xg F c;simp only[Xd,Xf,Xc,Xj]at c;have e:enc a.stack++[[.v (.int .i64 b)]]=enc (a.stack++([b]:List Int)):=by exact (q2v a.stack ([b]:List Int)).symm
 simp only[go_sem,c,e];simp only[d];obtain rfl:=Xi h;refine q27 [some 4,some 2] ?_;exact leA
def q2t(a:az)(b:cy):Option (Bool×az):=
 (if (b.Op==1)=true then q9 (q0b a b.N) (λf=>
 some (true,f))
 else (if (b.Op==2)=true then q9 (q0b a a.r.K) (λg=>
 some (true,g))
 else (if (b.Op==3)=true then q9 (q0b a a.r.V) (λj=>
 some (true,j))
 else (if (b.Op==11)=true then (if (decide ((i64.wrap ((a.stack.length:Int)-1))<0))=true then some (true,(⟨a.r,a.stack,a.out,a.at_,1⟩:az))
 else x9 (0<=i64.wrap ((a.stack.length:Int)-1)/\i64.wrap ((a.stack.length:Int)-1)<=(a.stack.length:Int)/\(a.stack.length:Int)<=(a.stack.length:Int)/\(a.stack.length:Int)<=(a.stack.length:Int)) (
 x9 (0<=0/\0<=i64.wrap ((a.stack.length:Int)-1)/\i64.wrap ((a.stack.length:Int)-1)<=(a.stack.length:Int)) (
 x9 (0<Xa (a.stack.length:Int)-Xa (i64.wrap ((a.stack.length:Int)-1))) (
 q9 (idx (Xb (Xa (a.stack.length:Int)-Xa (i64.wrap ((a.stack.length:Int)-1))) (Xy (Xa (i64.wrap ((a.stack.length:Int)-1))) a.stack)) 0) (λc=>
 q9 (q0b (⟨a.r,(Xb (Xa (i64.wrap ((a.stack.length:Int)-1))) a.stack),a.out,a.at_,a.bad⟩:az) c) (λk=>
 q9 (q0b k c) (λl=>
 some (true,l))))))))
 else (if (b.Op==12)=true then (if (decide ((i64.wrap ((a.stack.length:Int)-2))<0))=true then some (true,(⟨a.r,a.stack,a.out,a.at_,1⟩:az))
 else x9 (0<=i64.wrap ((a.stack.length:Int)-2)/\i64.wrap ((a.stack.length:Int)-2)<=(a.stack.length:Int)/\(a.stack.length:Int)<=(a.stack.length:Int)/\(a.stack.length:Int)<=(a.stack.length:Int)) (
 x9 (0<=0/\0<=i64.wrap ((a.stack.length:Int)-2)/\i64.wrap ((a.stack.length:Int)-2)<=(a.stack.length:Int)) (
 x9 (0<Xa (a.stack.length:Int)-Xa (i64.wrap ((a.stack.length:Int)-2))) (
 q9 (idx (Xb (Xa (a.stack.length:Int)-Xa (i64.wrap ((a.stack.length:Int)-2))) (Xy (Xa (i64.wrap ((a.stack.length:Int)-2))) a.stack)) 0) (λd=>
 q9 (idx (Xb (Xa (a.stack.length:Int)-Xa (i64.wrap ((a.stack.length:Int)-2))) (Xy (Xa (i64.wrap ((a.stack.length:Int)-2))) a.stack)) 1) (λe=>
 q9 (q0b (⟨a.r,(Xb (Xa (i64.wrap ((a.stack.length:Int)-2))) a.stack),a.out,a.at_,a.bad⟩:az) e) (λm=>
 q9 (q0b m d) (λn=>
 some (true,n)))))))))
 else (if (b.Op==13)=true then (if (decide ((i64.wrap ((a.stack.length:Int)-1))<0))=true then some (true,(⟨a.r,a.stack,a.out,a.at_,1⟩:az))
 else x9 (0<=i64.wrap ((a.stack.length:Int)-1)/\i64.wrap ((a.stack.length:Int)-1)<=(a.stack.length:Int)/\(a.stack.length:Int)<=(a.stack.length:Int)/\(a.stack.length:Int)<=(a.stack.length:Int)) (
 x9 (0<=0/\0<=i64.wrap ((a.stack.length:Int)-1)/\i64.wrap ((a.stack.length:Int)-1)<=(a.stack.length:Int)) (
 some (true,(⟨a.r,(Xb (Xa (i64.wrap ((a.stack.length:Int)-1))) a.stack),a.out,a.at_,a.bad⟩:az)))))
 else some (false,a)))))))
theorem qm0(a:az)(b:cy)(r:Bool×az)(h:q2t a b=some r):bu pp 168 [.ptr 0 0,.agg (Row.row b)] [(0,.box [.v (.int .i64 a.r.K),.v (.int .i64 a.r.V),.osl 1 1 (0) (a.stack.length),.osl 2 2 (0) (a.out.length),.v (.int .i64 a.at_),.v (.int .i64 a.bad)]),(1,.arr 1 (enc a.stack)),(2,.arr 2 (enc a.out))] 3 (.v (.bool r.1)) [(0,.box [.v (.int .i64 r.2.r.K),.v (.int .i64 r.2.r.V),.osl 3 1 (0) (r.2.stack.length),.osl 4 2 (0) (r.2.out.length),.v (.int .i64 r.2.at_),.v (.int .i64 r.2.bad)]),(3,.arr 1 (enc r.2.stack)),(4,.arr 2 (enc r.2.out))] 5:=by
 refine dtI Tryz.func168 rfl ?_;rw[q2t]at h;have F:=trivial;refine sM ?_;refine jg λ_ Q2=>?_;refine sM ?_;refine w9 λ_ Q4=>?_;refine sM ?_;refine sB h (λ_ h=>?_) λ_ h=>?_
 . obtain⟨C,j,h⟩:=z8 h;simp only[go_sem];refine q1l [0,1,2] (q11 a b.N C j) ?_;simp only[go_sem];exact au
 refine sM ?_;refine sB h (λ_ h=>?_) λ_ h=>?_
 . obtain⟨D,k,h⟩:=z8 h;simp only[go_sem];refine q1l [0,1,2] (q11 a a.r.K D k) ?_;simp only[go_sem];exact au
 refine sM ?_;refine sB h (λ_ h=>?_) λ_ h=>?_
 . obtain⟨E,l,h⟩:=z8 h;simp only[go_sem];refine q1l [0,1,2] (q11 a a.r.V E l) ?_;simp only[go_sem];exact au
 refine sM ?_;refine sB h (λ_ h=>?_) λ_ h=>?_
 .
  refine sg λ_ G=>?_;simp only[go_sem];refine q5o Tryz.func169 rfl (by kernel_rfl) (by kernel_rfl) ?_;refine sM ?_;refine sM ?_;refine sg λ_ m=>?_;refine sM ?_;refine sB h (λ_ h=>?_) λ_ h=>?_
  .
   refine sM ?_;refine sM ?_;refine q04 (q18 m ?_);simp only[go_sem];refine q1f [] [(0,.box [.v (.int .i64 a.r.K),.v (.int .i64 a.r.V),.osl 1 1 (0) (a.stack.length),.osl 2 2 (0) (a.out.length),.v (.int .i64 a.at_),.v (.int .i64 1)]),(1,.arr 1 (enc a.stack)),(2,.arr 2 (enc a.out)),(3,.box (Row.row b))] 4 (.v (.slice none 0 0)) ?_ ?_
   . exact leA
   refine q1v ?_;simp only[go_sem];exact au
  refine y5 (q8 m (sg λ_ H=>?_));refine q00 ?_;refine jy5 ?_;obtain⟨F,h⟩:=bG F h;simp only[go_sem,F];refine q8 H (sg λ_ I=>?_);obtain⟨F,h⟩:=bG F h;simp only[go_sem,F];refine q8 I (sM ?_);refine q04 ?_;simp only[go_sem];refine q1f [] [(0,.box [.v (.int .i64 a.r.K),.v (.int .i64 a.r.V),.osl 1 1 (0) (Xa (i64.wrap ((a.stack.length:Int)-1))),.osl 2 2 (0) (a.out.length),.v (.int .i64 a.at_),.v (.int .i64 a.bad)]),(1,.arr 1 (enc a.stack)),(2,.arr 2 (enc a.out)),(3,.box (Row.row b))] 4 (.osl 1 1 (Xa (i64.wrap ((a.stack.length:Int)-1))) (Xa (a.stack.length:Int)-Xa (i64.wrap ((a.stack.length:Int)-1)))) ?_ ?_
  . exact leA
  refine q1v ?_;simp only[go_sem];refine q8 G (sg λ_ J=>?_);obtain⟨F,h⟩:=bG F h;simp only[go_sem,F];refine ai ?_;refine q8 J (k1w ?_);refine sg λ_ L=>?_;obtain⟨f,M,h⟩:=z8 h;obtain⟨O,P,n,c⟩:=qn2 M;simp only[Xh,Xl,Xc,Xs]at n c;simp only[go_sem,O,P,n,c];refine ai ?_;refine q8 L (sg λ_ Q=>?_);obtain⟨o,p,h⟩:=z8 h;simp only[go_sem];refine qe1 [0,6] ([],[(0,.box [.v (.int .i64 a.r.K),.v (.int .i64 a.r.V),.osl 1 1 (0) (Xo (Xb (Xa (i64.wrap ((a.stack.length:Int)-1))) a.stack)),.osl 2 2 (0) (a.out.length),.v (.int .i64 a.at_),.v (.int .i64 a.bad)]),(1,.arr 1 (enc (Xb (Xa (i64.wrap ((a.stack.length:Int)-1))) a.stack))),(2,.arr 2 (enc a.out)),(3,.box (Row.row b))]) 4 [some 3] [.ptr 0 0,.v (.int .i64 f)] ?_;refine q1l [0,1,2] (q11 (⟨a.r,(Xb (Xa (i64.wrap ((a.stack.length:Int)-1))) a.stack),a.out,a.at_,a.bad⟩:az) f o p) ?_;simp only[go_sem];refine q8 Q ?_;obtain⟨R,q,h⟩:=z8 h;simp only[go_sem];refine q1l [0,4,5] (q11 o f R q) ?_;simp only[go_sem];exact au
 refine sM ?_;refine sB h (λ_ h=>?_) λ_ h=>?_
 .
  refine sg λ_ S=>?_;simp only[go_sem];refine q5o Tryz.func169 rfl (by kernel_rfl) (by kernel_rfl) ?_;refine sM ?_;refine sM ?_;refine sg λ_ s=>?_;refine sM ?_;refine sB h (λ_ h=>?_) λ_ h=>?_
  .
   refine sM ?_;refine sM ?_;refine q04 (q18 s ?_);simp only[go_sem];refine q1f [] [(0,.box [.v (.int .i64 a.r.K),.v (.int .i64 a.r.V),.osl 1 1 (0) (a.stack.length),.osl 2 2 (0) (a.out.length),.v (.int .i64 a.at_),.v (.int .i64 1)]),(1,.arr 1 (enc a.stack)),(2,.arr 2 (enc a.out)),(3,.box (Row.row b))] 4 (.v (.slice none 0 0)) ?_ ?_
   . exact leA
   refine q1v ?_;simp only[go_sem];exact au
  refine y5 (q8 s (sg λ_ T=>?_));refine q00 ?_;refine jy5 ?_;obtain⟨F,h⟩:=bG F h;simp only[go_sem,F];refine q8 T (sg λ_ U=>?_);obtain⟨F,h⟩:=bG F h;simp only[go_sem,F];refine q8 U (sM ?_);refine q04 ?_;simp only[go_sem];refine q1f [] [(0,.box [.v (.int .i64 a.r.K),.v (.int .i64 a.r.V),.osl 1 1 (0) (Xa (i64.wrap ((a.stack.length:Int)-2))),.osl 2 2 (0) (a.out.length),.v (.int .i64 a.at_),.v (.int .i64 a.bad)]),(1,.arr 1 (enc a.stack)),(2,.arr 2 (enc a.out)),(3,.box (Row.row b))] 4 (.osl 1 1 (Xa (i64.wrap ((a.stack.length:Int)-2))) (Xa (a.stack.length:Int)-Xa (i64.wrap ((a.stack.length:Int)-2)))) ?_ ?_
  . exact leA
  refine q1v ?_;simp only[go_sem];refine q8 S (sg λ_ W=>?_);obtain⟨F,h⟩:=bG F h;simp only[go_sem,F];refine ai ?_;refine q8 W (k1w ?_);refine sg λ_ X=>?_;refine q00 ?_;refine jy5 ?_;obtain⟨t,Y,h⟩:=z8 h;obtain⟨Z,a6,u,d⟩:=qn2 Y;simp only[Xh,Xl,Xc,Xs]at u d;obtain⟨g,ao,h⟩:=z8 h;obtain⟨ar,b0,w,e⟩:=qn2 ao;simp only[Xh,Xl,Xc,Xs]at w e;simp only[go_sem,Z,a6,u,d,ar,b0,w,e];refine ai ?_;refine ai ?_;refine q8 X (sg λ_ b1=>?_);obtain⟨y,z,h⟩:=z8 h;simp only[go_sem];refine qe1 [0,8] ([],[(0,.box [.v (.int .i64 a.r.K),.v (.int .i64 a.r.V),.osl 1 1 (0) (Xo (Xb (Xa (i64.wrap ((a.stack.length:Int)-2))) a.stack)),.osl 2 2 (0) (a.out.length),.v (.int .i64 a.at_),.v (.int .i64 a.bad)]),(1,.arr 1 (enc (Xb (Xa (i64.wrap ((a.stack.length:Int)-2))) a.stack))),(2,.arr 2 (enc a.out)),(3,.box (Row.row b))]) 4 [some 3] [.ptr 0 0,.v (.int .i64 g)] ?_;refine q1l [0,1,2] (q11 (⟨a.r,(Xb (Xa (i64.wrap ((a.stack.length:Int)-2))) a.stack),a.out,a.at_,a.bad⟩:az) g y z) ?_;simp only[go_sem];refine q8 b1 ?_;obtain⟨b2,A,h⟩:=z8 h;simp only[go_sem];refine q1l [0,4,5] (q11 y t b2 A) ?_;simp only[go_sem];exact au
 refine sM ?_;refine sB h (λ_ h=>?_) λ_ h=>?_
 .
  simp only[go_sem];refine q5o Tryz.func169 rfl (by kernel_rfl) (by kernel_rfl) ?_;refine sM ?_;refine sM ?_;refine sg λ_ B=>?_;refine sM ?_;refine sB h (λ_ h=>?_) λ_ h=>?_
  .
   refine sM ?_;refine sM ?_;refine q04 (q18 B ?_);simp only[go_sem];refine q1f [] [(0,.box [.v (.int .i64 a.r.K),.v (.int .i64 a.r.V),.osl 1 1 (0) (a.stack.length),.osl 2 2 (0) (a.out.length),.v (.int .i64 a.at_),.v (.int .i64 1)]),(1,.arr 1 (enc a.stack)),(2,.arr 2 (enc a.out)),(3,.box (Row.row b))] 4 (.v (.slice none 0 0)) ?_ ?_
   . exact leA
   refine q1v ?_;simp only[go_sem];exact au
  refine y5 (q8 B (sg λ_ b3=>?_));refine q00 ?_;refine jy5 ?_;obtain⟨F,h⟩:=bG F h;simp only[go_sem,F];refine q8 b3 (sg λ_ b4=>?_);obtain⟨F,h⟩:=bG F h;simp only[go_sem,F];refine q8 b4 (sM ?_);refine q04 ?_;simp only[go_sem];refine q1f [] [(0,.box [.v (.int .i64 a.r.K),.v (.int .i64 a.r.V),.osl 1 1 (0) (Xa (i64.wrap ((a.stack.length:Int)-1))),.osl 2 2 (0) (a.out.length),.v (.int .i64 a.at_),.v (.int .i64 a.bad)]),(1,.arr 1 (enc a.stack)),(2,.arr 2 (enc a.out)),(3,.box (Row.row b))] 4 (.osl 1 1 (Xa (i64.wrap ((a.stack.length:Int)-1))) (Xa (a.stack.length:Int)-Xa (i64.wrap ((a.stack.length:Int)-1)))) ?_ ?_
  . exact leA
  refine q1v ?_;simp only[go_sem];exact au
 exact au
def q92(a:Int):Option Int:=
 (if (decide (a<0))=true then some (IntKind.u64.wrap (0-(IntKind.u64.wrap a)))
 else some (IntKind.u64.wrap a))
instance j7v(a:Int):Ct pp 175 (q92 a) [.v (.int .i64 a)] λr=>(.v (.int .u64 r)):=ctI Tryz.func175 rfl (by rw[q92];exact au1)
def q3y(a:Int)(b:Int):Option (Int×Int):=
 some (IntKind.u64.wrap ((IntKind.u64.wrap ((IntKind.u64.wrap ((q2p .u64 a 32)*(q2p .u64 b 32)))+(q2p .u64 (IntKind.u64.wrap ((IntKind.u64.wrap ((q2p .u64 a 32)*(z0t .u64 b 4294967295)))+(q2p .u64 (IntKind.u64.wrap ((z0t .u64 a 4294967295)*(z0t .u64 b 4294967295))) 32))) 32)))+(q2p .u64 (IntKind.u64.wrap ((z0t .u64 (IntKind.u64.wrap ((IntKind.u64.wrap ((q2p .u64 a 32)*(z0t .u64 b 4294967295)))+(q2p .u64 (IntKind.u64.wrap ((z0t .u64 a 4294967295)*(z0t .u64 b 4294967295))) 32))) 4294967295)+(IntKind.u64.wrap ((z0t .u64 a 4294967295)*(q2p .u64 b 32))))) 32)),IntKind.u64.wrap (a*b))
instance j4r(a:Int)(b:Int):Ct pp 162 (q3y a b) [.v (.int .u64 a),.v (.int .u64 b)] λr=>(.tup [.v (.int .u64 r.1),.v (.int .u64 r.2)]):=ctI Tryz.func162 rfl (by rw[q3y];exact au1)
def qo0(b:Int)(c:Int):Option (Int×Bool):=
 q9 (q92 b) (λd=>
 q9 (q92 c) (λe=>
 q9 (q3y d e) (λa=>
 (if (!((decide (b<0))==(decide (c<0))))=true then some (i64.wrap (0-(i64.wrap a.2)),((a.1==0)&&(decide (a.2<=9223372036854775808))))
 else some (i64.wrap a.2,((a.1==0)&&(decide (a.2<9223372036854775808))))))))
instance je0(a:Int)(b:Int):Ct pp 173 (qo0 a b) [.v (.int .i64 a),.v (.int .i64 b)] λr=>(.tup [.v (.int .i64 r.1),.v (.bool r.2)]):=ctI Tryz.func173 rfl (by rw[qo0];exact au1)
def qf1(a:Bool):Option Int:=
 (if a=true then some 1
 else some 0)
instance jd9(a:Bool):Ct pp 174 (qf1 a) [.v (.bool a)] λr=>(.v (.int .i64 r)):=ctI Tryz.func174 rfl (by rw[qf1];exact au1)
def q2w(a:Int)(b:Bool):Option (Int×Int):=
 (if (!b)=true then some (0,2)
 else some (a,0))
def qa4(b:Int)(c:Int)(a:Int)(d:Bool):Option (Int×Int):=
 (if d=true then (if (a==0)=true then some (0,3)
 else (if ((a==(-1))&&(b==8))=true then q2w 0 true
 else (if (a==(-1))=true then q2w (i64.wrap (0-c)) (!(c==(-9223372036854775808)))
 else (if (b==7)=true then x9 (a≠0) (
 q2w (i64.wrap (Int.tdiv c a)) true)
 else x9 (a≠0) (
 q2w (Int.tmod c a) true)))))
 else (if (b==9)=true then q9 (qf1 (decide (c<a))) (λe=>
 q2w e true)
 else (if (b==10)=true then q9 (qf1 (c==a)) (λf=>
 q2w f true)
 else q2w 0 true)))
def qz3(a:Int)(b:Int)(c:Int):Option (Int×Int):=
 (if (a==4)=true then q2w (i64.wrap (b+c)) ((!((decide (b<0))==(decide (c<0))))||((decide ((i64.wrap (b+c))<0))==(decide (b<0))))
 else (if (a==5)=true then q2w (i64.wrap (b-c)) (((decide (b<0))==(decide (c<0)))||((decide ((i64.wrap (b-c))<0))==(decide (b<0))))
 else (if (a==6)=true then q9 (qo0 b c) (λd=>
 q2w d.1 d.2)
 else (if (a==7)=true then qa4 a b c (a==7)
 else qa4 a b c (a==8)))))
instance zs4(b:Int)(e:Int)(f:Int):Ct pp 170 (qz3 b e f) [.v (.int .i64 b),.v (.int .i64 e),.v (.int .i64 f)] λr=>(.tup [.v (.int .i64 r.1),.v (.int .i64 r.2)]):=ctK Tryz.func170 rfl (by rw[qz3]) (by
 intro r h F;refine sM ?_;refine sM ?_;refine q3e (λ((c,d):Int×Bool)=>q2w c d=some r) [] (λx=>([(8,.v (.int .i64 x.1)),(9,.v (.bool x.2))],[])) 0 ?_ ?_
 .
  intro _ j;refine sM ?_;refine w9 λ_ k=>?_;refine sM ?_;refine sB h (λ_ h=>?_) λ_ h=>?_
  . exact au
  refine sM ?_;refine sB h (λ_ h=>?_) λ_ h=>?_
  . exact au
  refine sM ?_;refine sB h (λ_ h=>?_) λ_ h=>?_
  . exact au
  refine q3e (λ(a:Bool)=>qa4 b e f a=some r) [0,1,2,8,9,10] (λa=>([(53,.v (.bool a))],[])) 0 ?_ ?_
  . intro _ g;exact au
  rintro a h
  try dsimp only at h
  rw[qa4]at h;exact au
 rintro⟨c,d⟩ h
 try dsimp only at h
 rw[q2w]at h;exact au)
def q2y(c:az)(b:cy):Option az:=
 q9 (q2t (⟨c.r,c.stack,c.out,i64.wrap (c.at_+1),c.bad⟩:az) b) (λa=>
 (if a.1=true then some a.2
 else (if (b.Op==14)=true then some (⟨a.2.r,a.2.stack,a.2.out,b.N,a.2.bad⟩:az)
 else (if (b.Op==15)=true then (if (decide ((i64.wrap ((a.2.stack.length:Int)-1))<0))=true then some (⟨a.2.r,a.2.stack,a.2.out,a.2.at_,1⟩:az)
 else x9 (0<=i64.wrap ((a.2.stack.length:Int)-1)/\i64.wrap ((a.2.stack.length:Int)-1)<=(a.2.stack.length:Int)/\(a.2.stack.length:Int)<=(a.2.stack.length:Int)/\(a.2.stack.length:Int)<=(a.2.stack.length:Int)) (
 x9 (0<=0/\0<=i64.wrap ((a.2.stack.length:Int)-1)/\i64.wrap ((a.2.stack.length:Int)-1)<=(a.2.stack.length:Int)) (
 x9 (0<Xa (a.2.stack.length:Int)-Xa (i64.wrap ((a.2.stack.length:Int)-1))) (
 q9 (idx (Xb (Xa (a.2.stack.length:Int)-Xa (i64.wrap ((a.2.stack.length:Int)-1))) (Xy (Xa (i64.wrap ((a.2.stack.length:Int)-1))) a.2.stack)) 0) (λf=>
 (if (f==0)=true then some (⟨a.2.r,(Xb (Xa (i64.wrap ((a.2.stack.length:Int)-1))) a.2.stack),a.2.out,b.N,a.2.bad⟩:az)
 else some (⟨a.2.r,(Xb (Xa (i64.wrap ((a.2.stack.length:Int)-1))) a.2.stack),a.2.out,a.2.at_,a.2.bad⟩:az)))))))
 else (if (b.Op==16)=true then (if (decide ((i64.wrap ((a.2.stack.length:Int)-2))<0))=true then some (⟨a.2.r,a.2.stack,a.2.out,a.2.at_,1⟩:az)
 else x9 (0<=i64.wrap ((a.2.stack.length:Int)-2)/\i64.wrap ((a.2.stack.length:Int)-2)<=(a.2.stack.length:Int)/\(a.2.stack.length:Int)<=(a.2.stack.length:Int)/\(a.2.stack.length:Int)<=(a.2.stack.length:Int)) (
 x9 (0<=0/\0<=i64.wrap ((a.2.stack.length:Int)-2)/\i64.wrap ((a.2.stack.length:Int)-2)<=(a.2.stack.length:Int)) (
 x9 (0<Xa (a.2.stack.length:Int)-Xa (i64.wrap ((a.2.stack.length:Int)-2))) (
 (if ((a.2.out.length:Int)==8)=true then some (⟨a.2.r,(Xb (Xa (i64.wrap ((a.2.stack.length:Int)-2))) a.2.stack),a.2.out,a.2.at_,5⟩:az)
 else q9 (idx (Xb (Xa (a.2.stack.length:Int)-Xa (i64.wrap ((a.2.stack.length:Int)-2))) (Xy (Xa (i64.wrap ((a.2.stack.length:Int)-2))) a.2.stack)) 0) (λd=>
 q9 (idx (Xb (Xa (a.2.stack.length:Int)-Xa (i64.wrap ((a.2.stack.length:Int)-2))) (Xy (Xa (i64.wrap ((a.2.stack.length:Int)-2))) a.2.stack)) 1) (λe=>
 x9 ((a.2.out.length+Xo ([(⟨d,e⟩:aR)]:List aR))*16<=140737488355328) (
 some (⟨a.2.r,(Xb (Xa (i64.wrap ((a.2.stack.length:Int)-2))) a.2.stack),(a.2.out++([(⟨d,e⟩:aR)]:List aR)),a.2.at_,a.2.bad⟩:az)))))))))
 else (if (decide ((i64.wrap ((a.2.stack.length:Int)-2))<0))=true then some (⟨a.2.r,a.2.stack,a.2.out,a.2.at_,1⟩:az)
 else x9 (0<=i64.wrap ((a.2.stack.length:Int)-2)/\i64.wrap ((a.2.stack.length:Int)-2)<=(a.2.stack.length:Int)/\(a.2.stack.length:Int)<=(a.2.stack.length:Int)/\(a.2.stack.length:Int)<=(a.2.stack.length:Int)) (
 x9 (0<=0/\0<=i64.wrap ((a.2.stack.length:Int)-2)/\i64.wrap ((a.2.stack.length:Int)-2)<=(a.2.stack.length:Int)) (
 x9 (0<Xa (a.2.stack.length:Int)-Xa (i64.wrap ((a.2.stack.length:Int)-2))) (
 q9 (idx (Xb (Xa (a.2.stack.length:Int)-Xa (i64.wrap ((a.2.stack.length:Int)-2))) (Xy (Xa (i64.wrap ((a.2.stack.length:Int)-2))) a.2.stack)) 0) (λg=>
 q9 (idx (Xb (Xa (a.2.stack.length:Int)-Xa (i64.wrap ((a.2.stack.length:Int)-2))) (Xy (Xa (i64.wrap ((a.2.stack.length:Int)-2))) a.2.stack)) 1) (λj=>
 q9 (qz3 b.Op g j) (λk=>
 q9 (q0b (⟨a.2.r,(Xb (Xa (i64.wrap ((a.2.stack.length:Int)-2))) a.2.stack),a.2.out,a.2.at_,k.2⟩:az) k.1) (λl=>
 some l)))))))))))))
theorem qo1(b:az)(c:cy)(r:az)(h:q2y b c=some r):bu pp 161 [.ptr 0 0,.agg (Row.row c)] [(0,.box [.v (.int .i64 b.r.K),.v (.int .i64 b.r.V),.osl 1 1 (0) (b.stack.length),.osl 2 2 (0) (b.out.length),.v (.int .i64 b.at_),.v (.int .i64 b.bad)]),(1,.arr 1 (enc b.stack)),(2,.arr 2 (enc b.out))] 3 (.tup []) [(0,.box [.v (.int .i64 r.r.K),.v (.int .i64 r.r.V),.osl 3 1 (0) (r.stack.length),.osl 4 2 (0) (r.out.length),.v (.int .i64 r.at_),.v (.int .i64 r.bad)]),(3,.arr 1 (enc r.stack)),(4,.arr 2 (enc r.out))] 5:=by
 refine dtI Tryz.func161 rfl ?_;rw[q2y]at h;have F:=trivial;refine sM ?_;refine sM ?_;refine sg λ_ Q3=>?_;refine sg λ_ Q4=>?_;obtain⟨a,o,h⟩:=z8 h;simp only[go_sem];refine q1l [0,1,2] (qm0 (⟨b.r,b.stack,b.out,i64.wrap (b.at_+1),b.bad⟩:az) c a o) ?_;simp only[go_sem];refine q8 Q4 (sB h (λ_ h=>?_) λ_ h=>?_)
 . exact au
 refine y5 (q8 Q3 (sM ?_));refine w9 λ_ Q6=>?_;refine sM ?_;refine sB h (λ_ h=>?_) λ_ h=>?_
 . exact au
 refine sM ?_;refine sB h (λ_ h=>?_) λ_ h=>?_
 .
  refine sg λ_ Q9=>?_;simp only[go_sem];refine q5o Tryz.func169 rfl (by kernel_rfl) (by kernel_rfl) ?_;refine sM ?_;refine sM ?_;refine sg λ_ p=>?_;refine sM ?_;refine sB h (λ_ h=>?_) λ_ h=>?_
  .
   refine sM ?_;refine sM ?_;refine q04 (q18 p ?_);simp only[go_sem];refine q1f [] [(0,.box [.v (.int .i64 a.2.r.K),.v (.int .i64 a.2.r.V),.osl 4 1 (0) (a.2.stack.length),.osl 5 2 (0) (a.2.out.length),.v (.int .i64 a.2.at_),.v (.int .i64 1)]),(3,.box (Row.row c)),(4,.arr 1 (enc a.2.stack)),(5,.arr 2 (enc a.2.out))] 6 (.v (.slice none 0 0)) ?_ ?_
   . exact leA
   refine q1v ?_;simp only[go_sem];exact au
  refine y5 (q8 p (sg λ_ H=>?_));refine q00 ?_;refine jy5 ?_;obtain⟨F,h⟩:=bG F h;simp only[go_sem,F];refine q8 H (sg λ_ I=>?_);obtain⟨F,h⟩:=bG F h;simp only[go_sem,F];refine q8 I (sM ?_);refine q04 ?_;simp only[go_sem];refine q1f [] [(0,.box [.v (.int .i64 a.2.r.K),.v (.int .i64 a.2.r.V),.osl 4 1 (0) (Xa (i64.wrap ((a.2.stack.length:Int)-1))),.osl 5 2 (0) (a.2.out.length),.v (.int .i64 a.2.at_),.v (.int .i64 a.2.bad)]),(3,.box (Row.row c)),(4,.arr 1 (enc a.2.stack)),(5,.arr 2 (enc a.2.out))] 6 (.osl 4 1 (Xa (i64.wrap ((a.2.stack.length:Int)-1))) (Xa (a.2.stack.length:Int)-Xa (i64.wrap ((a.2.stack.length:Int)-1)))) ?_ ?_
  . exact leA
  refine q1v ?_;simp only[go_sem];refine q8 Q9 (sg λ_ bi=>?_);obtain⟨F,h⟩:=bG F h;obtain⟨bc,J,h⟩:=z8 h;obtain⟨L,M,q,f⟩:=qn2 J;simp only[Xh,Xl,Xc,Xs]at q f;simp only[go_sem,L,M,q,f,F];refine ai ?_;refine ai ?_;exact au
 refine sM ?_;refine sB h (λ_ h=>?_) λ_ h=>?_
 .
  refine sg λ_ N=>?_;simp only[go_sem];refine q5o Tryz.func169 rfl (by kernel_rfl) (by kernel_rfl) ?_;refine sM ?_;refine sM ?_;refine sg λ_ s=>?_;refine sM ?_;refine sB h (λ_ h=>?_) λ_ h=>?_
  .
   refine sM ?_;refine sM ?_;refine q04 (q18 s ?_);simp only[go_sem];refine q1f [] [(0,.box [.v (.int .i64 a.2.r.K),.v (.int .i64 a.2.r.V),.osl 4 1 (0) (a.2.stack.length),.osl 5 2 (0) (a.2.out.length),.v (.int .i64 a.2.at_),.v (.int .i64 1)]),(3,.box (Row.row c)),(4,.arr 1 (enc a.2.stack)),(5,.arr 2 (enc a.2.out))] 6 (.v (.slice none 0 0)) ?_ ?_
   . exact leA
   refine q1v ?_;simp only[go_sem];exact au
  refine y5 (q8 s (sg λ_ O=>?_));refine q00 ?_;refine jy5 ?_;obtain⟨F,h⟩:=bG F h;simp only[go_sem,F];refine q8 O (sg λ_ P=>?_);obtain⟨F,h⟩:=bG F h;simp only[go_sem,F];refine q8 P (sM ?_);refine q04 ?_;simp only[go_sem];refine q1f [] [(0,.box [.v (.int .i64 a.2.r.K),.v (.int .i64 a.2.r.V),.osl 4 1 (0) (Xa (i64.wrap ((a.2.stack.length:Int)-2))),.osl 5 2 (0) (a.2.out.length),.v (.int .i64 a.2.at_),.v (.int .i64 a.2.bad)]),(3,.box (Row.row c)),(4,.arr 1 (enc a.2.stack)),(5,.arr 2 (enc a.2.out))] 6 (.osl 4 1 (Xa (i64.wrap ((a.2.stack.length:Int)-2))) (Xa (a.2.stack.length:Int)-Xa (i64.wrap ((a.2.stack.length:Int)-2)))) ?_ ?_
  . exact leA
  refine q1v ?_;simp only[go_sem];refine q8 N (w9 λ_ bk=>?_);refine sg λ_ Q=>?_;obtain⟨F,h⟩:=bG F h;simp only[go_sem,F];refine ai ?_;refine q8 Q (k1x ?_);refine sM ?_;refine sB h (λ_ h=>?_) λ_ h=>?_
  . exact au
  refine q00 ?_;refine q1r 14 0 0 [0,0,2,6,14,0,32,96,0,256,768,2016,4064,8190,16383,32767,65535] [5,6] [0] [] [13] [] mixed (by kernel_rfl) (of_decide_eq_true (by kernel_rfl)) (by kernel_rfl) (by kernel_rfl) (by rfl) ?_;obtain⟨d,R,h⟩:=z8 h;obtain⟨S,T,t,g⟩:=qn2 R;simp only[Xh,Xl,Xc,Xs]at t g;obtain⟨e,U,h⟩:=z8 h;obtain⟨W,X,u,j⟩:=qn2 U;simp only[Xh,Xl,Xc,Xs]at u j;have w:[[.v (.int .i64 d),.v (.int .i64 e)]]=enc ([(⟨d,e⟩:aR)]:List aR):=by rfl
  obtain⟨n,h⟩:=q07 h;have F:=Xg F n;simp only[Xd,Xf,Xc,Xj]at n;have y:enc a.2.out++[[.v (.int .i64 d),.v (.int .i64 e)]]=enc (a.2.out++([(⟨d,e⟩:aR)]:List aR)):=by exact (q2v a.2.out ([(⟨d,e⟩:aR)]:List aR)).symm
  simp only[go_sem,S,T,t,g,W,X,u,j,n,y];refine ai ?_;refine ai ?_;simp only[w];exact au
 refine sg λ_ Y=>?_;simp only[go_sem];refine q5o Tryz.func169 rfl (by kernel_rfl) (by kernel_rfl) ?_;refine sM ?_;refine sM ?_;refine sg λ_ z=>?_;refine sM ?_;refine sB h (λ_ h=>?_) λ_ h=>?_
 .
  refine sM ?_;refine sM ?_;refine q04 (q18 z ?_);simp only[go_sem];refine q1f [] [(0,.box [.v (.int .i64 a.2.r.K),.v (.int .i64 a.2.r.V),.osl 4 1 (0) (a.2.stack.length),.osl 5 2 (0) (a.2.out.length),.v (.int .i64 a.2.at_),.v (.int .i64 1)]),(3,.box (Row.row c)),(4,.arr 1 (enc a.2.stack)),(5,.arr 2 (enc a.2.out))] 6 (.v (.slice none 0 0)) ?_ ?_
  . exact leA
  refine q1v ?_;simp only[go_sem];exact au
 refine y5 (q8 z (sg λ_ Z=>?_));refine q00 ?_;refine jy5 ?_;obtain⟨F,h⟩:=bG F h;simp only[go_sem,F];refine q8 Z (sg λ_ a6=>?_);obtain⟨F,h⟩:=bG F h;simp only[go_sem,F];refine q8 a6 (sM ?_);refine q04 ?_;simp only[go_sem];refine q1f [] [(0,.box [.v (.int .i64 a.2.r.K),.v (.int .i64 a.2.r.V),.osl 4 1 (0) (Xa (i64.wrap ((a.2.stack.length:Int)-2))),.osl 5 2 (0) (a.2.out.length),.v (.int .i64 a.2.at_),.v (.int .i64 a.2.bad)]),(3,.box (Row.row c)),(4,.arr 1 (enc a.2.stack)),(5,.arr 2 (enc a.2.out))] 6 (.osl 4 1 (Xa (i64.wrap ((a.2.stack.length:Int)-2))) (Xa (a.2.stack.length:Int)-Xa (i64.wrap ((a.2.stack.length:Int)-2)))) ?_ ?_
 . exact leA
 refine q1v ?_;simp only[go_sem];refine q8 Y (sg λ_ ao=>?_);obtain⟨F,h⟩:=bG F h;simp only[go_sem,F];refine ai ?_;refine q8 ao (k1w ?_);refine sg λ_ ar=>?_;refine q00 ?_;refine jy5 ?_;obtain⟨A,b0,h⟩:=z8 h;obtain⟨b1,b2,B,k⟩:=qn2 b0;simp only[Xh,Xl,Xc,Xs]at B k;obtain⟨C,b3,h⟩:=z8 h;obtain⟨b4,b5,D,l⟩:=qn2 b3;simp only[Xh,Xl,Xc,Xs]at D l;obtain⟨m,E,h⟩:=z8 h;simp only[go_sem,b1,b2,B,k,b4,b5,D,l];refine ai ?_;refine ai ?_;refine bx (λ_=>(zs4 c.Op A C m E)) (by rfl) (by rfl) ?_;simp only[go_sem];refine q8 ar (sM ?_);obtain⟨b6,G,h⟩:=z8 h;simp only[go_sem];refine qe1 [] ([],[(0,.box [.v (.int .i64 a.2.r.K),.v (.int .i64 a.2.r.V),.osl 4 1 (0) (Xo (Xb (Xa (i64.wrap ((a.2.stack.length:Int)-2))) a.2.stack)),.osl 5 2 (0) (a.2.out.length),.v (.int .i64 a.2.at_),.v (.int .i64 m.2)]),(3,.box (Row.row c)),(4,.arr 1 (enc (Xb (Xa (i64.wrap ((a.2.stack.length:Int)-2))) a.2.stack))),(5,.arr 2 (enc a.2.out))]) 6 [some 3,some 4,some 5] [.ptr 0 0,.v (.int .i64 m.1)] ?_;refine q1l [0,4,5] (q11 (⟨a.2.r,(Xb (Xa (i64.wrap ((a.2.stack.length:Int)-2))) a.2.stack),a.2.out,a.2.at_,m.2⟩:az) m.1 b6 G) ?_;simp only[go_sem];exact au
def qa5(b:aR)(e:Int)(f:Int)(d:Int)(a:Int)(g:List Int)(c:List aR):Option ((List aR)×Int):=
 (if (!(a==0))=true then some (([(⟨b.K,i64.wrap ((-9223372036854775808)+a)⟩:aR)]:List aR),a)
 else some (c,0))
def z1n(m:List cy)(g:aR)(j:Int×Int×Int×Int×Int×(List Int)×(List aR)->Option ((List aR)×Int)):Int×Int×Int×Int×Int×(List Int)×(List aR)->Option ((List aR)×Int):=
 λ(b,d,e,a,f,k,l)=>
 (if ((decide (a<(m.length:Int)))&&(f==0))=true then (if (b==0)=true then qa5 g d e a 4 k l
 else q9 (idx m a) (λn=>
 q9 (q2y (⟨(⟨d,e⟩:aR),k,l,a,f⟩:az) n) (λc=>
 j (i64.wrap (b-1),c.r.K,c.r.V,c.at_,c.bad,c.stack,c.out))))
 else qa5 g d e a f k l)
def qz4(b:List cy)(a:aR):Option ((List aR)×Int):=
 q9 (q84 b) (λc=>
 (if (!c)=true then some (([]:List aR),0)
 else q02 (z1n b a) rounds (256,a.K,a.V,0,0,[],[])))
instance jo6(d:List cy)(a:aR):Ct pp 150 (qz4 d a) [.sl 2 (enc d),.agg (Row.row a)] λr=>(.tup [.sl 2 (enc r.1),.v (.int .i64 r.2)]):=ctK Tryz.func150 rfl (by rw[qz4]) (by
 intro r h F;refine sM ?_;refine sg λ_ A=>?_;refine sg λ_ B=>?_;simp only[go_sem];refine q2b h λC h=>?_;simp only[go_sem];refine q8 B (sB h (λ_ h=>?_) λ_ h=>?_)
 . exact au
 refine y5 (q8 A (sM ?_));refine q3e (λ((e,f,c,b,g,j):Int×Int×Int×Int×(List Int)×(List aR))=>qa5 a e f c b g j=some r) [3,6] (λx=>([],[(0,.box (Row.row a)),(1,.box [.v (.int .i64 x.1),.v (.int .i64 x.2.1),.osl 2 1 (0) (x.2.2.2.2.1.length),.osl 3 2 (0) (x.2.2.2.2.2.length),.v (.int .i64 x.2.2.1),.v (.int .i64 x.2.2.2.1)]),(2,.arr 1 (enc x.2.2.2.2.1)),(3,.arr 2 (enc x.2.2.2.2.2))])) 4 ?_ ?_
 .
  intro _ D;refine sM ?_;refine w9 λ_ E=>?_;refine q0e h [0,3,6] (λx=>([(7,.v (.int .i64 x.1))],[(0,.box (Row.row a)),(1,.box [.v (.int .i64 x.2.1),.v (.int .i64 x.2.2.1),.osl 2 1 (0) (x.2.2.2.2.2.1.length),.osl 3 2 (0) (x.2.2.2.2.2.2.length),.v (.int .i64 x.2.2.2.1),.v (.int .i64 x.2.2.2.2.1)]),(2,.arr 1 (enc x.2.2.2.2.2.1)),(3,.arr 2 (enc x.2.2.2.2.2.2))])) 4 ?_;rintro G ⟨s,k,l,m,n,t,u⟩ h _ H;rw[z1n]at h;refine sg λ_ w=>?_;refine sM ?_;refine sB h (λ_ h=>?_) λ_ h=>?_
  .
   refine y5 (q8 w (sg λ_ I=>?_));refine w9 λ_ J=>?_;refine sg λ_ y=>?_;refine sM ?_;refine sB h (λ_ h=>?_) λ_ h=>?_
   . exact au
   refine y5 (q8 y ?_);obtain⟨o,F,h⟩:=bI F h;obtain⟨z,p,h⟩:=z8 h;simp only[go_sem,F];refine ai ?_;refine q1l [1,2,3] (qo1 (⟨(⟨k,l⟩:aR),t,u,m,n⟩:az) o z p) ?_;simp only[go_sem];exact au
  exact au
 rintro⟨e,f,c,b,g,j⟩ h
 try dsimp only at h
 rw[qa5]at h;refine sg λ_ L=>?_;refine sM ?_;refine sB h (λ_ h=>?_) λ_ h=>?_
 .
  refine sg λ_ M=>?_;refine q00 ?_;refine jy5 ?_;have q:[[.v (.int .i64 a.K),.v (.int .i64 (i64.wrap ((-9223372036854775808)+b)))]]=enc ([(⟨a.K,i64.wrap ((-9223372036854775808)+b)⟩:aR)]:List aR):=by rfl
  simp only[go_sem];simp only[q];exact au
 exact au)
def ql0(a:Int):Option aR:=
 some (⟨a,-9223372036854775806⟩:aR)
instance jk7(a:Int):Ct pp 151 (ql0 a) [.v (.int .i64 a)] λr=>(.agg (Row.row r)):=ctI Tryz.func151 rfl (by rw[ql0];exact au1)
def qb7(c:Int)(a:Int)(b:Int):Option aR:=
 (if (((decide (a<0))==(decide (b<0)))&&(!((decide ((i64.wrap (a+b))<0))==(decide (a<0)))))=true then q9 (ql0 c) (λd=>
 some d)
 else some (⟨c,i64.wrap (a+b)⟩:aR))
instance zs5(a:Int)(b:Int)(c:Int):Ct pp 125 (qb7 a b c) [.v (.int .i64 a),.v (.int .i64 b),.v (.int .i64 c)] λr=>(.agg (Row.row r)):=ctI Tryz.func125 rfl (by rw[qb7];exact au1)
def q85(a:aN)(b:aR):Option (List aR):=
 (if (a.Kind==2)=true then q9 (qz4 a.Prog b) (λc=>
 some c.1)
 else (if (a.Kind==3)=true then q9 (qb7 b.K b.V a.Arg) (λd=>
 some ([d]:List aR))
 else (if (a.Kind==4)=true then (if (decide (a.Arg<1))=true then some ([]:List aR)
 else x9 (a.Arg≠0) (
 (if (!((Int.tmod b.V a.Arg)==0))=true then some ([]:List aR)
 else some ([b]:List aR))))
 else some ([b]:List aR))))
instance je4(c:aN)(a:aR):Ct pp 122 (q85 c a) [.agg (Row.row c),.agg (Row.row a)] λr=>(.sl 2 (enc r)):=ctK Tryz.func122 rfl (by rw[q85]) (by
 intro r h F;refine sM ?_;refine jg λ_ k=>?_;refine sM ?_;refine w9 λ_ l=>?_;refine sM ?_;refine sB h (λ_ h=>?_) λ_ h=>?_
 . exact au
 refine sM ?_;refine sB h (λ_ h=>?_) λ_ h=>?_
 .
  refine sg λ_ o=>?_;simp only[go_sem];refine q2b h λd h=>?_;have e:[[.v (.int .i64 d.K),.v (.int .i64 d.V)]]=enc ([d]:List aR):=by rfl
  simp only[go_sem];simp only[e];exact au
 refine sM ?_;refine sB h (λ_ h=>?_) λ_ h=>?_
 .
  refine sg λ_ j=>?_;simp only[go_sem];rcases b:(decide (c.Arg<1))with _|_
  .
   replace h:=q2s h b;obtain⟨F,h⟩:=bG F h;simp only[go_sem,b,F];refine q8 j (sB h (λ_ h=>?_) λ_ h=>?_)
   . exact au
   refine y5 (q08 l (q8 k (sg λ_ m=>?_)));have f:[[.v (.int .i64 a.K),.v (.int .i64 a.V)]]=enc ([a]:List aR):=by rfl
   simp only[go_sem];simp only[f];exact au
  replace h:=q2r h b;simp only[go_sem,b];exact au
 refine y5 (q08 l (q8 k (sg λ_ n=>?_)));have g:[[.v (.int .i64 a.K),.v (.int .i64 a.V)]]=enc ([a]:List aR):=by rfl
 simp only[go_sem];simp only[g];exact au)
def q1h(a:ak)(c:aR)(b:Int):Option (Bool×ak):=
 (if (decide ((i64.wrap (65536-a.many))<b))=true then some (false,a)
 else x9 ((a.out.length+Xo ([(⟨c,b⟩:a7)]:List a7))*24<=140737488355328) (
 some (true,(⟨(a.out++([(⟨c,b⟩:a7)]:List a7)),i64.wrap (a.many+b)⟩:ak))))
theorem q37(b:ak)(a:aR)(c:Int)(r:Bool×ak)(h:q1h b a c=some r):bu pp 79 [.ptr 0 0,.agg (Row.row a),.v (.int .i64 c)] [(0,.box [.osl 1 3 (0) (b.out.length),.v (.int .i64 b.many)]),(1,.arr 3 (enc b.out))] 2 (.v (.bool r.1)) [(0,.box [.osl 2 3 (0) (r.2.out.length),.v (.int .i64 r.2.many)]),(2,.arr 3 (enc r.2.out))] 3:=by
 refine dtI Tryz.func79 rfl ?_;rw[q1h]at h;have F:=trivial;refine sM ?_;refine sg λ_ g=>?_;refine sM ?_;refine sB h (λ_ h=>?_) λ_ h=>?_
 . exact au
 refine y5 (q8 g (sM ?_));refine sg λ_ j=>?_;refine q00 ?_;refine q1r 10 0 0 [0,0,2,6,14,0,0,96,224,510,1023,2047,4095] [1,3] [0] [] [9] [] mixed (by kernel_rfl) (of_decide_eq_true (by kernel_rfl)) (by kernel_rfl) (by kernel_rfl) (by rfl) ?_;have e:[[.v (.int .i64 a.K),.v (.int .i64 a.V),.v (.int .i64 c)]]=enc ([(⟨a,c⟩:a7)]:List a7):=by rfl
 obtain⟨d,h⟩:=q07 h;have F:=Xg F d;simp only[Xd,Xf,Xc,Xj]at d;have f:enc b.out++[[.v (.int .i64 a.K),.v (.int .i64 a.V),.v (.int .i64 c)]]=enc (b.out++([(⟨a,c⟩:a7)]:List a7)):=by exact (q2v b.out ([(⟨a,c⟩:a7)]:List a7)).symm
 simp only[go_sem,d,f];simp only[e];exact au
def q5c(c:Int)(d:(Int×Int×(List a7)->Option (Bool×ak)))(g:a7)(j:List aR)(e:Int×Int×(List a7)->Option (Bool×ak)):Int×Int×(List a7)->Option (Bool×ak):=
 λ(a,k,l)=>
 (if (decide (a<(j.length:Int)))=true then q9 (idx j a) (λf=>
 q9 (q1h (⟨l,k⟩:ak) f g.N) (λb=>
 (if (!b.1)=true then some (false,b.2)
 else e (i64.wrap (a+1),b.2.many,b.2.out))))
 else d (i64.wrap (c+1),k,l))
def q5d(d:aN)(e:List a7)(c:Int×Int×(List a7)->Option (Bool×ak)):Int×Int×(List a7)->Option (Bool×ak):=
 λ(a,f,g)=>
 (if (decide (a<(e.length:Int)))=true then q9 (idx e a) (λb=>
 q9 (q85 d b.Rec) (λj=>
 q02 (q5c a c b j) rounds (0,f,g)))
 else some (true,(⟨g,f⟩:ak)))
def q2n(a:ak)(b:aN)(c:List a7):Option (Bool×ak):=
 q02 (q5d b c) rounds (0,a.many,a.out)
theorem q74(a:ak)(b:aN)(f:List a7)(r:Bool×ak)(h:q2n a b f=some r):bu pp 77 [.ptr 0 0,.agg (Row.row b),.sl 3 (enc f)] [(0,.box [.osl 1 3 (0) (a.out.length),.v (.int .i64 a.many)]),(1,.arr 3 (enc a.out))] 2 (.v (.bool r.1)) [(0,.box [.osl 2 3 (0) (r.2.out.length),.v (.int .i64 r.2.many)]),(2,.arr 3 (enc r.2.out))] 3:=by
 refine dtI Tryz.func77 rfl ?_;rw[q2n]at h;have F:=trivial;refine sM ?_;refine jg λ_ G=>?_;refine sM ?_;refine w9 λ_ H=>?_;refine q0e h [0,4,11,12] (λx=>([(13,.v (.int .i64 x.1))],[(0,.box [.osl 3 3 (0) (x.2.2.length),.v (.int .i64 x.2.1)]),(2,.box (Row.row b)),(3,.arr 3 (enc x.2.2))])) 4 ?_;rintro s ⟨j,t,u⟩ h _ I;rw[q5d]at h;refine sM ?_;refine sg λ_ w=>?_;refine sB h (λ_ h=>?_) λ_ h=>?_
 .
  refine y5 (q8 w (jg λ_ J=>?_));refine w9 λ_ K=>?_;refine sg λ_ k=>?_;obtain⟨c,F,h⟩:=bI F h;simp only[go_sem,F];refine ai ?_;refine q8 k (sg λ_ l=>?_);simp only[go_sem];refine q2b h λy h=>?_;simp only[go_sem];refine q8 l (w9 λ_ z=>?_);refine q0e h [0,4,11,12,13,20,21] (λx=>([(8,.ptr 3 0),(22,.v (.int .i64 x.1))],[(0,.box [.osl 4 3 (0) (x.2.2.length),.v (.int .i64 x.2.1)]),(2,.box (Row.row b)),(3,.box (Row.row c)),(4,.arr 3 (enc x.2.2))])) 5 ?_;rintro A ⟨m,n,o⟩ h _ B;rw[q5c]at h;refine sM ?_;refine sg λ_ p=>?_;refine sB h (λ_ h=>?_) λ_ h=>?_
  . refine y5 (q8 p (sg λ_ C=>?_));refine w9 λ_ D=>?_;refine sg λ_ q=>?_;obtain⟨d,F,h⟩:=bI F h;simp only[go_sem,F];refine ai ?_;refine q8 q (sg λ_ E=>?_);obtain⟨g,e,h⟩:=z8 h;simp only[go_sem];refine q1l [0,4] (q37 (⟨o,n⟩:ak) d c.N g e) ?_;simp only[go_sem];exact au
  exact au
 exact au
def q69(b:ak)(d:Int×(List a7)->Option ((List a7)×ak)):Int×(List a7)->Option ((List a7)×ak):=
 λ(a,e)=>
 (if (decide (a<(b.out.length:Int)))=true then q9 (idx b.out a) (λc=>
 q9 (z1g e c.Rec c.N) (λf=>
 d (i64.wrap (a+1),f)))
 else some (e,b))
def q5n(a:ak):Option ((List a7)×ak):=
 q02 (q69 a) rounds (0,[])
theorem z0n(a:ak)(r:(List a7)×ak)(h:q5n a=some r):bu pp 82 [.ptr 0 0] [(0,.box [.osl 1 3 (0) (a.out.length),.v (.int .i64 a.many)]),(1,.arr 3 (enc a.out))] 2 (.osl 2 3 (0) (r.1.length)) [(0,.box [.osl 3 3 (0) (r.2.out.length),.v (.int .i64 r.2.many)]),(2,.arr 3 (enc r.1)),(3,.arr 3 (enc r.2.out))] 4:=by
 refine dtI Tryz.func82 rfl ?_;rw[q5n]at h;have F:=trivial;refine sM ?_;refine sM ?_;refine jg λ_ m=>?_;refine sM ?_;refine w9 λ_ n=>?_;refine q0e h [9,10] (λx=>([(3,.osl 2 3 (0) (x.2.length)),(11,.v (.int .i64 x.1))],[(0,.box [.osl 1 3 (0) (a.out.length),.v (.int .i64 a.many)]),(1,.arr 3 (enc a.out)),(2,.arr 3 (enc x.2))])) 3 ?_;rintro j ⟨e,c⟩ h _ o;rw[q69]at h;refine sM ?_;refine sg λ_ k=>?_;refine sB h (λ_ h=>?_) λ_ h=>?_
 . refine y5 (q8 k (sg λ_ p=>?_));refine w9 λ_ l=>?_;refine sg λ_ f=>?_;obtain⟨b,F,h⟩:=bI F h;simp only[go_sem,F];refine ai ?_;refine q8 f ?_;obtain⟨g,d,h⟩:=z8 h;simp only[go_sem];refine qe1 [9,10,11] ([(3,.sl 3 (enc c))],[(0,.box [.osl 1 3 (0) (a.out.length),.v (.int .i64 a.many)]),(1,.arr 3 (enc a.out)),(2,.box (Row.row b))]) 3 [some 3] [.sl 3 (enc c),.agg (Row.row b.Rec),.v (.int .i64 b.N)] ?_;refine q1l [] (zs7 c b.Rec b.N g d) ?_;simp only[go_sem];exact au
 exact au
def qs2(a:Int)(b:Int)(c:Int):Option (Int×Int):=zv9 a b c
theorem z6v(a:Int)(b:Int)(c:Int)(r:Int×Int)(h:qs2 a b c=some r):be pp 163 [.v (.int .u64 a),.v (.int .u64 b),.v (.int .u64 c)] 0 (.tup [.v (.int .u64 r.1),.v (.int .u64 r.2)]):=
 j3h Tryz.func163 (by kernel_rfl) (by kernel_rfl) (by kernel_rfl) (by kernel_rfl) h
def qs3(a:Int)(b:Int)(c:Int):Option (Int×Int):=j17 a b c
theorem z6w(a:Int)(b:Int)(c:Int)(r:Int×Int)(h:qs3 a b c=some r):be pp 164 [.v (.int .u64 a),.v (.int .u64 b),.v (.int .u64 c)] 0 (.tup [.v (.int .u64 r.1),.v (.int .u64 r.2)]):=
 j54 Tryz.func164 (by kernel_rfl) (by kernel_rfl) (by kernel_rfl) (by kernel_rfl) h
def q79(a:aV)(g:Int)(d:Int)(b:Int):Option aV:=
 q9 (q3y b (IntKind.u64.wrap d)) (λc=>
 (if (decide (g<0))=true then q9 (qs2 a.lo.n c.2 0) (λe=>
 some (⟨i64.wrap (a.hi-(i64.wrap ((i64.wrap c.1)+(i64.wrap e.2)))),(⟨e.1⟩:fH)⟩:aV))
 else q9 (qs3 a.lo.n c.2 0) (λf=>
 some (⟨i64.wrap (a.hi+(i64.wrap ((i64.wrap c.1)+(i64.wrap f.2)))),(⟨f.1⟩:fH)⟩:aV))))
def qf2(c:aV)(a:Int)(b:Int):Option aV:=
 (if (decide (a<0))=true then q79 c a b (IntKind.u64.wrap (0-(IntKind.u64.wrap a)))
 else q79 c a b (IntKind.u64.wrap a))
instance j7w(b:aV)(d:Int)(c:Int):Ct pp 152 (qf2 b d c) [.agg (Row.row b),.v (.int .i64 d),.v (.int .i64 c)] λr=>(.agg (Row.row r)):=ctK Tryz.func152 rfl (by rw[qf2]) (by
 intro r h F;refine sM ?_;refine sM ?_;refine q3e (λ(a:Int)=>q79 b d c a=some r) [1,2,3,6] (λa=>([(7,.v (.int .u64 a))],[(0,.box (Row.row b)),(1,.box [.v (.int .i64 0),.v (.int .u64 0)])])) 2 ?_ ?_
 . intro _ l;exact au
 rintro a h
 try dsimp only at h
 rw[q79]at h;refine sg λ_ m=>?_;simp only[go_sem];refine q2b h λe h=>?_;simp only[go_sem];refine q8 m (sM ?_);refine sg λ_ o=>?_;refine sM ?_;refine sB h (λ_ h=>?_) λ_ h=>?_
 . refine sg λ_ q=>?_;obtain⟨j,f,h⟩:=z8 h;simp only[go_sem];refine q9s (z6v b.lo.n e.2 0 j f) (by rfl) (by rfl) ?_;simp only[go_sem];exact au
 refine y5 (q8 o (sg λ_ p=>?_));obtain⟨k,g,h⟩:=z8 h;simp only[go_sem];refine q9s (z6w b.lo.n e.2 0 k g) (by rfl) (by rfl) ?_;simp only[go_sem];exact au)
def qz6(d:List a7)(c:Int×aV->Option aV):Int×aV->Option aV:=
 λ(a,e)=>
 (if (decide (a<(d.length:Int)))=true then q9 (idx d a) (λb=>
 q9 (qf2 e b.Rec.V b.N) (λf=>
 c (i64.wrap (a+1),f)))
 else some e)
def qf9(a:List a7):Option aV:=
 q02 (qz6 a) rounds (0,(⟨0,(⟨0⟩:fH)⟩:aV))
instance z8m(a:List a7):Ct pp 127 (qf9 a) [.sl 3 (enc a)] λr=>(.agg (Row.row r)):=ctK Tryz.func127 rfl (by rw[qf9]) (by
 intro r h F;refine sM ?_;refine sM ?_;refine jg λ_ e=>?_;refine sM ?_;refine w9 λ_ f=>?_;refine q0e h [2,3,6,7] (λx=>([(8,.v (.int .i64 x.1))],[(0,.box [.v (.int .i64 0),.v (.int .u64 0)]),(1,.box (Row.row x.2))])) 2 ?_;rintro c ⟨b,d⟩ h _ g;rw[qz6]at h;exact au)
def q4v(a:aV)(b:Int):Option aR:=
 (if (((a.hi==0)&&(decide (0<=(i64.wrap a.lo.n))))||((a.hi==(-1))&&(decide ((i64.wrap a.lo.n)<0))))=true then some (⟨b,i64.wrap a.lo.n⟩:aR)
 else q9 (ql0 b) (λc=>
 some c))
instance qz5(a:aV)(b:Int):Ct pp 128 (q4v a b) [.agg (Row.row a),.v (.int .i64 b)] λr=>(.agg (Row.row r)):=ctI Tryz.func128 rfl (by rw[q4v];exact au1)
end Go.Proofs.YtdcdfkdhomekeaaGreat

/-
  What functions of the program compute, each told as a plain function that may give nothing, with the proof that the code does so. No condition beyond those that each theorem names.
-/
import Derived.Test.YtdcdfkdhomekeaaGreatWalkWM0
import Derived.Test.YtdcdfkdhomekeaaGreatWalkWM1
import Derived.Test.YtdcdfkdhomekeaaGreatLibD
import Derived.Test.YtdcdfkdhomekeaaGreatLibI
set_option linter.unusedSimpArgs false
set_option linter.unusedVariables false
set_option linter.unusedSectionVars false
set_option maxHeartbeats 2000000
set_option maxRecDepth 100000
open List renaming length_cons->Xa,length_nil->Xb,getD_eq_getElem?_getD->Xd,cons_append->Xi,nil_append->Xk,append_nil->Xl,map_cons->Xn,replicate->Xo,map_nil->Xp,length->Xq,length_append->Xr,set->Xs,drop_succ_cons->Xt,mapIdx_cons->Xu,mapIdx_nil->Xw
open Option renaming some.inj->Xc,getD_some->Xj,map_some->Xm
open Nat renaming zero_add->Xe,reduceAdd->Xg,mul_one->Xh,add_assoc->Xv
open And renaming intro->Xf
open Int renaming toNat->Xx
open Prod renaming mk->Xy
namespace Go.Proofs.YtdcdfkdhomekeaaGreat
open Go Go.RowKit
open Go.IntKind (i64)
def qj9(a:a8):Option ((List aB)×Int):=
 (if (!(a.e==0))=true then some (([]:List aB),a.e)
 else q9 (q0o a.outs (λc d=>q6f c d)) (λb=>
 x9 (b.length=a.outs.length) (
 some (b,0))))
def qk1(g:aa)(b:List Int)(c:Int×a8->Option ((List aB)×Int)):Int×a8->Option ((List aB)×Int):=
 λ(a,d)=>
 (if (decide (a<(b.length:Int)))=true then q9 (idx b a) (λe=>
 q9 (qg1 d 0 (g.al.length:Int) 0 (⟨1,(⟨e,0,0,0⟩:bq Int)⟩:af)) (λf=>
 c (i64.wrap (a+1),f.2)))
 else qj9 d)
def qu1(d:aa)(e:a8)(a:List Int):Option ((List aB)×Int):=
 q9 (qd3 a) (λb=>
 x9 (b.length=a.length) (
 q9 (q8x b) (λc=>
 q02 (qk1 d c) rounds (0,e))))
def qk0(j:aa)(b:List aT)(d:Int×a8×(List Int)->Option ((List aB)×Int)):Int×a8×(List Int)->Option ((List aB)×Int):=
 λ(c,f,e)=>
 (if (decide (c<(b.length:Int)))=true then q9 (idx b c) (λa=>
 x9 ((e.length+Xq ([a.aJ]:List Int))*8<=140737488355328) (
 q9 (q3f f a.Node 0 (⟨1,(⟨a.aJ,0,0,0⟩:bq Int)⟩:af) ([(⟨a.Rec,1⟩:a7)]:List a7)) (λg=>
 d (i64.wrap (c+1),g,(e++([a.aJ]:List Int))))))
 else qu1 j f e)
def qh9(c:aa)(a:List aT)(b:Int):Option ((List aB)×Int):=
 q9 (qo4 c a b) (λd=>
 (if (!d)=true then some (([]:List aB),1)
 else q02 (qk0 c a) rounds (0,(⟨c,(Xy ([]:List ah) ([]:List (aP (List a7)))),(Xy ([]:List Int) ([]:List (List aD))),(Xy ([]:List ah) ([]:List (List a7))),0,b,([]:List aB),0⟩:a8),[])))
theorem zm7(n:aa)(f:List aT)(s:Int)(r:(List aB)×Int)(h:qh9 n f s=some r):bu pp 7 [.agg (Row.row n),.sl 4 (enc f),.v (.int .i64 s)] [] 0 (.tup [.osl 0 4 (0) (r.1.length),.v (.int .i64 r.2)]) [(0,.arr 4 (enc r.1))] 1:=by
 unfold bu;refine Spec.of_wp Tryz.func7 rfl (by kernel_rfl) (by kernel_rfl) ?_;rw[qh9]at h;refine sgW λ_ Q1=>?_;refine wv ?_;simp only[go_sem];refine y7 Q1 ?_;refine sgW λ_ Q2=>?_;refine sgW λ_ Q3=>?_;refine wv ?_;obtain⟨M,N,h⟩:=z8 h;simp only[go_sem];refine q9s (zi1 n f s M N) (by rfl) (by rfl) ?_;simp only[go_sem];refine y7 Q3 ?_;refine q4o (b:=(!M)) (by (simp only[go_sem];done)) (λy=>?_) (λy=>?_)
 .
  replace h:=q2r h y;simp only[bool_to_prop]at y;refine sgW λ_ Q4=>?_;refine wv ?_;simp only[go_sem];refine y7 Q4 ?_;refine wv ?_;refine q04 (qv0 Q2 ?_);simp only[go_sem];obtain rfl:=Xc h;refine q27 [none] ?_;simp only[go_sem,Le]
 replace h:=q2s h y;simp only[bool_to_prop]at y;refine wv ?_;refine y5 (y7 Q2 ?_);refine sgW λ_ Q5=>?_;refine q8s ?_;refine wv ?_;simp only[go_sem];refine z4w 0 ?_ rfl zk0;simp only[go_sem];refine z4w 1 ?_ rfl zj9;simp only[go_sem];refine z4w 2 ?_ rfl z5g;simp only[go_sem];refine q2q ?_;refine y7 Q5 ?_;refine sgW λ_ Q6=>?_;refine wv ?_;simp only[go_sem];refine y7 Q6 ?_;refine j0r (ι:=a8×(List Int)) (λ((d,A):a8×(List Int))=>(⟨0,[(3,.ptr 0 0),(8,.ptr 1 0),(9,.osl 2 1 (0) (A.length))],[(0,.box (Row.row n)),(1,.box [.sl 1 (enc d.g.ae),.sl 1 (enc d.g.aG),.sl 4 (enc d.g.al),.sl 4 (enc d.g.aw),.mp 3,.mp 4,.mp 5,.v (.int .i64 d.work),.v (.int .i64 d.aC),.osl 6 4 (0) (d.outs.length),.v (.int .i64 d.e)]),(2,.arr 1 (enc A)),(3,.con (p8 pp 116 0 (d9 d.ins.1) (enc d.ins.2) none) []),(4,.con (p8 pp 3 1 (d9 d.ay.1) (enc d.ay.2) none) []),(5,.con (p8 pp 116 2 (d9 d.aE.1) (enc d.aE.2) none) []),(6,.arr 4 (enc d.outs))],7,86⟩:St)) (λ((d,A):a8×(List Int))=>qu1 n d A=some r) ?_ ?_
 .
  intro _ ao;refine sgW λ_ ar=>?_;refine wv ?_;simp only[go_sem];refine y7 ar ?_;refine qk3 λ_ b0=>?_;refine z98 (ι:=Nat×Int×a8×(List Int)) (λ((_,m,c,q):Nat×Int×a8×(List Int))=>(⟨0,[(3,.ptr 0 0),(8,.ptr 1 0),(9,.osl 2 1 (0) (q.length)),(26,.sl 4 (enc f)),(27,.v (.int .i64 (f.length:Int))),(28,.v (.int .i64 m))],[(0,.box (Row.row n)),(1,.box [.sl 1 (enc c.g.ae),.sl 1 (enc c.g.aG),.sl 4 (enc c.g.al),.sl 4 (enc c.g.aw),.mp 3,.mp 4,.mp 5,.v (.int .i64 c.work),.v (.int .i64 c.aC),.osl 6 4 (0) (c.outs.length),.v (.int .i64 c.e)]),(2,.arr 1 (enc q)),(3,.con (p8 pp 116 0 (d9 c.ins.1) (enc c.ins.2) none) []),(4,.con (p8 pp 3 1 (d9 c.ay.1) (enc c.ay.2) none) []),(5,.con (p8 pp 116 2 (d9 c.aE.1) (enc c.aE.2) none) []),(6,.arr 4 (enc c.outs))],7,86⟩:St)) (λ((n_,m,c,q):Nat×Int×a8×(List Int))=>q02 (qk0 n f) n_ (m,c,q)=some r) (λp=>p.1) (rounds,0,(⟨n,(Xy ([]:List ah) ([]:List (aP (List a7)))),(Xy ([]:List Int) ([]:List (List aD))),(Xy ([]:List ah) ([]:List (List a7))),0,s,([]:List aB),0⟩:a8),[]) [some 0,some 4,none,some 1,some 2,some 3,none] ?_ h ?_
  . simp only[go_sem,Le]<;>(repeat' apply Xf)<;>(try with_reducible refine q03 ?_)<;>first|omega|(simp[go_sem];done)|((try with_reducible refine q03 ?_);(simp[enc];rfl))
  rintro⟨d1,m,c,q⟩ h _ O
  dsimp only at h;replace h:=qg4 h;obtain⟨b1,rfl,h⟩:=h;rw[qk0]at h;refine sgW λ_ b2=>?_;refine wv ?_;simp only[go_sem];refine y7 b2 ?_;refine sgW λ_ P=>?_;refine q4o (b:=(decide (m<(f.length:Int)))) (by (simp only[go_sem];done)) (λt=>?_) (λt=>?_)
  .
   replace h:=q2r h t;simp only[bool_to_prop]at t;refine wv ?_;refine y5 (y7 P ?_);refine sgW λ_ b3=>?_;refine qk3 λ_ b4=>?_;refine sgW λ_ b5=>?_;refine wv ?_;obtain⟨a,Q,h⟩:=z8 h;obtain⟨R,S,T⟩:=q8i Q;simp only[go_sem,R,S,T];refine Xf (by omega) ?_;refine y7 b5 ?_;refine sgW λ_ b6=>?_;refine wv ?_;have E:[[.v (.int .i64 a.aJ)]]=enc ([a.aJ]:List Int):=by rfl
   obtain⟨U,h⟩:=q07 h;simp only[Xa,Xb,Xe,Xr]at U;have G:enc q++[[.v (.int .i64 a.aJ)]]=enc (q++([a.aJ]:List Int)):=by exact (q2v q ([a.aJ]:List Int)).symm
   simp only[go_sem,U,G];simp only[E];refine y7 b6 ?_;refine wv ?_;have H:[[.v (.int .i64 a.Rec.K),.v (.int .i64 a.Rec.V),.v (.int .i64 1)]]=enc ([(⟨a.Rec,1⟩:a7)]:List a7):=by rfl
   obtain⟨C,I,h⟩:=z8 h;simp only[go_sem];simp only[H];refine qr5 (s':=(⟨0,[(3,.ptr 0 0),(8,.ptr 1 0),(9,.osl 8 1 (0) (Xq (q++([a.aJ]:List Int)))),(26,.sl 4 (enc f)),(27,.v (.int .i64 (f.length:Int))),(28,.v (.int .i64 m))],[(0,.box (Row.row n)),(1,.box [.sl 1 (enc c.g.ae),.sl 1 (enc c.g.aG),.sl 4 (enc c.g.al),.sl 4 (enc c.g.aw),.mp 2,.mp 3,.mp 4,.v (.int .i64 c.work),.v (.int .i64 c.aC),.osl 5 4 (0) (c.outs.length),.v (.int .i64 c.e)]),(2,.con (p8 pp 116 0 (d9 c.ins.1) (enc c.ins.2) none) []),(3,.con (p8 pp 3 1 (d9 c.ay.1) (enc c.ay.2) none) []),(4,.con (p8 pp 116 2 (d9 c.aE.1) (enc c.aE.2) none) []),(5,.arr 4 (enc c.outs)),(6,.box (Row.row a)),(7,.arr 1 (enc ([a.aJ]:List Int))),(8,.arr 1 (enc (q++([a.aJ]:List Int))))],9,86⟩:St)) (l:=[some 0,some 1,some 3,some 4,some 5,some 6,some 7,some 8,some 9]) (args':=[.ptr 1 0,.v (.int .i64 a.Node),.v (.int .i64 0),.agg [.v (.int .i64 1),.v (.int .i64 a.aJ),.v (.int .i64 0),.v (.int .i64 0),.v (.int .i64 0)],.sl 3 (enc ([(⟨a.Rec,1⟩:a7)]:List a7))]) ?_ ?_ ?_
   . simp only[go_sem,Le]<;>(repeat' apply Xf)<;>(try with_reducible refine q03 ?_)<;>first|omega|(simp[go_sem];done)
   . simp only[go_sem,Le]<;>(repeat' apply Xf)<;>((try with_reducible refine q03 ?_);(simp[go_sem];done))
   refine q5t [1,2,3,4,5] (qb9 c a.Node 0 (⟨1,(⟨a.aJ,0,0,0⟩:bq Int)⟩:af) ([(⟨a.Rec,1⟩:a7)]:List a7) C I) (by simp) rfl ⟨rfl,⟨rfl,⟨rfl,⟨rfl,⟨rfl,trivial⟩⟩⟩⟩⟩ rfl rfl rfl rfl ?_;simp only[go_sem];refine q08 b4 (y7 b3 ?_);refine wv ?_;simp only[go_sem];refine u6 O (⟨(b1,i64.wrap (m+1),C,(q++([a.aJ]:List Int))),[some 0,some 1,some 8,some 2,some 3,some 4,some 9],?_,h,Nat.lt_succ_self _⟩);simp only[go_sem,Le]<;>(repeat' apply Xf)<;>(try with_reducible refine q03 ?_)<;>first|omega|(simp[go_sem];done)
  replace h:=q2s h t;simp only[bool_to_prop]at t;refine wv ?_;refine q0u (qw3 P ?_);refine q0v O (q0m b0 (u6 ao (⟨(c,q),[some 0,some 1,some 2,some 3,some 4,some 5,some 6],?_,h⟩)));simp only[go_sem,Le]<;>(repeat' apply Xf)<;>(try with_reducible refine q03 ?_)<;>first|omega|(simp[go_sem];done)
 rintro⟨d,A⟩ h
 try dsimp only at h
 rw[qu1]at h;refine sgW λ_ Q7=>?_;refine wv ?_;obtain⟨B,W,h⟩:=z8 h;simp only[go_sem];refine q5t [2] (z1j A B W) (by simp) rfl ⟨rfl,trivial⟩ rfl rfl rfl rfl ?_;obtain⟨bc,h⟩:=q07 h;simp only[go_sem,bc];refine y7 Q7 ?_;refine j0r (ι:=a8) (λ(j:a8)=>(⟨0,[(8,.ptr 0 0)],[(0,.box [.sl 1 (enc j.g.ae),.sl 1 (enc j.g.aG),.sl 4 (enc j.g.al),.sl 4 (enc j.g.aw),.mp 1,.mp 2,.mp 3,.v (.int .i64 j.work),.v (.int .i64 j.aC),.osl 4 4 (0) (j.outs.length),.v (.int .i64 j.e)]),(1,.con (p8 pp 116 0 (d9 j.ins.1) (enc j.ins.2) none) []),(2,.con (p8 pp 3 1 (d9 j.ay.1) (enc j.ay.2) none) []),(3,.con (p8 pp 116 2 (d9 j.aE.1) (enc j.aE.2) none) []),(4,.arr 4 (enc j.outs))],5,86⟩:St)) (λ(j:a8)=>qj9 j=some r) ?_ ?_
 .
  intro _ bi;refine sgW λ_ bk=>?_;refine wv ?_;obtain⟨w,J,h⟩:=z8 h;simp only[go_sem];refine qr5 (s':=(⟨0,[(3,.ptr 0 0),(8,.ptr 1 0)],[(0,.box (Row.row n)),(1,.box [.sl 1 (enc d.g.ae),.sl 1 (enc d.g.aG),.sl 4 (enc d.g.al),.sl 4 (enc d.g.aw),.mp 3,.mp 4,.mp 5,.v (.int .i64 d.work),.v (.int .i64 d.aC),.osl 6 4 (0) (d.outs.length),.v (.int .i64 d.e)]),(2,.arr 1 (enc B)),(3,.con (p8 pp 116 0 (d9 d.ins.1) (enc d.ins.2) none) []),(4,.con (p8 pp 3 1 (d9 d.ay.1) (enc d.ay.2) none) []),(5,.con (p8 pp 116 2 (d9 d.aE.1) (enc d.aE.2) none) []),(6,.arr 4 (enc d.outs))],7,86⟩:St)) (l:=[some 0,some 1,some 2,some 3,some 4,some 5,some 6]) (args':=[.osl 2 1 (0) (B.length)]) ?_ ?_ ?_
  . simp only[go_sem,Le]<;>(repeat' apply Xf)<;>(try with_reducible refine q03 ?_)<;>first|omega|(simp[go_sem];done)
  . simp only[go_sem,Le]<;>(repeat' apply Xf)<;>((try with_reducible refine q03 ?_);omega)
  refine q5t [2] (z08 B w J) (by simp) rfl ⟨rfl,trivial⟩ rfl rfl rfl rfl ?_;simp only[go_sem];refine y7 bk ?_;refine qk3 λ_ bs=>?_;refine z98 (ι:=Nat×Int×a8) (λ((_,o,k):Nat×Int×a8)=>(⟨0,[(3,.ptr 0 0),(8,.ptr 1 0),(53,.osl 2 1 (0) (w.length)),(54,.v (.int .i64 (w.length:Int))),(55,.v (.int .i64 o))],[(0,.box (Row.row n)),(1,.box [.sl 1 (enc k.g.ae),.sl 1 (enc k.g.aG),.sl 4 (enc k.g.al),.sl 4 (enc k.g.aw),.mp 3,.mp 4,.mp 5,.v (.int .i64 k.work),.v (.int .i64 k.aC),.osl 6 4 (0) (k.outs.length),.v (.int .i64 k.e)]),(2,.arr 1 (enc w)),(3,.con (p8 pp 116 0 (d9 k.ins.1) (enc k.ins.2) none) []),(4,.con (p8 pp 3 1 (d9 k.ay.1) (enc k.ay.2) none) []),(5,.con (p8 pp 116 2 (d9 k.aE.1) (enc k.aE.2) none) []),(6,.arr 4 (enc k.outs))],7,86⟩:St)) (λ((n_,o,k):Nat×Int×a8)=>q02 (qk1 n w) n_ (o,k)=some r) (λp=>p.1) (rounds,0,d) [some 0,some 1,some 2,some 3,some 4,some 5,some 6] ?_ h ?_
  . simp only[go_sem,Le]<;>(repeat' apply Xf)<;>(try with_reducible refine q03 ?_)<;>first|omega|(simp[go_sem];done)
  rintro⟨d2,o,k⟩ h _ X
  dsimp only at h;replace h:=qg4 h;obtain⟨bv,rfl,h⟩:=h;rw[qk1]at h;refine sgW λ_ c1=>?_;refine wv ?_;simp only[go_sem];refine y7 c1 ?_;refine sgW λ_ Y=>?_;refine q4o (b:=(decide (o<(w.length:Int)))) (by (simp only[go_sem];done)) (λu=>?_) (λu=>?_)
  .
   replace h:=q2r h u;simp only[bool_to_prop]at u;refine wv ?_;refine y5 (y7 Y ?_);refine sgW λ_ c2=>?_;refine qk3 λ_ c4=>?_;refine sgW λ_ c5=>?_;refine wv ?_;obtain⟨Z,c6,h⟩:=z8 h;obtain⟨c7,c8,c9⟩:=q8i c6;simp only[go_sem,c7,c8,c9];refine Xf (by omega) ?_;refine y7 c5 ?_;refine wv ?_;obtain⟨D,L,h⟩:=z8 h;simp only[go_sem];refine q5t [1,3,4,5,6] (qx6 k 0 (n.al.length:Int) 0 (⟨1,(⟨Z,0,0,0⟩:bq Int)⟩:af) D L) (by simp) rfl ⟨rfl,⟨rfl,⟨rfl,⟨rfl,⟨rfl,trivial⟩⟩⟩⟩⟩ rfl rfl rfl rfl ?_;simp only[go_sem];refine q08 c4 (y7 c2 ?_);refine wv ?_;simp only[go_sem];refine u6 X (⟨(bv,i64.wrap (o+1),D.2),[some 0,some 1,some 2,some 3,some 4,some 5,some 7],?_,h,Nat.lt_succ_self _⟩);simp only[go_sem,Le]<;>(repeat' apply Xf)<;>(try with_reducible refine q03 ?_)<;>first|omega|(simp[go_sem];done)
  replace h:=q2s h u;simp only[bool_to_prop]at u;refine wv ?_;refine q0u (qw3 Y ?_);refine q0v X (q0m bs (u6 bi (⟨k,[some 1,some 3,some 4,some 5,some 6],?_,h⟩)));simp only[go_sem,Le]<;>(repeat' apply Xf)<;>(try with_reducible refine q03 ?_)<;>first|omega|(simp[go_sem];done)
 rintro j h
 try dsimp only at h
 rw[qj9]at h;refine sgW λ_ Q8=>?_;refine sgW λ_ Q9=>?_;refine wv ?_;simp only[go_sem];refine y7 Q9 ?_;refine q4o (b:=(!(j.e==0))) (by (simp only[go_sem];done)) (λz=>?_) (λz=>?_)
 .
  replace h:=q2r h z;simp only[bool_to_prop]at z;refine sgW λ_ cb=>?_;refine wv ?_;refine q00 ?_;refine jy5 ?_;simp only[go_sem];refine y7 cb ?_;refine wv ?_;refine q04 (qv0 Q8 ?_);simp only[go_sem];obtain rfl:=Xc h;refine q27 [none] ?_;simp only[go_sem,Le]
 replace h:=q2s h z;simp only[bool_to_prop]at z;refine wv ?_;refine y5 (y7 Q8 ?_);refine sgW λ_ cc=>?_;refine wv ?_;obtain⟨cd,a6,h⟩:=z8 h;simp only[go_sem];refine q5t [4] (q83 j.outs (λcp cs=>q6f cp cs) 24 [] (by rfl) (by kernel_rfl) (λy0 y1 r_ e_=>zi2 y0 y1 r_ e_) cd a6) (by simp) rfl ⟨rfl,trivial⟩ rfl rfl rfl rfl ?_;obtain⟨cz,h⟩:=q07 h;simp only[go_sem,cz];refine y7 cc ?_;refine sgW λ_ d0=>?_;refine wv ?_;simp only[go_sem];refine y7 d0 ?_;refine wv ?_;refine q04 ?_;simp only[go_sem];obtain rfl:=Xc h;refine q27 [some 4] ?_;simp only[go_sem,Le]<;>(repeat' apply Xf)<;>((try with_reducible refine q03 ?_);omega)
def q7f(e:List aB)(f:List aB)(d:Int->Option Bool):Int->Option Bool:=
 λc=>
 (if (decide (c<(e.length:Int)))=true then q9 (idx e c) (λa=>
 q9 (idx f c) (λb=>
 (if (!((a.Node==b.Node)&&((a.aJ==b.aJ)&&((a.Rec.K==b.Rec.K)&&(a.Rec.V==b.Rec.V)))))=true then some false
 else d (i64.wrap (c+1)))))
 else some true)
def q78(a:List aB)(b:List aB):Option Bool:=
 (if (!((a.length:Int)==(b.length:Int)))=true then some false
 else q02 (q7f a b) rounds 0)
instance j1l(a:List aB)(b:List aB):Ct pp 8 (q78 a b) [.sl 4 (enc a),.sl 4 (enc b)] λr=>(.v (.bool r)):=ctK Tryz.func8 rfl (by rw[q78]) (by
 intro r h F;refine sM ?_;refine sg λ_ d=>?_;refine sM ?_;refine sB h (λ_ h=>?_) λ_ h=>?_
 . exact au
 refine y5 (q8 d (jg λ_ f=>?_));refine sM ?_;refine w9 λ_ g=>?_;refine q0e h [0,1] (λc=>([(5,.v (.int .i64 c))],[])) 0 ?_;rintro e c h _ j;rw[q7f]at h;exact au)
def q44(c:aa)(a:Int->Option Bool):Int->Option Bool:=
 λb=>
 (if (decide (b<(c.al.length:Int)))=true then q9 (idx c.al b) (λd=>
 (if (decide (100<(d.Prog.length:Int)))=true then some false
 else a (i64.wrap (b+1))))
 else some true)
def q45(a:aa):Option Bool:=
 (if ((((decide (20<(a.ae.length:Int)))||(decide (20<(a.aG.length:Int))))||(decide (60<(a.al.length:Int))))||(decide (100<(a.aw.length:Int))))=true then some false
 else q02 (q44 a) rounds 0)
instance j0e(a:aa):Ct pp 9 (q45 a) [.agg (Row.row a)] λr=>(.v (.bool r)):=ctK Tryz.func9 rfl (by rw[q45]) (by
 intro r h F;refine sM ?_;refine sg λ_ c=>?_;refine sM ?_;refine sB h (λ_ h=>?_) λ_ h=>?_
 . exact au
 refine y5 (q8 c (jg λ_ e=>?_));refine sM ?_;refine w9 λ_ f=>?_;refine q0e h [1] (λb=>([(3,.v (.int .i64 b))],[(0,.box (Row.row a))])) 1 ?_;rintro d b h _ g;rw[q44]at h;exact au)
def ql7(c:bq Int)(e:Int)(d:Int->Option Bool):Int->Option Bool:=
 λa=>
 (if (decide (a<4))=true then q9 (idx ([c.a0,c.a1,c.a2,c.a3]:List Int) a) (λb=>
 (if (((decide (b<0))||(decide (1048576<b)))||((decide (e<=a))&&(!(b==0))))=true then some false
 else d (i64.wrap (a+1))))
 else some true)
def q86(b:bq Int)(a:Int):Option Bool:=
 q02 (ql7 b a) rounds 0
instance je6(b:bq Int)(c:Int):Ct pp 113 (q86 b c) [.agg [.v (.int .i64 b.a0),.v (.int .i64 b.a1),.v (.int .i64 b.a2),.v (.int .i64 b.a3)],.v (.int .i64 c)] λr=>(.v (.bool r)):=ctK Tryz.func113 rfl (by rw[q86]) (by
 intro r h F;refine sM ?_;refine jg λ_ p=>?_;refine sM ?_;refine w9 λ_ q=>?_;refine q0e h [1,7] (λd=>([(8,.v (.int .i64 d))],[])) 0 ?_;rintro m d h _ s;rw[ql7]at h;refine sM ?_;refine sg λ_ n=>?_;refine sB h (λ_ h=>?_) λ_ h=>?_
 . refine y5 (q8 n (sg λ_ t=>?_));refine w9 λ_ u=>?_;refine sg λ_ o=>?_;obtain⟨l,j,h⟩:=z8 h;obtain⟨k,e,g,a⟩:=j06 (f:=(λy=>AV.v (.int .i64 y))) j;simp only[Xi,Xk,Xl,Xn,Xp,Xa,Xb,Xe,Xg,q0w]at e g a;simp only[go_sem,k,e,g,a];refine ai ?_;refine ai ?_;simp only[Xd,Xh,a,Xm,Xj,true_and];exact au
 exact au)
def z0q(a:aH)(b:Int):Option (Int×Bool):=
 (if (decide (b<a.br))=true then x9 (0<=b/\b<4) (
 q9 (idx ([a.Add.a0,a.Add.a1,a.Add.a2,a.Add.a3]:List Int) b) (λc=>
 some (c,true)))
 else x9 (0<=i64.wrap (b-a.br)/\i64.wrap (b-a.br)<4) (
 q9 (idx ([a.T.a0,a.T.a1,a.T.a2,a.T.a3]:List Int) (i64.wrap (b-a.br))) (λd=>
 some (d,false))))
instance jw6(a:aH)(d:Int):Ct pp 114 (z0q a d) [.agg (Row.row a),.v (.int .i64 d)] λr=>(.tup [.v (.int .i64 r.1),.v (.bool r.2)]):=ctK Tryz.func114 rfl (by rw[z0q]) (by
 intro r h F;refine sM ?_;refine sg λ_ s=>?_;refine sM ?_;refine sB h (λ_ h=>?_) λ_ h=>?_
 . refine sg λ_ t=>?_;obtain⟨F,h⟩:=bG F h;obtain⟨p,l,h⟩:=z8 h;obtain⟨m,e,g,b⟩:=q4i (f:=(λy=>AV.v (.int .i64 y))) [.v (.int .i64 a.aO),.v (.int .i64 a.br),.v (.int .i64 a.bL)] [.v (.int .i64 a.T.a0),.v (.int .i64 a.T.a1),.v (.int .i64 a.T.a2),.v (.int .i64 a.T.a3)] l;simp only[Xi,Xk,Xl,Xn,Xp,Xa,Xb,Xe,Xg,q0w]at e g b;simp only[go_sem,m,e,g,b,F];refine ai ?_;simp only[Xd,Xh,b,Xm,Xj,true_and];exact au
 refine y5 (q8 s (sg λ_ u=>?_));obtain⟨F,h⟩:=bG F h;obtain⟨q,n,h⟩:=z8 h;obtain⟨o,j,k,c⟩:=q4i (f:=(λy=>AV.v (.int .i64 y))) [.v (.int .i64 a.aO),.v (.int .i64 a.br),.v (.int .i64 a.bL),.v (.int .i64 a.Add.a0),.v (.int .i64 a.Add.a1),.v (.int .i64 a.Add.a2),.v (.int .i64 a.Add.a3)] [] n;simp only[Xi,Xk,Xl,Xn,Xp,Xa,Xb,Xe,Xg,q0w]at j k c;simp only[go_sem,o,j,k,c,F];refine ai ?_;simp only[Xd,Xh,c,Xm,Xj,true_and];exact au)
def q6g(a:aH):Option Int:=
 some (i64.wrap (a.br+a.bL))
instance z5s(a:aH):Ct pp 65 (q6g a) [.agg (Row.row a)] λr=>(.v (.int .i64 r)):=ctI Tryz.func65 rfl (by rw[q6g];exact au1)
def q4b(a:aH):Option Bool:=
 (if ((((((decide (a.aO<1))||(decide (4<a.aO)))||(decide (a.br<0)))||(decide (a.aO<a.br)))||(decide (a.bL<0)))||(decide (4<a.bL)))=true then some false
 else q9 (q6g a) (λb=>
 (if (decide (1<=b))=true then q9 (q6g a) (λc=>
 (if (decide (c<=4))=true then q9 (q86 a.Add a.br) (λd=>
 (if d=true then q9 (q86 a.T a.bL) (λe=>
 some e)
 else some false))
 else some false))
 else some false)))
instance qq4(a:aH):Ct pp 64 (q4b a) [.agg (Row.row a)] λr=>(.v (.bool r)):=ctI Tryz.func64 rfl (by rw[q4b];exact au1)
def z11(e:aH)(f:aH)(g:Int)(c:Int->Option Bool):Int->Option Bool:=
 λa=>
 (if (decide (a<g))=true then q9 (z0q e a) (λd=>
 q9 (z0q f a) (λb=>
 (if ((d.2&&(!b.2))||(decide (b.1<d.1)))=true then some false
 else c (i64.wrap (a+1)))))
 else some true)
def z0r(a:aH)(b:aH):Option Bool:=
 q9 (q4b a) (λc=>
 (if c=true then q9 (q4b b) (λd=>
 (if ((!d)||(!(a.aO==b.aO)))=true then some false
 else q9 (q6g a) (λe=>
 q9 (q6g b) (λf=>
 (if (!(e==f))=true then some false
 else q9 (q6g a) (λg=>
 q02 (z11 a b g) rounds 0))))))
 else some false))
instance jw7(c:aH)(d:aH):Ct pp 66 (z0r c d) [.agg (Row.row c),.agg (Row.row d)] λr=>(.v (.bool r)):=ctK Tryz.func66 rfl (by rw[z0r]) (by
 intro r h F;refine sM ?_;refine sg λ_ n=>?_;refine sg λ_ o=>?_;refine q00 ?_;refine jy5 ?_;obtain⟨f,g,h⟩:=z8 h;simp only[go_sem];refine bx (λ_=>(qq4 c f g)) (by rfl) (by rfl) ?_;simp only[go_sem];rcases a:f with _|_
 . replace h:=q2s h a;simp only[go_sem,a];exact au
 replace h:=q2r h a;obtain⟨j,k,h⟩:=z8 h;simp only[go_sem,a];refine bx (λ_=>(qq4 d j k)) (by rfl) (by rfl) ?_;simp only[go_sem];rcases b:((!j)||(!(c.aO==d.aO)))with _|_
 .
  replace h:=q2s h b;obtain⟨m,l,h⟩:=z8 h;simp only[go_sem,b];refine bx (λ_=>(z5s c m l)) (by rfl) (by rfl) ?_;simp only[go_sem];refine q2b h λp h=>?_;simp only[go_sem];refine q8 o (sB h (λ_ h=>?_) λ_ h=>?_)
  . exact au
  refine y5 (q8 n (jg λ_ u=>?_));refine sg λ_ q=>?_;simp only[go_sem];refine q2b h λs h=>?_;simp only[go_sem];refine q8 q (w9 λ_ w=>?_);refine q0e h [2,3,33] (λe=>([(34,.v (.int .i64 e))],[(0,.box (Row.row c)),(1,.box (Row.row d))])) 2 ?_;rintro t e h _ y;rw[z11]at h;exact au
 replace h:=q2r h b;simp only[go_sem,b];exact au)
def qu2(a:aH):Option (aH×Bool):=
 q9 (q4b a) (λb=>
 (if (!b)=true then some ((⟨0,0,0,(⟨0,0,0,0⟩:bq Int),(⟨0,0,0,0⟩:bq Int)⟩:aH),false)
 else some (a,true)))
def qu5(d:aH)(e:Int×aH->Option (aH×Bool)):Int×aH->Option (aH×Bool):=
 λ(b,a)=>
 (if (decide (b<((Xx (d.bL):Nat):Int)))=true then x9 (0<=b/\b<((d.bL.toNat:Nat):Int)/\((d.bL.toNat:Nat):Int)<=4) (
 q9 (idx ([d.T.a0,d.T.a1,d.T.a2,d.T.a3]:List Int) b) (λc=>
 x9 (0<=a.bL/\a.bL<4) (
 q9 (some (if a.bL.toNat=0 then c else a.T.a0)) (λf=>
 q9 (some (if a.bL.toNat=1 then c else a.T.a1)) (λg=>
 q9 (some (if a.bL.toNat=2 then c else a.T.a2)) (λj=>
 q9 (some (if a.bL.toNat=3 then c else a.T.a3)) (λk=>
 e (i64.wrap (b+1),(⟨a.aO,a.br,i64.wrap (a.bL+1),a.Add,(⟨f,g,j,k⟩:bq Int)⟩:aH)))))))))
 else qu2 a)
def qu3(a:aH)(b:aH):Option (aH×Bool):=
 x9 (0<=0/\0<=a.bL/\a.bL<=4) (
 q02 (qu5 a) rounds (0,b))
def qu4(c:aH)(d:aH)(k:Int×aH->Option (aH×Bool)):Int×aH->Option (aH×Bool):=
 λ(a,b)=>
 (if (decide (a<d.br))=true then (if (decide (a<c.br))=true then x9 (0<=a/\a<4) (
 q9 (idx ([c.Add.a0,c.Add.a1,c.Add.a2,c.Add.a3]:List Int) a) (λe=>
 x9 (0<=a/\a<4) (
 q9 (idx ([d.Add.a0,d.Add.a1,d.Add.a2,d.Add.a3]:List Int) a) (λf=>
 x9 (0<=a/\a<4) (
 q9 (some (if a.toNat=0 then i64.wrap (e+f)else b.Add.a0)) (λl=>
 q9 (some (if a.toNat=1 then i64.wrap (e+f)else b.Add.a1)) (λm=>
 q9 (some (if a.toNat=2 then i64.wrap (e+f)else b.Add.a2)) (λn=>
 q9 (some (if a.toNat=3 then i64.wrap (e+f)else b.Add.a3)) (λo=>
 k (i64.wrap (a+1),(⟨b.aO,b.br,b.bL,(⟨l,m,n,o⟩:bq Int),b.T⟩:aH)))))))))))
 else x9 (0<=i64.wrap (a-c.br)/\i64.wrap (a-c.br)<4) (
 q9 (idx ([c.T.a0,c.T.a1,c.T.a2,c.T.a3]:List Int) (i64.wrap (a-c.br))) (λg=>
 x9 (0<=a/\a<4) (
 q9 (idx ([d.Add.a0,d.Add.a1,d.Add.a2,d.Add.a3]:List Int) a) (λj=>
 x9 (0<=b.bL/\b.bL<4) (
 q9 (some (if b.bL.toNat=0 then i64.wrap (g+j)else b.T.a0)) (λp=>
 q9 (some (if b.bL.toNat=1 then i64.wrap (g+j)else b.T.a1)) (λq=>
 q9 (some (if b.bL.toNat=2 then i64.wrap (g+j)else b.T.a2)) (λs=>
 q9 (some (if b.bL.toNat=3 then i64.wrap (g+j)else b.T.a3)) (λt=>
 k (i64.wrap (a+1),(⟨b.aO,b.br,i64.wrap (b.bL+1),b.Add,(⟨p,q,s,t⟩:bq Int)⟩:aH))))))))))))
 else qu3 d b)
def qq2(a:aH)(b:aH):Option (aH×Bool):=
 q9 (q4b a) (λc=>
 (if c=true then q9 (q4b b) (λd=>
 (if d=true then q9 (q6g a) (λe=>
 (if (!(e==b.aO))=true then some ((⟨0,0,0,(⟨0,0,0,0⟩:bq Int),(⟨0,0,0,0⟩:bq Int)⟩:aH),false)
 else q02 (qu4 a b) rounds (0,(⟨a.aO,min a.br b.br,0,(⟨0,0,0,0⟩:bq Int),(⟨0,0,0,0⟩:bq Int)⟩:aH))))
 else some ((⟨0,0,0,(⟨0,0,0,0⟩:bq Int),(⟨0,0,0,0⟩:bq Int)⟩:aH),false)))
 else some ((⟨0,0,0,(⟨0,0,0,0⟩:bq Int),(⟨0,0,0,0⟩:bq Int)⟩:aH),false)))
instance zs6(c:aH)(b:aH):Ct pp 31 (qq2 c b) [.agg (Row.row c),.agg (Row.row b)] λr=>(.tup [.agg (Row.row r.1),.v (.bool r.2)]):=ctK Tryz.func31 rfl (by rw[qq2]) (by
 intro r h F;refine sM ?_;refine sg λ_ Q2=>?_;refine sg λ_ Q3=>?_;refine q00 ?_;refine jy5 ?_;obtain⟨b2,b3,h⟩:=z8 h;simp only[go_sem];refine bx (λ_=>(qq4 c b2 b3)) (by rfl) (by rfl) ?_;simp only[go_sem];rcases o:b2 with _|_
 . replace h:=q2s h o;simp only[go_sem,o];exact au
 replace h:=q2r h o;obtain⟨b4,b5,h⟩:=z8 h;simp only[go_sem,o];refine bx (λ_=>(qq4 b b4 b5)) (by rfl) (by rfl) ?_;simp only[go_sem];rcases p:b4 with _|_
 . replace h:=q2s h p;simp only[go_sem,p];exact au
 replace h:=q2r h p;obtain⟨cz,b6,h⟩:=z8 h;simp only[go_sem,p];refine bx (λ_=>(z5s c cz b6)) (by rfl) (by rfl) ?_;simp only[go_sem];refine q8 Q3 (sB h (λ_ h=>?_) λ_ h=>?_)
 . exact au
 refine y5 (q8 Q2 (sM ?_));refine q3e (λ(C:aH)=>qu3 b C=some r) [] (λC=>([(3,.ptr 0 0),(4,.ptr 1 0),(6,.ptr 2 0)],[(0,.box (Row.row b)),(1,.box [.v (.int .i64 0),.v (.int .i64 0),.v (.int .i64 0),.v (.int .i64 0),.v (.int .i64 0),.v (.int .i64 0),.v (.int .i64 0),.v (.int .i64 0),.v (.int .i64 0),.v (.int .i64 0),.v (.int .i64 0)]),(2,.box (Row.row C))])) 3 ?_ ?_
 .
  intro _ d6;refine sM ?_;refine w9 λ_ d7=>?_;refine q0e h [2,3,4,6,35] (λx=>([(36,.v (.int .i64 x.1))],[(0,.box (Row.row c)),(1,.box (Row.row b)),(2,.box [.v (.int .i64 0),.v (.int .i64 0),.v (.int .i64 0),.v (.int .i64 0),.v (.int .i64 0),.v (.int .i64 0),.v (.int .i64 0),.v (.int .i64 0),.v (.int .i64 0),.v (.int .i64 0),.v (.int .i64 0)]),(3,.box (Row.row x.2))])) 4 ?_;rintro d8 ⟨M,a⟩ h _ dc;rw[qu4]at h;refine sM ?_;refine sg λ_ d0=>?_;refine sB h (λ_ h=>?_) λ_ h=>?_
  .
   refine y5 (q8 d0 (sg λ_ dd=>?_));refine w9 λ_ dk=>?_;refine sM ?_;refine sg λ_ d1=>?_;refine sM ?_;refine sB h (λ_ h=>?_) λ_ h=>?_
   .
    refine sg λ_ ds=>?_;refine q00 ?_;refine jy5 ?_;obtain⟨F,h⟩:=bG F h;obtain⟨N,bc,h⟩:=z8 h;obtain⟨E,q,s,d⟩:=q4i (f:=(λy=>AV.v (.int .i64 y))) [.v (.int .i64 c.aO),.v (.int .i64 c.br),.v (.int .i64 c.bL)] [.v (.int .i64 c.T.a0),.v (.int .i64 c.T.a1),.v (.int .i64 c.T.a2),.v (.int .i64 c.T.a3)] bc;simp only[Xi,Xk,Xl,Xn,Xp,Xa,Xb,Xe,Xg,q0w]at q s d;obtain⟨F,h⟩:=bG F h;obtain⟨O,bi,h⟩:=z8 h;obtain⟨G,t,u,e⟩:=q4i (f:=(λy=>AV.v (.int .i64 y))) [.v (.int .i64 b.aO),.v (.int .i64 b.br),.v (.int .i64 b.bL)] [.v (.int .i64 b.T.a0),.v (.int .i64 b.T.a1),.v (.int .i64 b.T.a2),.v (.int .i64 b.T.a3)] bi;simp only[Xi,Xk,Xl,Xn,Xp,Xa,Xb,Xe,Xg,q0w]at t u e;obtain⟨F,h⟩:=bG F h;obtain⟨bk,P,h⟩:=z8 h;obtain⟨bs,Q,h⟩:=z8 h;obtain⟨bv,R,h⟩:=z8 h;obtain⟨c1,S,h⟩:=z8 h;have m:=qs6 (f:=(λy=>AV.v (.int .i64 y))) [.v (.int .i64 a.aO),.v (.int .i64 a.br),.v (.int .i64 a.bL)] [.v (.int .i64 a.T.a0),.v (.int .i64 a.T.a1),.v (.int .i64 a.T.a2),.v (.int .i64 a.T.a3)] [a.Add.a0,a.Add.a1,a.Add.a2,a.Add.a3] [bk,bs,bv,c1] (M.toNat) (i64.wrap (N+O)) (by simp only[Xa,Xb];omega) (by simp only[Xu,Xw,Xe,Xg,Xc P,Xc Q,Xc R,Xc S])
    simp only[Xi,Xk,Xl,Xn,Xp,Xa,Xb,Xe,Xg,q4p,Xv,Xt,q0w]at m;simp only[go_sem,E,q,s,d,G,t,u,e,m,Xh,F];simp only[Xd,Xh,d,Xm,Xj,true_and,Xd,Xh,e,Xm,Xj,true_and];simp only[go_sem,E,q,s,d,G,t,u,e,m,Xh,Xd,Xh,d,Xm,Xj,true_and,Xd,Xh,e,Xm,Xj,true_and,F];refine ai ?_;exact au
   refine y5 (q8 d1 (sg λ_ dT=>?_));refine q00 ?_;refine jy5 ?_;obtain⟨F,h⟩:=bG F h;obtain⟨U,c2,h⟩:=z8 h;obtain⟨H,w,z,g⟩:=q4i (f:=(λy=>AV.v (.int .i64 y))) [.v (.int .i64 c.aO),.v (.int .i64 c.br),.v (.int .i64 c.bL),.v (.int .i64 c.Add.a0),.v (.int .i64 c.Add.a1),.v (.int .i64 c.Add.a2),.v (.int .i64 c.Add.a3)] [] c2;simp only[Xi,Xk,Xl,Xn,Xp,Xa,Xb,Xe,Xg,q0w]at w z g;obtain⟨F,h⟩:=bG F h;obtain⟨V,c4,h⟩:=z8 h;obtain⟨I,A,B,j⟩:=q4i (f:=(λy=>AV.v (.int .i64 y))) [.v (.int .i64 b.aO),.v (.int .i64 b.br),.v (.int .i64 b.bL)] [.v (.int .i64 b.T.a0),.v (.int .i64 b.T.a1),.v (.int .i64 b.T.a2),.v (.int .i64 b.T.a3)] c4;simp only[Xi,Xk,Xl,Xn,Xp,Xa,Xb,Xe,Xg,q0w]at A B j;obtain⟨F,h⟩:=bG F h;obtain⟨c5,W,h⟩:=z8 h;obtain⟨c6,X,h⟩:=z8 h;obtain⟨c7,Y,h⟩:=z8 h;obtain⟨c8,Z,h⟩:=z8 h;have n:=qs6 (f:=(λy=>AV.v (.int .i64 y))) [.v (.int .i64 a.aO),.v (.int .i64 a.br),.v (.int .i64 a.bL),.v (.int .i64 a.Add.a0),.v (.int .i64 a.Add.a1),.v (.int .i64 a.Add.a2),.v (.int .i64 a.Add.a3)] [] [a.T.a0,a.T.a1,a.T.a2,a.T.a3] [c5,c6,c7,c8] (a.bL.toNat) (i64.wrap (U+V)) (by simp only[Xa,Xb];omega) (by simp only[Xu,Xw,Xe,Xg,Xc W,Xc X,Xc Y,Xc Z])
   simp only[Xi,Xk,Xl,Xn,Xp,Xa,Xb,Xe,Xg,q4p,Xv,Xt,q0w]at n;simp only[go_sem,H,w,z,g,I,A,B,j,n,Xh,F];simp only[Xd,Xh,g,Xm,Xj,true_and,Xd,Xh,j,Xm,Xj,true_and];simp only[go_sem,H,w,z,g,I,A,B,j,n,Xh,Xd,Xh,g,Xm,Xj,true_and,Xd,Xh,j,Xm,Xj,true_and,F];refine ai ?_;exact au
  exact au
 rintro C h
 try dsimp only at h
 rw[qu3]at h;refine q3e (λ(D:aH)=>qu2 D=some r) [] (λD=>([(4,.ptr 0 0),(6,.ptr 1 0)],[(0,.box [.v (.int .i64 0),.v (.int .i64 0),.v (.int .i64 0),.v (.int .i64 0),.v (.int .i64 0),.v (.int .i64 0),.v (.int .i64 0),.v (.int .i64 0),.v (.int .i64 0),.v (.int .i64 0),.v (.int .i64 0)]),(1,.box (Row.row D))])) 2 ?_ ?_
 .
  intro _ e0;refine sg λ_ d2=>?_;obtain⟨F,h⟩:=bG F h;simp only[go_sem,F];refine q8 d2 (w9 λ_ e1=>?_);refine q0e h [80] (λx=>([(4,.ptr 0 0),(6,.ptr 1 0),(79,.bsl 2 (7) (Xx (b.bL))),(81,.v (.int .i64 x.1))],[(0,.box [.v (.int .i64 0),.v (.int .i64 0),.v (.int .i64 0),.v (.int .i64 0),.v (.int .i64 0),.v (.int .i64 0),.v (.int .i64 0),.v (.int .i64 0),.v (.int .i64 0),.v (.int .i64 0),.v (.int .i64 0)]),(1,.box (Row.row x.2)),(2,.box (Row.row b))])) 3 ?_;rintro e2 ⟨d3,k⟩ h _ e3;rw[qu5]at h;refine sM ?_;refine sg λ_ d4=>?_;refine sB h (λ_ h=>?_) λ_ h=>?_
  . refine y5 (q8 d4 (sg λ_ e4=>?_));refine w9 λ_ e5=>?_;refine sg λ_ d5=>?_;obtain⟨F,h⟩:=bG F h;obtain⟨a6,c9,h⟩:=z8 h;obtain⟨cb,J,K,l⟩:=q4i (f:=(λy=>AV.v (.int .i64 y))) [.v (.int .i64 b.aO),.v (.int .i64 b.br),.v (.int .i64 b.bL),.v (.int .i64 b.Add.a0),.v (.int .i64 b.Add.a1),.v (.int .i64 b.Add.a2),.v (.int .i64 b.Add.a3)] [] c9;simp only[Xi,Xk,Xl,Xn,Xp,Xa,Xb,Xe,Xg,q0w]at J K l;simp only[go_sem,cb,J,K,l,F];simp only[Xd,Xh,l,Xm,Xj,true_and];refine q8 d5 (sg λ_ e6=>?_);obtain⟨F,h⟩:=bG F h;obtain⟨cc,ao,h⟩:=z8 h;obtain⟨cd,ar,h⟩:=z8 h;obtain⟨cp,b0,h⟩:=z8 h;obtain⟨cs,b1,h⟩:=z8 h;have L:=qs6 (f:=(λy=>AV.v (.int .i64 y))) [.v (.int .i64 k.aO),.v (.int .i64 k.br),.v (.int .i64 k.bL),.v (.int .i64 k.Add.a0),.v (.int .i64 k.Add.a1),.v (.int .i64 k.Add.a2),.v (.int .i64 k.Add.a3)] [] [k.T.a0,k.T.a1,k.T.a2,k.T.a3] [cc,cd,cp,cs] (k.bL.toNat) a6 (by simp only[Xa,Xb];omega) (by simp only[Xu,Xw,Xe,Xg,Xc ao,Xc ar,Xc b0,Xc b1]);simp only[Xi,Xk,Xl,Xn,Xp,Xa,Xb,Xe,Xg,q4p,Xv,Xt,q0w]at L;simp only[go_sem,L,Xh,F];refine ai ?_;exact au
  exact au
 rintro D h
 try dsimp only at h
 rw[qu2]at h;exact au)
def qq1(f:List aH)(b:aH)(d:Int×(List aH)->Option ((List aH)×Bool)):Int×(List aH)->Option ((List aH)×Bool):=
 λ(a,e)=>
 (if (decide (a<(f.length:Int)))=true then q9 (idx f a) (λc=>
 q9 (z0r c b) (λg=>
 (if g=true then some (f,false)
 else q9 (z0r b c) (λj=>
 (if (!j)=true then x9 ((e.length+Xq ([c]:List aH))*88<=140737488355328) (
 d (i64.wrap (a+1),(e++([c]:List aH))))
 else d (i64.wrap (a+1),e))))))
 else x9 ((e.length+Xq ([b]:List aH))*88<=140737488355328) (
 some ((e++([b]:List aH)),true)))
def qs9(b:List aH)(a:aH):Option ((List aH)×Bool):=
 q9 (q4b a) (λc=>
 (if (!c)=true then some (b,false)
 else q02 (qq1 b a) rounds (0,[])))
instance zm4(f:List aH)(a:aH):Ct pp 32 (qs9 f a) [.sl 11 (enc f),.agg (Row.row a)] λr=>(.tup [.sl 11 (enc r.1),.v (.bool r.2)]):=ctK Tryz.func32 rfl (by rw[qs9]) (by
 intro r h F;refine sM ?_;refine sg λ_ t=>?_;refine sg λ_ u=>?_;simp only[go_sem];refine q2b h λw h=>?_;simp only[go_sem];refine q8 u (sB h (λ_ h=>?_) λ_ h=>?_)
 . exact au
 refine y5 (q8 t (sM ?_));refine jg λ_ y=>?_;refine sM ?_;refine w9 λ_ z=>?_;refine q0e h [0,3,13,14] (λx=>([(6,.osl 1 11 (0) (x.2.length)),(15,.v (.int .i64 x.1))],[(0,.box (Row.row a)),(1,.arr 11 (enc x.2))])) 2 ?_;rintro A ⟨n,c⟩ h _ B;rw[qq1]at h;refine sM ?_;refine sg λ_ g=>?_;refine sB h (λ_ h=>?_) λ_ h=>?_
 .
  refine y5 (q8 g (jg λ_ C=>?_));refine w9 λ_ D=>?_;refine sg λ_ o=>?_;obtain⟨b,F,h⟩:=bI F h;simp only[go_sem,F];refine ai ?_;refine q8 o (sg λ_ p=>?_);refine sg λ_ q=>?_;simp only[go_sem];refine q2b h λE h=>?_;simp only[go_sem];refine q8 q (sB h (λ_ h=>?_) λ_ h=>?_)
  . exact au
  refine y5 (q8 p (sg λ_ s=>?_));simp only[go_sem];refine q2b h λG h=>?_;simp only[go_sem];refine q8 s (sB h (λ_ h=>?_) λ_ h=>?_)
  .
   have j:[[.v (.int .i64 b.aO),.v (.int .i64 b.br),.v (.int .i64 b.bL),.v (.int .i64 b.Add.a0),.v (.int .i64 b.Add.a1),.v (.int .i64 b.Add.a2),.v (.int .i64 b.Add.a3),.v (.int .i64 b.T.a0),.v (.int .i64 b.T.a1),.v (.int .i64 b.T.a2),.v (.int .i64 b.T.a3)]]=enc ([b]:List aH):=by rfl
   obtain⟨d,h⟩:=q07 h;have F:=And.intro F d;simp only[List.length_cons,List.length_nil,Nat.zero_add,List.length_append]at d;have k:enc c++[[.v (.int .i64 b.aO),.v (.int .i64 b.br),.v (.int .i64 b.bL),.v (.int .i64 b.Add.a0),.v (.int .i64 b.Add.a1),.v (.int .i64 b.Add.a2),.v (.int .i64 b.Add.a3),.v (.int .i64 b.T.a0),.v (.int .i64 b.T.a1),.v (.int .i64 b.T.a2),.v (.int .i64 b.T.a3)]]=enc (c++([b]:List aH)):=by exact (q2v c ([b]:List aH)).symm
   simp only[go_sem,d,k];simp only[j];exact au
  exact au
 refine q0u (q1w g (q0v B (q0m z (q8 y (sg λ_ H=>?_)))));have l:[[.v (.int .i64 a.aO),.v (.int .i64 a.br),.v (.int .i64 a.bL),.v (.int .i64 a.Add.a0),.v (.int .i64 a.Add.a1),.v (.int .i64 a.Add.a2),.v (.int .i64 a.Add.a3),.v (.int .i64 a.T.a0),.v (.int .i64 a.T.a1),.v (.int .i64 a.T.a2),.v (.int .i64 a.T.a3)]]=enc ([a]:List aH):=by rfl
 obtain⟨e,h⟩:=q07 h;have F:=And.intro F e;simp only[List.length_cons,List.length_nil,Nat.zero_add,List.length_append]at e;have m:enc c++[[.v (.int .i64 a.aO),.v (.int .i64 a.br),.v (.int .i64 a.bL),.v (.int .i64 a.Add.a0),.v (.int .i64 a.Add.a1),.v (.int .i64 a.Add.a2),.v (.int .i64 a.Add.a3),.v (.int .i64 a.T.a0),.v (.int .i64 a.T.a1),.v (.int .i64 a.T.a2),.v (.int .i64 a.T.a3)]]=enc (c++([a]:List aH)):=by exact (q2v c ([a]:List aH)).symm
 simp only[go_sem,e,m];simp only[l];exact au)
def q7b(b:aa)(a:Int):Option Int:=
 q9 (q2g a (b.al.length:Int)) (λd=>
 (if (!d)=true then some 0
 else q9 (idx b.al a) (λc=>
 q9 (q7a b c) (λe=>
 q9 (qj4 b e) (λf=>
 some f)))))
instance zd0(b:aa)(a:Int):Ct pp 30 (q7b b a) [.agg (Row.row b),.v (.int .i64 a)] λr=>(.v (.int .i64 r)):=ctI Tryz.func30 rfl (by rw[q7b];exact au1)
def qi0(a:aH):Option (aH×Bool):=
 q9 (q4b a) (λb=>
 (if (!b)=true then some ((⟨0,0,0,(⟨0,0,0,0⟩:bq Int),(⟨0,0,0,0⟩:bq Int)⟩:aH),false)
 else some (a,true)))
instance jo7(a:aH):Ct pp 60 (qi0 a) [.agg (Row.row a)] λr=>(.tup [.agg (Row.row r.1),.v (.bool r.2)]):=ctI Tryz.func60 rfl (by rw[qi0];exact au1)
def qt3(a:Int):Option (aH×Bool):=
 q9 (qi0 (⟨a,a,1,(⟨0,0,0,0⟩:bq Int),(⟨0,0,0,0⟩:bq Int)⟩:aH)) (λb=>
 some (b.1,b.2))
instance jk9(a:Int):Ct pp 57 (qt3 a) [.v (.int .i64 a)] λr=>(.tup [.agg (Row.row r.1),.v (.bool r.2)]):=ctI Tryz.func57 rfl (by rw[qt3];exact au1)
def qt2(a:Int):Option (aH×Bool):=
 (if (decide (a<2))=true then some ((⟨0,0,0,(⟨0,0,0,0⟩:bq Int),(⟨0,0,0,0⟩:bq Int)⟩:aH),false)
 else q9 (qi0 (⟨a,i64.wrap (a-1),0,(⟨0,0,0,0⟩:bq Int),(⟨0,0,0,0⟩:bq Int)⟩:aH)) (λb=>
 some (b.1,b.2)))
instance jk8(a:Int):Ct pp 58 (qt2 a) [.v (.int .i64 a)] λr=>(.tup [.agg (Row.row r.1),.v (.bool r.2)]):=ctI Tryz.func58 rfl (by rw[qt2];exact au1)
def qz8(a:Int):Option (aH×Bool):=
 q9 (q4b (⟨a,a,0,(⟨0,0,0,0⟩:bq Int),(⟨0,0,0,0⟩:bq Int)⟩:aH)) (λb=>
 (if (!b)=true then some ((⟨0,0,0,(⟨0,0,0,0⟩:bq Int),(⟨0,0,0,0⟩:bq Int)⟩:aH),false)
 else x9 (0<=i64.wrap (a-1)/\i64.wrap (a-1)<4) (
 q9 (some (if Xx (i64.wrap (a-1))=0 then 1 else 0)) (λc=>
 q9 (some (if Xx (i64.wrap (a-1))=1 then 1 else 0)) (λd=>
 q9 (some (if Xx (i64.wrap (a-1))=2 then 1 else 0)) (λe=>
 q9 (some (if Xx (i64.wrap (a-1))=3 then 1 else 0)) (λf=>
 some ((⟨a,a,0,(⟨c,d,e,f⟩:bq Int),(⟨0,0,0,0⟩:bq Int)⟩:aH),true))))))))
instance jo9(a:Int):Ct pp 59 (qz8 a) [.v (.int .i64 a)] λr=>(.tup [.agg (Row.row r.1),.v (.bool r.2)]):=ctK Tryz.func59 rfl (by rw[qz8]) (by
 intro r h F;refine sM ?_;refine sM ?_;refine sg λ_ n=>?_;refine sg λ_ o=>?_;simp only[go_sem];refine q2b h λp h=>?_;simp only[go_sem];refine q8 o (sB h (λ_ h=>?_) λ_ h=>?_)
 . exact au
 refine y5 (q8 n (sg λ_ q=>?_));obtain⟨F,h⟩:=bG F h;obtain⟨j,c,h⟩:=z8 h;obtain⟨k,d,h⟩:=z8 h;obtain⟨l,e,h⟩:=z8 h;obtain⟨m,g,h⟩:=z8 h;have b:=qs6 (f:=(λy=>AV.v (.int .i64 y))) [.v (.int .i64 a),.v (.int .i64 a),.v (.int .i64 0)] [.v (.int .i64 0),.v (.int .i64 0),.v (.int .i64 0),.v (.int .i64 0)] [0,0,0,0] [j,k,l,m] (Xx (i64.wrap (a-1))) 1 (by simp only[Xa,Xb];omega) (by simp only[Xu,Xw,Xe,Xg,Xc c,Xc d,Xc e,Xc g]);simp only[Xi,Xk,Xl,Xn,Xp,Xa,Xb,Xe,Xg,q4p,Xv,Xt,q0w]at b;simp only[go_sem,b,Xh,F];refine ai ?_;exact au)
def qq3(a:Int):Option (aH×Bool):=
 q9 (qi0 (⟨a,a,0,(⟨0,0,0,0⟩:bq Int),(⟨0,0,0,0⟩:bq Int)⟩:aH)) (λb=>
 some (b.1,b.2))
instance jo8(a:Int):Ct pp 29 (qq3 a) [.v (.int .i64 a)] λr=>(.tup [.agg (Row.row r.1),.v (.bool r.2)]):=ctI Tryz.func29 rfl (by rw[qq3];exact au1)
def qo3(c:aa)(d:aU):Option aH:=
 q9 (q7b c d.aO) (λb=>
 q9 (idx c.al d.aO) (λa=>
 (if (a.Kind==10)=true then q9 (qt3 b) (λe=>
 some e.1)
 else (if (a.Kind==11)=true then q9 (qt2 b) (λf=>
 some f.1)
 else (if (a.Kind==12)=true then q9 (qz8 b) (λg=>
 some g.1)
 else q9 (qq3 b) (λj=>
 some j.1))))))
instance je3(a:aa)(b:aU):Ct pp 28 (qo3 a b) [.agg (Row.row a),.agg (Row.row b)] λr=>(.agg (Row.row r)):=ctI Tryz.func28 rfl (by rw[qo3];exact au1)
def q9f(p:List aH)(c:Int)(o:(Bool×Int×(List (List aH))->Option (List (List (List aH)))))(d:aU)(e:List aH)(g:Bool×Int×(List (List aH))->Option (List (List (List aH)))):Bool×Int×(List (List aH))->Option (List (List (List aH))):=
 λ(b,a,f)=>
 (if (decide (a<(e.length:Int)))=true then q9 (idx e a) (λl=>
 q9 (idx p c) (λm=>
 q9 (qq2 l m) (λj=>
 (if j.2=true then q9 (idx f d.To) (λn=>
 q9 (qs9 n j.1) (λk=>
 g ((b||k.2),i64.wrap (a+1),(Xs f (d.To.toNat) k.1))))
 else g (b,i64.wrap (a+1),f)))))
 else o (b,i64.wrap (c+1),f))
def q9g(j:aa)(k:List aH)(f:(Bool×(List (List aH))->Option (List (List (List aH)))))(g:Bool×Int×(List (List aH))->Option (List (List (List aH)))):Bool×Int×(List (List aH))->Option (List (List (List aH))):=
 λ(b,a,d)=>
 (if (decide (a<(j.aw.length:Int)))=true then q9 (idx j.aw a) (λc=>
 q9 (idx d c.aO) (λe=>
 q02 (q9f k a g c e) rounds (b,0,d)))
 else f (b,d))
def qh7(j:aa)(k:List aH)(a:Int)(c:List (List (List aH)))(e:(Int×(List (List (List aH)))->Option (List (List (List aH)))))(f:Bool×(List (List aH))->Option (List (List (List aH)))):Bool×(List (List aH))->Option (List (List (List aH))):=
 λ(b,d)=>
 (if b=true then q02 (q9g j k f) rounds (false,0,d)
 else q9 (idx c a) (λg=>
 e (i64.wrap (a+1),(Xs c (a.toNat) d))))
def qh8(b:aa)(j:List aH)(d:Int×(List (List (List aH)))->Option (List (List (List aH)))):Int×(List (List (List aH)))->Option (List (List (List aH))):=
 λ(a,c)=>
 (if (decide (a<(Xq (Xo (b.al.length) ([]:List (List aH))):Int)))=true then x9 (0<=(b.al.length:Int)/\(b.al.length:Int)*24<=140737488355328) (
 q9 (q7b b a) (λe=>
 q9 (qq3 e) (λf=>
 q9 (idx (Xo (b.al.length) ([]:List aH)) a) (λg=>
 q02 (qh7 b j a c d) rounds (true,(Xs (Xo (b.al.length) ([]:List aH)) (a.toNat) ([f.1]:List aH)))))))
 else some c)
def qh5(a:aa)(b:List aH):Option (List (List (List aH))):=
 q02 (qh8 a b) rounds (0,(Xo (a.al.length) ([]:List (List aH))))
def qh6(c:aa)(e:Int×(List aH)->Option (List (List (List aH)))):Int×(List aH)->Option (List (List (List aH))):=
 λ(a,b)=>
 (if (decide (a<(c.aw.length:Int)))=true then q9 (idx c.aw a) (λd=>
 q9 (qo3 c d) (λf=>
 q9 (idx b a) (λg=>
 e (i64.wrap (a+1),(Xs b (a.toNat) f)))))
 else qh5 c b)
def qa6(a:aa):Option (List (List (List aH))):=
 q9 (q8j a) (λb=>
 (if (!(b.1==0))=true then some ([]:List (List (List aH)))
 else x9 (0<=(a.al.length:Int)/\(a.al.length:Int)*24<=140737488355328) (
 x9 (0<=(a.aw.length:Int)/\(a.aw.length:Int)*88<=140737488355328) (
 q02 (qh6 a) rounds (0,(Xo (a.aw.length) (⟨0,0,0,(⟨0,0,0,0⟩:bq Int),(⟨0,0,0,0⟩:bq Int)⟩:aH)))))))
theorem z9r(c:aa)(r:List (List (List aH)))(h:qa6 c=some r):bu pp 11 [.agg (Row.row c)] [] 0 (.osl 0 1 (0) (r.length)) [(0,.arr 1 (enc r))] 1:=by
 refine dtI Tryz.func11 rfl ?_;rw[qa6]at h;have F:=trivial;refine sM ?_;refine sg λ_ Q2=>?_;refine sg λ_ Q3=>?_;simp only[go_sem];refine q2b h λbk h=>?_;simp only[go_sem];refine q8 Q3 (sM ?_);refine sB h (λ_ h=>?_) λ_ h=>?_
 . exact au
 refine y5 (q8 Q2 (sM ?_));refine sg λ_ Q7=>?_;obtain⟨F,h⟩:=bG F h;have z:Xo (c.al.length) [.sl 1 (enc ([]:List (List aH)))]=enc (Xo (c.al.length) ([]:List (List aH))):=by (simp[enc,z0d,qv1,q71,q0w];exact .inr rfl)
 have l:=z;simp only[q0w]at l;simp only[go_sem,F];refine ai ?_;simp only[l,z];refine q8 Q7 (sg λ_ Q8=>?_);obtain⟨F,h⟩:=bG F h;have H:Xo (c.aw.length) [.v (.int .i64 0),.v (.int .i64 0),.v (.int .i64 0),.v (.int .i64 0),.v (.int .i64 0),.v (.int .i64 0),.v (.int .i64 0),.v (.int .i64 0),.v (.int .i64 0),.v (.int .i64 0),.v (.int .i64 0)]=enc (Xo (c.aw.length) (⟨0,0,0,(⟨0,0,0,0⟩:bq Int),(⟨0,0,0,0⟩:bq Int)⟩:aH)):=by (simp[enc,z0d,qv1,q71,q0w];exact .inr rfl)
 simp only[go_sem,F];refine ai ?_;simp only[H];refine q8 Q8 (q3e (λ(d:(List aH))=>qh5 c d=some r) [1,5] (λd=>([(6,.osl 1 1 (0) (Xq (Xo (c.al.length) ([]:List (List aH))))),(7,.osl 2 11 (0) (d.length))],[(0,.box (Row.row c)),(1,.arr 1 (enc (Xo (c.al.length) ([]:List (List aH))))),(2,.arr 11 (enc d))])) 3 ?_ ?_)
 .
  intro _ bs;refine sM ?_;refine w9 λ_ bv=>?_;refine q0e h [1,5,40,41] (λx=>([(6,.osl 1 1 (0) (Xq (Xo (c.al.length) ([]:List (List aH))))),(7,.osl 2 11 (0) (x.2.length)),(42,.v (.int .i64 x.1))],[(0,.box (Row.row c)),(1,.arr 1 (enc (Xo (c.al.length) ([]:List (List aH))))),(2,.arr 11 (enc x.2))])) 3 ?_;rintro c1 ⟨m,A⟩ h _ c2;rw[qh6]at h;refine sM ?_;refine sg λ_ U=>?_;refine sB h (λ_ h=>?_) λ_ h=>?_
  .
   refine y5 (q8 U (sg λ_ c4=>?_));refine w9 λ_ c5=>?_;refine sg λ_ V=>?_;obtain⟨M,F,h⟩:=bI F h;simp only[go_sem,F];refine ai ?_;refine q8 V ?_;simp only[go_sem];refine q2b h λb h=>?_;obtain⟨N,F,h⟩:=bI F h;have p:(enc A).set (m.toNat) [.v (.int .i64 b.aO),.v (.int .i64 b.br),.v (.int .i64 b.bL),.v (.int .i64 b.Add.a0),.v (.int .i64 b.Add.a1),.v (.int .i64 b.Add.a2),.v (.int .i64 b.Add.a3),.v (.int .i64 b.T.a0),.v (.int .i64 b.T.a1),.v (.int .i64 b.T.a2),.v (.int .i64 b.T.a3)]=enc (Xs A (m.toNat) b):=by exact q6w _ _ _
   simp only[go_sem,p,F];refine ai ?_;exact au
  exact au
 rintro d h
 try dsimp only at h
 rw[qh5]at h;refine jg λ_ Q9=>?_;refine sM ?_;refine w9 λ_ c6=>?_;refine q0e h [1,5,7,55] (λx=>([(6,.osl 1 1 (0) (x.2.length)),(56,.v (.int .i64 x.1))],[(0,.box (Row.row c)),(1,.arr 1 (enc x.2)),(2,.arr 11 (enc d))])) 3 ?_;rintro c7 ⟨e,g⟩ h _ c8;rw[qh8]at h;refine sM ?_;refine sg λ_ W=>?_;refine sB h (λ_ h=>?_) λ_ h=>?_
 .
  refine y5 (q8 W (jg λ_ c9=>?_));refine w9 λ_ cb=>?_;refine sM ?_;refine sg λ_ X=>?_;obtain⟨F,h⟩:=bG F h;have n:Xo (c.al.length) [.sl 11 (enc ([]:List aH))]=enc (Xo (c.al.length) ([]:List aH)):=by (simp[enc,z0d,qv1,q71,q0w];exact .inr rfl)
  have k:=n;simp only[q0w]at k;simp only[go_sem,F];refine ai ?_;simp only[k,n];refine q8 X (sg λ_ Y=>?_);simp only[go_sem];refine q2b h λZ h=>?_;simp only[go_sem];refine q2b h λa h=>?_;simp only[go_sem];refine q8 Y (sg λ_ a6=>?_);have D:[[.v (.int .i64 a.1.aO),.v (.int .i64 a.1.br),.v (.int .i64 a.1.bL),.v (.int .i64 a.1.Add.a0),.v (.int .i64 a.1.Add.a1),.v (.int .i64 a.1.Add.a2),.v (.int .i64 a.1.Add.a3),.v (.int .i64 a.1.T.a0),.v (.int .i64 a.1.T.a1),.v (.int .i64 a.1.T.a2),.v (.int .i64 a.1.T.a3)]]=enc ([a.1]:List aH):=by rfl
  obtain⟨O,F,h⟩:=bI F h;have E:(enc (Xo (c.al.length) ([]:List aH))).set (e.toNat) [.sl 11 (enc ([a.1]:List aH))]=enc (Xs (Xo (c.al.length) ([]:List aH)) (e.toNat) ([a.1]:List aH)):=by exact q6w _ _ _
  simp only[go_sem,E,F];refine Xf (by first|omega|(intros;simp_all;done)) ?_;refine Xf (by first|omega|(intros;simp_all;done)) ?_;simp only[D];refine q8 a6 (jg λ_ ao=>?_);refine sM ?_;refine w9 λ_ ar=>?_;refine q0e h [1,5,6,7,10,55,56] (λx=>([(11,.osl 3 1 (0) (x.2.length)),(14,.v (.bool x.1))],[(0,.box (Row.row c)),(1,.arr 1 (enc g)),(2,.arr 11 (enc d)),(3,.arr 1 (enc x.2))])) 4 ?_;rintro cc ⟨I,B⟩ h _ b0;rw[qh7]at h;refine sg λ_ J=>?_;refine sM ?_;refine sB h (λ_ h=>?_) λ_ h=>?_
  .
   refine y5 (q8 J (w9 λ_ cd=>?_));refine sM ?_;refine sM ?_;refine w9 λ_ cp=>?_;refine q0e h [1,5,6,7,10,55,56,75,76] (λx=>([(11,.osl 3 1 (0) (x.2.2.length)),(14,.v (.bool x.1)),(77,.v (.int .i64 x.2.1))],[(0,.box (Row.row c)),(1,.arr 1 (enc g)),(2,.arr 11 (enc d)),(3,.arr 1 (enc x.2.2))])) 4 ?_;rintro cs ⟨K,P,bi⟩ h _ cz;rw[q9g]at h;refine sM ?_;refine sg λ_ b1=>?_;refine sB h (λ_ h=>?_) λ_ h=>?_
   .
    refine y5 (q8 b1 (jg λ_ d0=>?_));refine w9 λ_ d1=>?_;refine sg λ_ b2=>?_;obtain⟨f,F,h⟩:=bI F h;simp only[go_sem,F];refine ai ?_;refine q8 b2 (sg λ_ b3=>?_);obtain⟨Q,F,h⟩:=bI F h;simp only[go_sem,F];refine ai ?_;refine q8 b3 (w9 λ_ d2=>?_);refine q0e h [1,5,6,7,10,15,16,55,56,75,76,77,86,87] (λx=>([(11,.osl 3 1 (0) (x.2.2.length)),(14,.v (.bool x.1)),(88,.v (.int .i64 x.2.1))],[(0,.box (Row.row c)),(1,.arr 1 (enc g)),(2,.arr 11 (enc d)),(3,.arr 1 (enc x.2.2)),(4,.box (Row.row f))])) 5 ?_;rintro d3 ⟨L,R,C⟩ h _ d4;rw[q9f]at h;refine sM ?_;refine sg λ_ b4=>?_;refine sB h (λ_ h=>?_) λ_ h=>?_
    .
     refine y5 (q8 b4 (jg λ_ d5=>?_));refine w9 λ_ d6=>?_;refine sg λ_ b5=>?_;obtain⟨q,F,h⟩:=bI F h;simp only[go_sem,F];refine ai ?_;refine q8 b5 (sg λ_ b6=>?_);refine q00 ?_;refine q1r 11 0 0 [0,0,0,6,14,31,63,127,127,0,767,2047] [6] [0,1,2,3,4,5,6,7,8] [] [9,10] [] mixed (by kernel_rfl) (of_decide_eq_true (by kernel_rfl)) (by kernel_rfl) (by kernel_rfl) (by rfl) ?_;obtain⟨s,F,h⟩:=bI F h;obtain⟨o,t,h⟩:=z8 h;simp only[go_sem,F];refine ai ?_;refine bx (λ_=>(zs6 q s o t)) (by rfl) (by rfl) ?_;simp only[go_sem];refine q8 b6 (sM ?_);refine sB h (λ_ h=>?_) λ_ h=>?_
     .
      refine sg λ_ bc=>?_;refine q00 ?_;refine jy5 ?_;obtain⟨u,F,h⟩:=bI F h;obtain⟨j,w,h⟩:=z8 h;simp only[go_sem,F];refine ai ?_;refine bx (λ_=>(zm4 u o.1 j w)) (by rfl) (by rfl) ?_;simp only[go_sem];refine q8 bc (sg λ_ d7=>?_);have G:(enc C).set (f.To.toNat) [.sl 11 (enc j.1)]=enc (Xs C (f.To.toNat) j.1):=by exact q6w _ _ _
      simp only[go_sem,G,F];refine ai ?_;exact au
     exact au
    exact au
   exact au
  refine q0u (q1w J (q0v b0 (q0m ar (q8 ao ?_))));obtain⟨S,F,h⟩:=bI F h;have y:(enc g).set (e.toNat) [.sl 1 (enc B)]=enc (Xs g (e.toNat) B):=by exact q6w _ _ _
  simp only[go_sem,y,F];refine ai ?_;exact au
 exact au
instance zd2(a:aa):Ct pp 11 (qa6 a) [.agg (Row.row a)] λr=>(.sl 1 (enc r)):=⟨λr h=>(z9r a r h).pure leA⟩
def qq5(a:aH)(b:af):Option (af×Bool):=
 x9 (0<=a.br/\a.br<=4/\4<=4) (
 x9 (0<=0/\0<=a.bL/\a.bL<=4) (
 q9 (some ((cpL [b.C.a0,b.C.a1,b.C.a2,b.C.a3] [a.T.a0,a.T.a1,a.T.a2,a.T.a3] (a.br.toNat) (a.bL.toNat)).getD 0 0)) (λe=>
 q9 (some ((cpL [b.C.a0,b.C.a1,b.C.a2,b.C.a3] [a.T.a0,a.T.a1,a.T.a2,a.T.a3] (a.br.toNat) (a.bL.toNat)).getD 1 0)) (λf=>
 q9 (some ((cpL [b.C.a0,b.C.a1,b.C.a2,b.C.a3] [a.T.a0,a.T.a1,a.T.a2,a.T.a3] (a.br.toNat) (a.bL.toNat)).getD 2 0)) (λc=>
 q9 (some ((cpL [b.C.a0,b.C.a1,b.C.a2,b.C.a3] [a.T.a0,a.T.a1,a.T.a2,a.T.a3] (a.br.toNat) (a.bL.toNat)).getD 3 0)) (λd=>
 q9 (q4k (⟨b.D,(⟨e,f,c,d⟩:bq Int)⟩:af)) (λg=>
 (if (!g)=true then some ((⟨0,(⟨0,0,0,0⟩:bq Int)⟩:af),false)
 else some ((⟨b.D,(⟨e,f,c,d⟩:bq Int)⟩:af),true)))))))))
def qq6(b:aH)(f:af)(g:Int×af->Option (af×Bool)):Int×af->Option (af×Bool):=
 λ(a,e)=>
 (if (decide (a<b.br))=true then x9 (0<=a/\a<4) (
 q9 (idx ([f.C.a0,f.C.a1,f.C.a2,f.C.a3]:List Int) a) (λc=>
 x9 (0<=a/\a<4) (
 q9 (idx ([b.Add.a0,b.Add.a1,b.Add.a2,b.Add.a3]:List Int) a) (λd=>
 x9 (0<=a/\a<4) (
 q9 (some (if a.toNat=0 then i64.wrap (c+d)else e.C.a0)) (λj=>
 q9 (some (if a.toNat=1 then i64.wrap (c+d)else e.C.a1)) (λk=>
 q9 (some (if a.toNat=2 then i64.wrap (c+d)else e.C.a2)) (λl=>
 q9 (some (if a.toNat=3 then i64.wrap (c+d)else e.C.a3)) (λm=>
 g (i64.wrap (a+1),(⟨e.D,(⟨j,k,l,m⟩:bq Int)⟩:af)))))))))))
 else qq5 b e)
def qt4(a:aH)(b:af):Option (af×Bool):=
 q9 (q4b a) (λc=>
 (if c=true then q9 (q4k b) (λd=>
 (if ((!d)||(!(b.D==a.aO)))=true then some ((⟨0,(⟨0,0,0,0⟩:bq Int)⟩:af),false)
 else q9 (q6g a) (λe=>
 q02 (qq6 a b) rounds (0,(⟨e,(⟨0,0,0,0⟩:bq Int)⟩:af)))))
 else some ((⟨0,(⟨0,0,0,0⟩:bq Int)⟩:af),false)))
instance jl0(a:aH)(k:af):Ct pp 120 (qt4 a k) [.agg (Row.row a),.agg (Row.row k)] λr=>(.tup [.agg (Row.row r.1),.v (.bool r.2)]):=ctK Tryz.func120 rfl (by rw[qt4]) (by
 intro r h F;refine sM ?_;refine sg λ_ X=>?_;refine sg λ_ Y=>?_;simp only[go_sem];refine q2b h λQ h=>?_;simp only[go_sem];rcases e:Q with _|_
 . replace h:=q2s h e;simp only[go_sem,e];exact au
 replace h:=q2r h e;simp only[go_sem,e];refine q2b h λZ h=>?_;simp only[go_sem];refine q8 Y (sB h (λ_ h=>?_) λ_ h=>?_)
 . exact au
 refine y5 (q8 X (sg λ_ Q6=>?_));simp only[go_sem];refine q2b h λa6 h=>?_;simp only[go_sem];refine q8 Q6 (q3e (λ(d:af)=>qq5 a d=some r) [2] (λd=>([(4,.ptr 1 0),(6,.ptr 2 0)],[(0,.box (Row.row a)),(1,.box [.v (.int .i64 0),.v (.int .i64 0),.v (.int .i64 0),.v (.int .i64 0),.v (.int .i64 0)]),(2,.box (Row.row d))])) 3 ?_ ?_)
 .
  intro _ ao;refine sM ?_;refine w9 λ_ ar=>?_;refine q0e h [2,3,4,6,28] (λx=>([(29,.v (.int .i64 x.1))],[(0,.box (Row.row a)),(1,.box (Row.row k)),(2,.box [.v (.int .i64 0),.v (.int .i64 0),.v (.int .i64 0),.v (.int .i64 0),.v (.int .i64 0)]),(3,.box (Row.row x.2))])) 4 ?_;rintro b0 ⟨m,g⟩ h _ b1;rw[qq6]at h;refine sM ?_;refine sg λ_ R=>?_;refine sB h (λ_ h=>?_) λ_ h=>?_
  .
   refine y5 (q8 R (sg λ_ b2=>?_));refine w9 λ_ b3=>?_;refine sM ?_;refine q00 ?_;refine jy5 ?_;obtain⟨F,h⟩:=bG F h;obtain⟨B,S,h⟩:=z8 h;obtain⟨E,n,o,b⟩:=q4i (f:=(λy=>AV.v (.int .i64 y))) [.v (.int .i64 k.D)] [] S;simp only[Xi,Xk,Xl,Xn,Xp,Xa,Xb,Xe,Xg,q0w]at n o b;obtain⟨F,h⟩:=bG F h;obtain⟨G,U,h⟩:=z8 h;obtain⟨H,p,q,c⟩:=q4i (f:=(λy=>AV.v (.int .i64 y))) [.v (.int .i64 a.aO),.v (.int .i64 a.br),.v (.int .i64 a.bL)] [.v (.int .i64 a.T.a0),.v (.int .i64 a.T.a1),.v (.int .i64 a.T.a2),.v (.int .i64 a.T.a3)] U;simp only[Xi,Xk,Xl,Xn,Xp,Xa,Xb,Xe,Xg,q0w]at p q c;obtain⟨F,h⟩:=bG F h;obtain⟨I,s,h⟩:=z8 h;obtain⟨J,t,h⟩:=z8 h;obtain⟨K,u,h⟩:=z8 h;obtain⟨L,w,h⟩:=z8 h;have j:=qs6 (f:=(λy=>AV.v (.int .i64 y))) [.v (.int .i64 g.D)] [] [g.C.a0,g.C.a1,g.C.a2,g.C.a3] [I,J,K,L] (m.toNat) (i64.wrap (B+G)) (by simp only[Xa,Xb];omega) (by simp only[Xu,Xw,Xe,Xg,Xc s,Xc t,Xc u,Xc w]);simp only[Xi,Xk,Xl,Xn,Xp,Xa,Xb,Xe,Xg,q4p,Xv,Xt,q0w]at j;simp only[go_sem,E,n,o,b,H,p,q,c,j,Xh,F]
   simp only[Xd,Xh,b,Xm,Xj,true_and,Xd,Xh,c,Xm,Xj,true_and];simp only[go_sem,E,n,o,b,H,p,q,c,j,Xh,Xd,Xh,b,Xm,Xj,true_and,Xd,Xh,c,Xm,Xj,true_and,F];refine ai ?_;exact au
  exact au
 rintro d h
 try dsimp only at h
 rw[qq5]at h;refine sg λ_ Q7=>?_;refine q00 ?_;refine jy5 ?_;obtain⟨F,h⟩:=bG F h;obtain⟨F,h⟩:=bG F h;obtain⟨V,M,h⟩:=z8 h;obtain⟨W,N,h⟩:=z8 h;obtain⟨O,z,h⟩:=z8 h;obtain⟨P,A,h⟩:=z8 h;have l:=ju1 (f:=(λy=>AV.v (.int .i64 y))) [.v (.int .i64 d.D)] [] [.v (.int .i64 a.aO),.v (.int .i64 a.br),.v (.int .i64 a.bL),.v (.int .i64 a.Add.a0),.v (.int .i64 a.Add.a1),.v (.int .i64 a.Add.a2),.v (.int .i64 a.Add.a3)] [] [d.C.a0,d.C.a1,d.C.a2,d.C.a3] [a.T.a0,a.T.a1,a.T.a2,a.T.a3] [V,W,O,P] (a.br.toNat) (a.bL.toNat) (by simp only[Xa,Xb];omega) (by simp only[Xa,Xb];omega) (ju2 (0) (by omega) _ rfl (Xc M) (Xc N) (Xc z) (Xc A));simp only[Xi,Xk,Xl,Xn,Xp,Xa,Xb,Xe,Xg,Nat.reduceSub,Nat.sub_zero,q4p,Xv,List.drop_zero,Xt]at l;simp only[go_sem,l,F];refine ai ?_;refine ai ?_;exact au)
def qb6(d:List (List (List aH)))(a:Int)(b:Int):Option (List aH):=
 (if (((decide (a<0))||(decide ((d.length:Int)<=a)))||(decide (b<0)))=true then some ([]:List aH)
 else q9 (idx d a) (λc=>
 (if (decide ((c.length:Int)<=b))=true then some ([]:List aH)
 else q9 (idx c b) (λe=>
 some e))))
instance j75(c:List (List (List aH)))(a:Int)(b:Int):Ct pp 119 (qb6 c a b) [.sl 1 (enc c),.v (.int .i64 a),.v (.int .i64 b)] λr=>(.sl 11 (enc r)):=ctI Tryz.func119 rfl (by rw[qb6];exact au1)
def q6u(f:af)(g:af)(c:List aH)(b:Int->Option Bool):Int->Option Bool:=
 λa=>
 (if (decide (a<(c.length:Int)))=true then q9 (idx c a) (λd=>
 q9 (qt4 d f) (λe=>
 (if e.2=true then q9 (z0l e.1 g) (λj=>
 (if j=true then some true
 else b (i64.wrap (a+1))))
 else b (i64.wrap (a+1)))))
 else some false)
def q50(c:List (List (List aH)))(a:Int)(d:af)(b:Int)(e:af):Option Bool:=
 q9 (qb6 c a b) (λf=>
 q02 (q6u d e f) rounds 0)
instance j76(f:List (List (List aH)))(b:Int)(d:af)(c:Int)(e:af):Ct pp 71 (q50 f b d c e) [.sl 1 (enc f),.v (.int .i64 b),.agg (Row.row d),.v (.int .i64 c),.agg (Row.row e)] λr=>(.v (.bool r)):=ctK Tryz.func71 rfl (by rw[q50]) (by
 intro r h F;refine sM ?_;refine jg λ_ l=>?_;refine sg λ_ g=>?_;simp only[go_sem];refine q2b h λj h=>?_;simp only[go_sem];refine q8 g (w9 λ_ m=>?_);refine q0e h [7,9,18,19] (λa=>([(20,.v (.int .i64 a))],[(0,.box (Row.row d)),(1,.box (Row.row e))])) 2 ?_;rintro k a h _ n;rw[q6u]at h;exact au)
def q9d(d:aa)(b:Int)(a:af):Option (af×Bool):=
 (if ((decide (b<0))||(decide ((d.al.length:Int)<=b)))=true then some ((⟨0,(⟨0,0,0,0⟩:bq Int)⟩:af),false)
 else q9 (q4k a) (λl=>
 (if l=true then q9 (q7b d b) (λm=>
 (if (!(a.D==m))=true then some ((⟨0,(⟨0,0,0,0⟩:bq Int)⟩:af),false)
 else q9 (idx d.al b) (λc=>
 (if (c.Kind==10)=true then q9 (q8v a) (λe=>
 some (e.1,e.2))
 else (if (c.Kind==11)=true then q9 (q8u a) (λf=>
 some (f.1,f.2))
 else (if (c.Kind==12)=true then x9 (0<=i64.wrap (a.D-1)/\i64.wrap (a.D-1)<4) (
 q9 (idx ([a.C.a0,a.C.a1,a.C.a2,a.C.a3]:List Int) (i64.wrap (a.D-1))) (λg=>
 q9 (idx d.aG c.Scope) (λj=>
 (if (decide (j<=(i64.wrap (g+1))))=true then some ((⟨0,(⟨0,0,0,0⟩:bq Int)⟩:af),false)
 else q9 (qb5 a) (λk=>
 some (k.1,k.2))))))
 else some (a,true)))))))
 else some ((⟨0,(⟨0,0,0,0⟩:bq Int)⟩:af),false))))
instance zi0(e:aa)(a:Int)(g:af):Ct pp 84 (q9d e a g) [.agg (Row.row e),.v (.int .i64 a),.agg (Row.row g)] λr=>(.tup [.agg (Row.row r.1),.v (.bool r.2)]):=ctK Tryz.func84 rfl (by rw[q9d]) (by
 intro r h F;refine sM ?_;refine sg λ_ w=>?_;refine sg λ_ z=>?_;refine q00 ?_;refine jy5 ?_;simp only[go_sem];rcases c:((decide (a<0))||(decide ((e.al.length:Int)<=a)))with _|_
 .
  replace h:=q2s h c;obtain⟨j,k,h⟩:=z8 h;simp only[go_sem,c];refine bx (λ_=>(z7m g j k)) (by rfl) (by rfl) ?_;simp only[go_sem];rcases d:j with _|_
  . replace h:=q2s h d;simp only[go_sem,d];exact au
  replace h:=q2r h d;obtain⟨o,l,h⟩:=z8 h;simp only[go_sem,d];refine bx (λ_=>(zd0 e a o l)) (by rfl) (by rfl) ?_;simp only[go_sem];refine q8 z (sB h (λ_ h=>?_) λ_ h=>?_)
  . exact au
  refine y5 (q8 w (sg λ_ A=>?_));obtain⟨s,F,h⟩:=bI F h;simp only[go_sem,F];refine ai ?_;refine q8 A (sg λ_ E=>?_);refine sM ?_;refine w9 λ_ G=>?_;refine sM ?_;refine sB h (λ_ h=>?_) λ_ h=>?_
  . exact au
  refine sM ?_;refine sB h (λ_ h=>?_) λ_ h=>?_
  . exact au
  refine sM ?_;refine sB h (λ_ h=>?_) λ_ h=>?_
  . refine sg λ_ B=>?_;refine sg λ_ C=>?_;refine q00 ?_;refine jy5 ?_;obtain⟨F,h⟩:=bG F h;obtain⟨t,p,h⟩:=z8 h;obtain⟨q,m,n,b⟩:=q4i (f:=(λy=>AV.v (.int .i64 y))) [.v (.int .i64 g.D)] [] p;simp only[Xi,Xk,Xl,Xn,Xp,Xa,Xb,Xe,Xg,q0w]at m n b;obtain⟨u,F,h⟩:=bI F h;simp only[go_sem,q,m,n,b,F];refine ai ?_;simp only[Xd,Xh,b,Xm,Xj,true_and];refine ai ?_;exact au
  exact au
 replace h:=q2r h c;simp only[go_sem,c];exact au)
def qe8(a:ax)(b:ax):Option Int:=
 q9 (q38 a.Node b.Node) (λc=>
 (if (!(c==0))=true then some c
 else q9 (qx2 a.Time b.Time) (λd=>
 (if d=true then some (-1)
 else q9 (qx2 b.Time a.Time) (λe=>
 (if e=true then some 1
 else some 0))))))
instance jd4(a:ax)(b:ax):Ct pp 35 (qe8 a b) [.agg (Row.row a),.agg (Row.row b)] λr=>(.v (.int .i64 r)):=ctI Tryz.func35 rfl (by rw[qe8];exact au1)
def qf8(c:List ax)(e:ax->Option Bool)(b:Int->Option Int):Int->Option Int:=
 λa=>
 (if (decide (a<(c.length:Int)))=true then q9 (idx c a) (λd=>
 q9 (e d) (λf=>
 (if f=true then some a
 else b (i64.wrap (a+1)))))
 else some (-1))
def q9e(a:List ax)(b:ax->Option Bool):Option Int:=
 q02 (qf8 a b) rounds 0
theorem z1e(g:List ax)(j:ax->Option Bool)(a:FuncId)(b:List AV)(d:q0f b=true)(e:u7 pp a=true)(f:∀(p:ax) (r:Bool),j p=some r->be pp a ([.agg (Row.row p)]++b) 0 (.v (.bool r)))(r:Int)(h:q9e g j=some r):be pp 118 [.sl 6 (enc g),.clo a b] 0 (.v (.int .i64 r)):=by
 refine ptI Tryz.func118 rfl ?_;rw[q9e]at h;have F:=trivial;refine sM ?_;refine jg λ_ q=>?_;refine sM ?_;refine w9 λ_ s=>?_;refine q0e h [0,1,7] (λc=>([(8,.v (.int .i64 c))],[])) 0 ?_;rintro y c h _ m;rw[qf8]at h;refine sM ?_;refine sg λ_ t=>?_;refine sB h (λ_ h=>?_) λ_ h=>?_
 .
  refine y5 (q8 t (sg λ_ u=>?_));refine w9 λ_ w=>?_;refine sM ?_;refine sg λ_ n=>?_;obtain⟨k,F,h⟩:=bI F h;obtain⟨o,l,h⟩:=z8 h;simp only[go_sem,e,F];refine ai ?_;refine q9s (f k o l) (by rfl) (by simp[go_sem,q0f,q0n,d]) ?_;simp only[go_sem];refine q8 n (sB h (λ_ h=>?_) λ_ h=>?_)
  . refine sM ?_;refine q04 (q12 w (q18 u (q34 m (q12 s (q18 q ?_)))));simp only[go_sem];obtain rfl:=Xc h;refine q5h rfl ?_;exact leA
  refine y5 (q08 w (q8 u ?_));simp only[go_sem];refine u6 m ?_;exact nxC _ h [] leA
 refine q0u (q1w t (q0v m (q0m s (q8 q (sM ?_)))));refine q04 ?_;simp only[go_sem];obtain rfl:=Xc h;refine q5h rfl ?_;exact leA
def q65(a:List ax)(b:ax->Option Bool):Option Bool:=
 q9 (q9e a b) (λc=>
 some (decide (0<=c)))
theorem qz2(d:List ax)(e:ax->Option Bool)(a:FuncId)(b:List AV)(c:q0f b=true)(f:u7 pp a=true)(g:∀(l:ax) (r:Bool),e l=some r->be pp a ([.agg (Row.row l)]++b) 0 (.v (.bool r)))(r:Bool)(h:q65 d e=some r):be pp 69 [.sl 6 (enc d),.clo a b] 0 (.v (.bool r)):=by
 refine ptI Tryz.func69 rfl ?_;rw[q65]at h;have F:=trivial;refine sM ?_;refine sg λ_ m=>?_;obtain⟨k,j,h⟩:=z8 h;simp only[go_sem];refine q9s (z1e d e a b c f g k j) (by rfl) (by simp[go_sem,q0f,q0n,c]) ?_;simp only[go_sem];refine q8 m (q04 ?_);simp only[go_sem];obtain rfl:=Xc h;refine q5h rfl ?_;exact leA
def q96(b:ax)(a:ax)(c:List (List (List aH))):Option Bool:=
 (if ((b.Node==a.Node)&&((b.Time.D==a.Time.D)&&((b.Time.C.a0==a.Time.C.a0)&&((b.Time.C.a1==a.Time.C.a1)&&((b.Time.C.a2==a.Time.C.a2)&&(b.Time.C.a3==a.Time.C.a3))))))=true then some false
 else q9 (q50 c b.Node b.Time a.Node a.Time) (λd=>
 some d))
instance z7q(c:ax)(a:ax)(b:List (List (List aH))):Ct pp 70 (q96 c a b) [.agg (Row.row c),.el 6 [(Row.row a)] 0 0,.el 1 [[.sl 1 (enc b)]] 0 0] λr=>(.v (.bool r)):=ctI Tryz.func70 rfl (by rw[q96];exact au1)
def q6s(a:List (List (List aH)))(b:List ax)(c:ax):Option Bool:=
 q9 (q65 b (λd=>q96 d c a)) (λe=>
 some (!e))
instance j7r(a:List (List (List aH)))(b:List ax)(c:ax):Ct pp 36 (q6s a b c) [.sl 1 (enc a),.sl 6 (enc b),.agg (Row.row c)] λr=>(.v (.bool r)):=ctK Tryz.func36 rfl (by rw[q6s]) (by
 intro r h F;refine sM ?_;refine sg λ_ l=>?_;obtain⟨e,d,h⟩:=z8 h;simp only[go_sem];refine qo8 (qz2 b (λf=>q96 f c a) 70 [.el 6 [(Row.row c)] 0 0,.el 1 [[.sl 1 (enc a)]] 0 0] (by rfl) (by kernel_rfl) (λg j k=>z7q g c a j k) e d) ?_;simp only[go_sem];exact au)
def q2c(c:aq)(d:Int×Int->Option (Int×aq)):Int×Int->Option (Int×aq):=
 λ(b,a)=>
 (if (decide (a<(c.aI.aj.length:Int)))=true then q9 (idx c.aI.aj a) (λe=>
 (if (decide (b<0))=true then q9 (q6s c.table c.aI.aj e) (λg=>
 (if g=true then d (a,i64.wrap (a+1))
 else d (b,i64.wrap (a+1))))
 else q9 (idx c.aI.aj b) (λf=>
 q9 (qe8 e f) (λj=>
 (if (decide (j<0))=true then q9 (q6s c.table c.aI.aj e) (λk=>
 (if k=true then d (a,i64.wrap (a+1))
 else d (b,i64.wrap (a+1))))
 else d (b,i64.wrap (a+1)))))))
 else some (b,c))
def q0j(a:aq):Option (Int×aq):=
 q02 (q2c a) rounds ((-1),0)
theorem q3t(a:aq)(r:Int×aq)(h:q0j a=some r):bu pp 13 [.ptr 0 0] [(0,.box [.osl 1 6 (0) (a.aI.aj.length),.osl 2 2 (0) (a.aI.in_.length),.sl 1 (enc a.g.ae),.sl 1 (enc a.g.aG),.sl 4 (enc a.g.al),.sl 4 (enc a.g.aw),.sl 1 (enc a.table),.osl 3 6 (0) (a.ay.aj.length),.osl 4 2 (0) (a.ay.in_.length),.v (.int .i64 a.work),.osl 5 8 (0) (a.aL.length),.osl 6 4 (0) (a.outs.length)]),(1,.arr 6 (enc a.aI.aj)),(2,.arr 2 (enc a.aI.in_)),(3,.arr 6 (enc a.ay.aj)),(4,.arr 2 (enc a.ay.in_)),(5,.arr 8 (enc a.aL)),(6,.arr 4 (enc a.outs))] 7 (.v (.int .i64 r.1)) [(0,.box [.osl 7 6 (0) (r.2.aI.aj.length),.osl 8 2 (0) (r.2.aI.in_.length),.sl 1 (enc r.2.g.ae),.sl 1 (enc r.2.g.aG),.sl 4 (enc r.2.g.al),.sl 4 (enc r.2.g.aw),.sl 1 (enc r.2.table),.osl 9 6 (0) (r.2.ay.aj.length),.osl 10 2 (0) (r.2.ay.in_.length),.v (.int .i64 r.2.work),.osl 11 8 (0) (r.2.aL.length),.osl 12 4 (0) (r.2.outs.length)]),(7,.arr 6 (enc r.2.aI.aj)),(8,.arr 2 (enc r.2.aI.in_)),(9,.arr 6 (enc r.2.ay.aj)),(10,.arr 2 (enc r.2.ay.in_)),(11,.arr 8 (enc r.2.aL)),(12,.arr 4 (enc r.2.outs))] 13:=by
 refine dtI Tryz.func13 rfl ?_;rw[q0j]at h;have F:=trivial;refine sM ?_;refine sM ?_;refine jg λ_ e=>?_;refine sM ?_;refine w9 λ_ f=>?_;refine q0e h [0,10,11] (λx=>([(3,.v (.int .i64 x.1)),(12,.v (.int .i64 x.2))],[(0,.box [.osl 1 6 (0) (a.aI.aj.length),.osl 2 2 (0) (a.aI.in_.length),.sl 1 (enc a.g.ae),.sl 1 (enc a.g.aG),.sl 4 (enc a.g.al),.sl 4 (enc a.g.aw),.sl 1 (enc a.table),.osl 3 6 (0) (a.ay.aj.length),.osl 4 2 (0) (a.ay.in_.length),.v (.int .i64 a.work),.osl 5 8 (0) (a.aL.length),.osl 6 4 (0) (a.outs.length)]),(1,.arr 6 (enc a.aI.aj)),(2,.arr 2 (enc a.aI.in_)),(3,.arr 6 (enc a.ay.aj)),(4,.arr 2 (enc a.ay.in_)),(5,.arr 8 (enc a.aL)),(6,.arr 4 (enc a.outs))])) 7 ?_;rintro d ⟨b,c⟩ h _ j;rw[q2c]at h;exact au
def q7e(e:List ax)(c:ax)(d:Int->Option Int):Int->Option Int:=
 λb=>
 (if (decide (b<(e.length:Int)))=true then q9 (idx e b) (λa=>
 (if ((c.Node==a.Node)&&((c.Time.D==a.Time.D)&&((c.Time.C.a0==a.Time.C.a0)&&((c.Time.C.a1==a.Time.C.a1)&&((c.Time.C.a2==a.Time.C.a2)&&(c.Time.C.a3==a.Time.C.a3))))))=true then some b
 else d (i64.wrap (b+1))))
 else some (-1))
def q3l(a:List ax)(b:ax):Option Int:=
 q02 (q7e a b) rounds 0
instance q9u(c:List ax)(b:ax):Ct pp 33 (q3l c b) [.sl 6 (enc c),.agg (Row.row b)] λr=>(.v (.int .i64 r)):=ctK Tryz.func33 rfl (by rw[q3l]) (by
 intro r h F;refine sM ?_;refine jg λ_ e=>?_;refine sM ?_;refine w9 λ_ f=>?_;refine q0e h [0,3,7] (λa=>([(8,.v (.int .i64 a))],[(0,.box (Row.row b))])) 1 ?_;rintro d a h _ g;rw[q7e]at h;exact au)
def z0k(d:List a7)(c:Int×Int->Option Int):Int×Int->Option Int:=
 λ(b,a)=>
 (if (decide (a<(d.length:Int)))=true then q9 (idx d a) (λe=>
 c (i64.wrap (b+e.N),i64.wrap (a+1)))
 else some b)
def q7u(a:List a7):Option Int:=
 q02 (z0k a) rounds (0,0)
instance z5q(a:List a7):Ct pp 40 (q7u a) [.sl 3 (enc a)] λr=>(.v (.int .i64 r)):=ctK Tryz.func40 rfl (by rw[q7u]) (by
 intro r h F;refine sM ?_;refine sM ?_;refine jg λ_ e=>?_;refine sM ?_;refine w9 λ_ f=>?_;refine q0e h [6,7] (λx=>([(3,.v (.int .i64 x.1)),(8,.v (.int .i64 x.2))],[])) 0 ?_;rintro d ⟨b,c⟩ h _ g;rw[z0k]at h;exact au)
def q0q(a:aq)(b:List a7)(f:Int)(c:List ax)(d:List (aP (List a7))):Option (Int×aq):=
 q9 (q7u b) (λe=>
 some (e,(⟨(⟨c,d⟩:aM),a.g,a.table,a.ay,f,a.aL,a.outs⟩:aq)))
def q0g(c:List a7)(f:Int)(p:Int)(g:(Int×Int×(List ax)×(List (aP (List a7)))->Option (Int×aq)))(a:aU)(k:Int)(l:List ax)(d:List (aP (List a7))):Option (Int×aq):=
 q9 (idx d k) (λb=>
 x9 (0<=a.Port/\a.Port<2) (
 q9 (idx ([b.a0,b.a1]:List (List a7)) a.Port) (λj=>
 q9 (q31 j c) (λe=>
 x9 (0<=a.Port/\a.Port<2) (
 q9 (some (if a.Port.toNat=0 then e else b.a0)) (λm=>
 q9 (some (if a.Port.toNat=1 then e else b.a1)) (λn=>
 q9 (q7u c) (λo=>
 g (i64.wrap (f+1),i64.wrap (p+o),l,(Xs d (k.toNat) (⟨m,n⟩:aP (List a7))))))))))))
def q09(j:aq)(o:ax)(d:List a7)(m:af×Bool)(f:Int×Int×(List ax)×(List (aP (List a7)))->Option (Int×aq)):Int×Int×(List ax)×(List (aP (List a7)))->Option (Int×aq):=
 λ(a,k,c,e)=>
 (if (decide (a<(j.g.aw.length:Int)))=true then q9 (idx j.g.aw a) (λb=>
 (if (b.aO==o.Node)=true then (if ((d.length:Int)==0)=true then q9 (q7u d) (λn=>
 f (i64.wrap (a+1),i64.wrap (k+n),c,e))
 else q9 (q3l c (⟨b.To,m.1⟩:ax)) (λl=>
 (if (decide (l<0))=true then x9 ((c.length+Xq ([(⟨b.To,m.1⟩:ax)]:List ax))*48<=140737488355328) (
 x9 ((e.length+Xq ([(⟨([]:List a7),([]:List a7)⟩:aP (List a7))]:List (aP (List a7))))*48<=140737488355328) (
 q0g d a k f b (c.length:Int) (c++([(⟨b.To,m.1⟩:ax)]:List ax)) (e++([(⟨([]:List a7),([]:List a7)⟩:aP (List a7))]:List (aP (List a7))))))
 else q0g d a k f b l c e)))
 else f (i64.wrap (a+1),k,c,e)))
 else q0q j d k c e)
def q1d(a:aq)(b:ax)(c:List a7):Option (Int×aq):=
 q9 (q9d a.g b.Node b.Time) (λd=>
 (if (!d.2)=true then some (0,a)
 else q02 (q09 a b c d) rounds (0,a.work,a.aI.aj,a.aI.in_)))
def q1e(a:aq)(e:ax)(f:(List aR)×Bool)(j:Int×(List aB)->Option (Int×aq)):Int×(List aB)->Option (Int×aq):=
 λ(b,c)=>
 (if (decide (b<(f.1.length:Int)))=true then q9 (idx f.1 b) (λd=>
 x9 ((c.length+Xq ([(⟨e.Node,e.Time.C.a0,d⟩:aB)]:List aB))*32<=140737488355328) (
 j (i64.wrap (b+1),(c++([(⟨e.Node,e.Time.C.a0,d⟩:aB)]:List aB)))))
 else some (0,(⟨a.aI,a.g,a.table,a.ay,a.work,a.aL,c⟩:aq)))
def q10(a:aq)(c:ax)(b:List a7):Option (Int×aq):=
 q9 (idx a.g.al c.Node) (λd=>
 (if (d.Kind==15)=true then q9 (qr1 b) (λe=>
 q02 (q1e a c e) rounds (0,a.outs))
 else q1d a c b))
theorem q7d(a:aq)(d:ax)(e:List a7)(r:Int×aq)(h:q10 a d e=some r):bu pp 41 [.ptr 0 0,.agg (Row.row d),.sl 3 (enc e)] [(0,.box [.osl 1 6 (0) (a.aI.aj.length),.osl 2 2 (0) (a.aI.in_.length),.sl 1 (enc a.g.ae),.sl 1 (enc a.g.aG),.sl 4 (enc a.g.al),.sl 4 (enc a.g.aw),.sl 1 (enc a.table),.osl 3 6 (0) (a.ay.aj.length),.osl 4 2 (0) (a.ay.in_.length),.v (.int .i64 a.work),.osl 5 8 (0) (a.aL.length),.osl 6 4 (0) (a.outs.length)]),(1,.arr 6 (enc a.aI.aj)),(2,.arr 2 (enc a.aI.in_)),(3,.arr 6 (enc a.ay.aj)),(4,.arr 2 (enc a.ay.in_)),(5,.arr 8 (enc a.aL)),(6,.arr 4 (enc a.outs))] 7 (.v (.int .i64 r.1)) [(0,.box [.osl 7 6 (0) (r.2.aI.aj.length),.osl 8 2 (0) (r.2.aI.in_.length),.sl 1 (enc r.2.g.ae),.sl 1 (enc r.2.g.aG),.sl 4 (enc r.2.g.al),.sl 4 (enc r.2.g.aw),.sl 1 (enc r.2.table),.osl 9 6 (0) (r.2.ay.aj.length),.osl 10 2 (0) (r.2.ay.in_.length),.v (.int .i64 r.2.work),.osl 11 8 (0) (r.2.aL.length),.osl 12 4 (0) (r.2.outs.length)]),(7,.arr 6 (enc r.2.aI.aj)),(8,.arr 2 (enc r.2.aI.in_)),(9,.arr 6 (enc r.2.ay.aj)),(10,.arr 2 (enc r.2.ay.in_)),(11,.arr 8 (enc r.2.aL)),(12,.arr 4 (enc r.2.outs))] 13:=by
 refine dtI Tryz.func41 rfl ?_;rw[q10]at h;have F:=trivial;refine sM ?_;refine q3e (λ(_:Unit)=>q1d a d e=some r) [0,2,4] (λ_=>([],[(0,.box [.osl 1 6 (0) (a.aI.aj.length),.osl 2 2 (0) (a.aI.in_.length),.sl 1 (enc a.g.ae),.sl 1 (enc a.g.aG),.sl 4 (enc a.g.al),.sl 4 (enc a.g.aw),.sl 1 (enc a.table),.osl 3 6 (0) (a.ay.aj.length),.osl 4 2 (0) (a.ay.in_.length),.v (.int .i64 a.work),.osl 5 8 (0) (a.aL.length),.osl 6 4 (0) (a.outs.length)]),(1,.arr 6 (enc a.aI.aj)),(2,.arr 2 (enc a.aI.in_)),(3,.arr 6 (enc a.ay.aj)),(4,.arr 2 (enc a.ay.in_)),(5,.arr 8 (enc a.aL)),(6,.arr 4 (enc a.outs)),(7,.box (Row.row d))])) 8 ?_ ?_
 .
  intro _ c8;refine sg λ_ bc=>?_;refine q00 ?_;refine jy5 ?_;obtain⟨bi,F,h⟩:=bI F h;simp only[go_sem,F];refine ai ?_;refine q8 bc (sB h (λ_ h=>?_) λ_ h=>?_)
  .
   refine sg λ_ bk=>?_;obtain⟨L,Q,h⟩:=z8 h;simp only[go_sem];refine q1l [] (z5t e L Q) ?_;simp only[go_sem];refine q8 bk (jg λ_ c9=>?_);refine sM ?_;refine w9 λ_ cb=>?_;refine q0e h [0,4,31,32] (λx=>([(33,.v (.int .i64 x.1))],[(0,.box [.osl 1 6 (0) (a.aI.aj.length),.osl 2 2 (0) (a.aI.in_.length),.sl 1 (enc a.g.ae),.sl 1 (enc a.g.aG),.sl 4 (enc a.g.al),.sl 4 (enc a.g.aw),.sl 1 (enc a.table),.osl 3 6 (0) (a.ay.aj.length),.osl 4 2 (0) (a.ay.in_.length),.v (.int .i64 a.work),.osl 5 8 (0) (a.aL.length),.osl 9 4 (0) (x.2.length)]),(1,.arr 6 (enc a.aI.aj)),(2,.arr 2 (enc a.aI.in_)),(3,.arr 6 (enc a.ay.aj)),(4,.arr 2 (enc a.ay.in_)),(5,.arr 8 (enc a.aL)),(7,.box (Row.row d)),(8,.arr 2 (enc L.1)),(9,.arr 4 (enc x.2))])) 10 ?_;rintro cc ⟨bs,u⟩ h _ cd;rw[q1e]at h;refine sM ?_;refine sg λ_ bv=>?_;refine sB h (λ_ h=>?_) λ_ h=>?_
   .
    refine y5 (q8 bv (sg λ_ cp=>?_));refine w9 λ_ cs=>?_;refine sg λ_ c1=>?_;obtain⟨k,F,h⟩:=bI F h;simp only[go_sem,F];refine ai ?_;refine q8 c1 (q00 ?_);refine q1r 15 0 0 [0,0,2,6,14,0,32,0,128,384,896,0,4064,8160,16382,32767,65535,131071] [9,11] [0] [] [14] [] mixed (by kernel_rfl) (of_decide_eq_true (by kernel_rfl)) (by kernel_rfl) (by kernel_rfl) (by rfl) ?_;have R:[[.v (.int .i64 d.Node),.v (.int .i64 d.Time.C.a0),.v (.int .i64 k.K),.v (.int .i64 k.V)]]=enc ([(⟨d.Node,d.Time.C.a0,k⟩:aB)]:List aB):=by rfl
    obtain⟨w,h⟩:=q07 h;have F:=Xf F w;simp only[Xa,Xb,Xe,Xr]at w;have S:enc u++[[.v (.int .i64 d.Node),.v (.int .i64 d.Time.C.a0),.v (.int .i64 k.K),.v (.int .i64 k.V)]]=enc (u++([(⟨d.Node,d.Time.C.a0,k⟩:aB)]:List aB)):=by exact (q2v u ([(⟨d.Node,d.Time.C.a0,k⟩:aB)]:List aB)).symm
    simp only[go_sem,w,S];simp only[R];exact au
   exact au
  exact au
 rintro⟨⟩ h
 try dsimp only at h
 rw[q1d]at h;refine sg λ_ Q2=>?_;refine q00 ?_;refine q1r 14 0 0 [0,1,3,7,0,16,0,64,255,511,1023,1023,0,6143,16383] [8] [0,1,2,3,4,5,6,7,8,9,10,11] [] [12,13] [] mixed (by kernel_rfl) (of_decide_eq_true (by kernel_rfl)) (by kernel_rfl) (by kernel_rfl) (by rfl) ?_;obtain⟨b,b2,h⟩:=z8 h;simp only[go_sem];refine bx (λ_=>(zi0 a.g d.Node d.Time b b2)) (by rfl) (by rfl) ?_;simp only[go_sem];refine q8 Q2 (sg λ_ Q3=>?_);refine sM ?_;refine sB h (λ_ h=>?_) λ_ h=>?_
 . exact au
 refine y5 (q8 Q3 (q3e (λ((b3,M,N):Int×(List ax)×(List (aP (List a7))))=>q0q a e b3 M N=some r) [2] (λx=>([],[(0,.box [.osl 7 6 (0) (x.2.1.length),.osl 8 2 (0) (x.2.2.length),.sl 1 (enc a.g.ae),.sl 1 (enc a.g.aG),.sl 4 (enc a.g.al),.sl 4 (enc a.g.aw),.sl 1 (enc a.table),.osl 3 6 (0) (a.ay.aj.length),.osl 4 2 (0) (a.ay.in_.length),.v (.int .i64 x.1),.osl 5 8 (0) (a.aL.length),.osl 6 4 (0) (a.outs.length)]),(3,.arr 6 (enc a.ay.aj)),(4,.arr 2 (enc a.ay.in_)),(5,.arr 8 (enc a.aL)),(6,.arr 4 (enc a.outs)),(7,.arr 6 (enc x.2.1)),(8,.arr 2 (enc x.2.2))])) 9 ?_ ?_))
 .
  intro _ Q7;refine sM ?_;refine w9 λ_ Q9=>?_;refine q0e h [0,2,4,11,73,74] (λx=>([(75,.v (.int .i64 x.1))],[(0,.box [.osl 9 6 (0) (x.2.2.1.length),.osl 10 2 (0) (x.2.2.2.length),.sl 1 (enc a.g.ae),.sl 1 (enc a.g.aG),.sl 4 (enc a.g.al),.sl 4 (enc a.g.aw),.sl 1 (enc a.table),.osl 3 6 (0) (a.ay.aj.length),.osl 4 2 (0) (a.ay.in_.length),.v (.int .i64 x.2.1),.osl 5 8 (0) (a.aL.length),.osl 6 4 (0) (a.outs.length)]),(3,.arr 6 (enc a.ay.aj)),(4,.arr 2 (enc a.ay.in_)),(5,.arr 8 (enc a.aL)),(6,.arr 4 (enc a.outs)),(7,.box (Row.row d)),(8,.box (Row.row b.1)),(9,.arr 6 (enc x.2.2.1)),(10,.arr 2 (enc x.2.2.2))])) 11 ?_;rintro c2 ⟨T,J,m,n⟩ h _ cz;rw[q09]at h;refine sM ?_;refine sg λ_ c4=>?_;refine sB h (λ_ h=>?_) λ_ h=>?_
  .
   refine y5 (q8 c4 (jg λ_ d0=>?_));refine w9 λ_ d1=>?_;refine sg λ_ c5=>?_;obtain⟨c,F,h⟩:=bI F h;simp only[go_sem,F];refine ai ?_;refine q8 c5 (sM ?_);refine sB h (λ_ h=>?_) λ_ h=>?_
   .
    refine sg λ_ d2=>?_;refine q00 ?_;refine jy5 ?_;simp only[go_sem];refine q5o Tryz.func12 rfl (by kernel_rfl) (by kernel_rfl) ?_;refine sM ?_;refine sg λ_ b4=>?_;refine sM ?_;refine sB h (λ_ h=>?_) λ_ h=>?_
    .
     refine q04 (q18 b4 ?_);simp only[go_sem];refine q1f [some 12] [(0,.box [.osl 9 6 (0) (m.length),.osl 10 2 (0) (n.length),.sl 1 (enc a.g.ae),.sl 1 (enc a.g.aG),.sl 4 (enc a.g.al),.sl 4 (enc a.g.aw),.sl 1 (enc a.table),.osl 3 6 (0) (a.ay.aj.length),.osl 4 2 (0) (a.ay.in_.length),.v (.int .i64 J),.osl 5 8 (0) (a.aL.length),.osl 6 4 (0) (a.outs.length)]),(3,.arr 6 (enc a.ay.aj)),(4,.arr 2 (enc a.ay.in_)),(5,.arr 8 (enc a.aL)),(6,.arr 4 (enc a.outs)),(7,.box (Row.row d)),(8,.box (Row.row b.1)),(9,.arr 6 (enc m)),(10,.arr 2 (enc n)),(11,.box (Row.row c)),(12,.box [.v (.int .i64 c.To),.v (.int .i64 b.1.D),.v (.int .i64 b.1.C.a0),.v (.int .i64 b.1.C.a1),.v (.int .i64 b.1.C.a2),.v (.int .i64 b.1.C.a3)])] 13 (.tup []) ?_ ?_
     . exact leA
     refine q1v ?_;simp only[go_sem];exact au
    refine y5 (q8 b4 (sg λ_ c6=>?_));refine q00 ?_;refine jy5 ?_;obtain⟨b5,U,h⟩:=z8 h;simp only[go_sem];refine qo8 (q9u m (⟨c.To,b.1⟩:ax) b5 U) ?_;simp only[go_sem];refine q8 c6 (q3e (λ((t,q,l):Int×(List ax)×(List (aP (List a7))))=>q0g e T J (q02 (q09 a d e b) c2) c t q l=some r) [0,2,3] (λx=>([(8,.v (.int .i64 x.1))],[(0,.box [.osl 12 6 (0) (x.2.1.length),.osl 13 2 (0) (x.2.2.length),.sl 1 (enc a.g.ae),.sl 1 (enc a.g.aG),.sl 4 (enc a.g.al),.sl 4 (enc a.g.aw),.sl 1 (enc a.table),.osl 3 6 (0) (a.ay.aj.length),.osl 4 2 (0) (a.ay.in_.length),.v (.int .i64 J),.osl 5 8 (0) (a.aL.length),.osl 6 4 (0) (a.outs.length)]),(3,.arr 6 (enc a.ay.aj)),(4,.arr 2 (enc a.ay.in_)),(5,.arr 8 (enc a.aL)),(6,.arr 4 (enc a.outs)),(7,.box (Row.row d)),(8,.box (Row.row b.1)),(11,.box (Row.row c)),(12,.arr 6 (enc x.2.1)),(13,.arr 2 (enc x.2.2))])) 14 ?_ ?_)
    .
     intro _ d3;refine sM ?_;refine sB h (λ_ h=>?_) λ_ h=>?_
     .
      refine sM ?_;refine sg λ_ c7=>?_;refine q00 ?_;refine q1r 8 0 0 [0,0,2,6,14,0,32,126,255,511,1023] [9,13] [0] [] [7] [] mixed (by kernel_rfl) (of_decide_eq_true (by kernel_rfl)) (by kernel_rfl) (by kernel_rfl) (by rfl) ?_;have W:[[.v (.int .i64 c.To),.v (.int .i64 b.1.D),.v (.int .i64 b.1.C.a0),.v (.int .i64 b.1.C.a1),.v (.int .i64 b.1.C.a2),.v (.int .i64 b.1.C.a3)]]=enc ([(⟨c.To,b.1⟩:ax)]:List ax):=by rfl
      obtain⟨z,h⟩:=q07 h;have F:=Xf F z;simp only[Xa,Xb,Xe,Xr]at z;have X:enc m++[[.v (.int .i64 c.To),.v (.int .i64 b.1.D),.v (.int .i64 b.1.C.a0),.v (.int .i64 b.1.C.a1),.v (.int .i64 b.1.C.a2),.v (.int .i64 b.1.C.a3)]]=enc (m++([(⟨c.To,b.1⟩:ax)]:List ax)):=by exact (q2v m ([(⟨c.To,b.1⟩:ax)]:List ax)).symm
      simp only[go_sem,z,X];simp only[W];refine q8 c7 ?_;have A:[[.sl 3 (enc ([]:List a7)),.sl 3 (enc ([]:List a7))]]=enc ([(⟨([]:List a7),([]:List a7)⟩:aP (List a7))]:List (aP (List a7))):=by rfl
      have s:=A;simp only[q0w]at s;obtain⟨B,h⟩:=q07 h;have F:=Xf F B;simp only[Xa,Xb,Xe,Xr]at B;have Y:enc n++[[.sl 3 (enc ([]:List a7)),.sl 3 (enc ([]:List a7))]]=enc (n++([(⟨([]:List a7),([]:List a7)⟩:aP (List a7))]:List (aP (List a7)))):=by exact (q2v n ([(⟨([]:List a7),([]:List a7)⟩:aP (List a7))]:List (aP (List a7)))).symm
      simp only[go_sem,B,Y];simp only[s,A];exact au
     exact au
    rintro⟨t,q,l⟩ h
    try dsimp only at h
    rw[q0g]at h;refine q00 ?_;refine jy5 ?_;obtain⟨E,F,h⟩:=bI F h;obtain⟨F,h⟩:=bG F h;obtain⟨Z,b6,h⟩:=z8 h;obtain⟨O,G,H,j⟩:=q4i (f:=(λy=>AV.sl 3 (enc y))) [] [] b6;simp only[Xi,Xk,Xl,Xn,Xp,Xa,Xb,Xe,Xg,q0w]at G H j;obtain⟨P,a6,h⟩:=z8 h;simp only[go_sem,O,G,H,j,F];refine Xf (by first|omega|(intros;simp_all;done)) ?_;refine Xf (by first|omega|(intros;simp_all;done)) ?_;refine Xf (by first|omega|(intros;simp_all;done)) ?_;simp only[Xd,Xh,j,Xm,Xj,true_and];simp only[go_sem,O,G,H,j,Xd,Xh,j,Xm,Xj,true_and,F];refine bx (λ_=>(qk2 Z e P a6)) (by rfl) (by rfl) ?_;obtain⟨F,h⟩:=bG F h;obtain⟨o,ao,h⟩:=z8 h;obtain⟨p,ar,h⟩:=z8 h;have I:=qs6 (f:=(λy=>AV.sl 3 (enc y))) [] [] [E.a0,E.a1] [o,p] (c.Port.toNat) P (by simp only[Xa,Xb];omega) (by simp only[Xu,Xw,Xe,Xg,Xc ao,Xc ar]);simp only[Xi,Xk,Xl,Xn,Xp,Xa,Xb,Xe,Xg,q4p,Xv,Xt,q0w]at I;have b0:=I;have b1:(enc l).set (t.toNat) [.sl 3 (enc o),.sl 3 (enc p)]=enc (Xs l (t.toNat) (⟨o,p⟩:aP (List a7))):=by exact q6w l (t.toNat) (⟨o,p⟩:aP (List a7))
    simp only[go_sem,b0,I,Xh,b1,F];refine ai ?_;refine ai ?_;refine q1f [some 12,some 13] [(0,.box [.osl 12 6 (0) (q.length),.osl 13 2 (0) (l.length),.sl 1 (enc a.g.ae),.sl 1 (enc a.g.aG),.sl 4 (enc a.g.al),.sl 4 (enc a.g.aw),.sl 1 (enc a.table),.osl 3 6 (0) (a.ay.aj.length),.osl 4 2 (0) (a.ay.in_.length),.v (.int .i64 J),.osl 5 8 (0) (a.aL.length),.osl 6 4 (0) (a.outs.length)]),(3,.arr 6 (enc a.ay.aj)),(4,.arr 2 (enc a.ay.in_)),(5,.arr 8 (enc a.aL)),(6,.arr 4 (enc a.outs)),(7,.box (Row.row d)),(8,.box (Row.row b.1)),(11,.box (Row.row c)),(12,.arr 6 (enc q)),(13,.arr 2 (enc (Xs l (t.toNat) (⟨o,p⟩:aP (List a7)))))] 14 (.tup []) ?_ ?_
    . exact leA
    refine q1v ?_;simp only[go_sem];exact au
   exact au
  exact au
 rintro⟨b3,M,N⟩ h
 try dsimp only at h
 rw[q0q]at h;exact au
def q8l(a:List ax)(b:Int)(c:Int):Option (List ax):=z2m a b c
theorem qy8:dy pp (zh2 72 0 0 0 3 4 52 60) 6 (.agg #[.int .i64 0,.int .i64 0,.int .i64 0,.int .i64 0,.int .i64 0,.int .i64 0]:Value):={mixed:=by kernel_rfl,t0:=Tryz.underlying0,a0:=Tryz.isAgg0,z0:=Tryz.sizeOf0,v0:=Tryz.zeroValue0,t3:=Tryz.underlying3,a3:=Tryz.isAgg3,z3:=Tryz.sizeOf3,v3:=Tryz.zeroValue3,t4:=Tryz.underlying4,a4:=Tryz.isAgg4,z4:=Tryz.sizeOf4,v4:=Tryz.zeroValue4,t24:=Tryz.underlying60,a24:=Tryz.isAgg60,z24:=Tryz.sizeOf60,v24:=Tryz.zeroValue60,z9:=Tryz.sizeOf52,v9:=Tryz.zeroValue52,i9:=zc3 (b:=48) (by kernel_rfl),f24:=⟨"slices.Delete[[]backwash/api.Point,backwash/api.Point]",by decide,by kernel_rfl⟩}
theorem qy9(a:List ax)(b:Int)(c:Int)(r:List ax)(h:q8l a b c=some r):bu pp 72 [.osl 0 6 0 (a.length),.v (.int .i64 b),.v (.int .i64 c)] [(0,.arr 6 (enc a))] 1 (.osl 1 6 0 (r.length)) [(1,.arr 6 (enc r))] 2:=
 z7b qy8 (by kernel_rfl) (by decide) (by rfl) (by rfl) (λ_=>rfl) h
def q8m(a:List (aP (List a7)))(b:Int)(c:Int):Option (List (aP (List a7))):=z2m a b c
theorem qz0:dy pp (zh2 73 0 0 0 3 4 103 61) 2 (.agg #[.slice none 0 0,.slice none 0 0]:Value):={mixed:=by kernel_rfl,t0:=Tryz.underlying0,a0:=Tryz.isAgg0,z0:=Tryz.sizeOf0,v0:=Tryz.zeroValue0,t3:=Tryz.underlying3,a3:=Tryz.isAgg3,z3:=Tryz.sizeOf3,v3:=Tryz.zeroValue3,t4:=Tryz.underlying4,a4:=Tryz.isAgg4,z4:=Tryz.sizeOf4,v4:=Tryz.zeroValue4,t24:=Tryz.underlying61,a24:=Tryz.isAgg61,z24:=Tryz.sizeOf61,v24:=Tryz.zeroValue61,z9:=Tryz.sizeOf103,v9:=Tryz.zeroValue103,i9:=zc3 (b:=48) (by kernel_rfl),f24:=⟨"slices.Delete[[][2][]backwash/api.Item,[2][]backwash/api.Item]",by decide,by kernel_rfl⟩}
theorem qz1(a:List (aP (List a7)))(b:Int)(c:Int)(r:List (aP (List a7)))(h:q8m a b c=some r):bu pp 73 [.osl 0 2 0 (a.length),.v (.int .i64 b),.v (.int .i64 c)] [(0,.arr 2 (enc a))] 1 (.osl 1 2 0 (r.length)) [(1,.arr 2 (enc r))] 2:=
 z7b qz0 (by kernel_rfl) (by decide) (by rfl) (by rfl) (λ_=>rfl) h
def q1a(c:aq)(f:ax)(b:Int×(List a7)->Option ((List a7)×aq)):Int×(List a7)->Option ((List a7)×aq):=
 λ(a,d)=>
 (if (decide (a<(c.ay.aj.length:Int)))=true then q9 (idx c.ay.aj a) (λe=>
 (if (e.Node==f.Node)=true then q9 (z0l e.Time f.Time) (λj=>
 (if j=true then q9 (idx c.ay.in_ a) (λg=>
 q9 (q31 d g.a0) (λk=>
 b (i64.wrap (a+1),k)))
 else b (i64.wrap (a+1),d)))
 else b (i64.wrap (a+1),d)))
 else some (d,c))
def q0h(a:aq)(b:ax):Option ((List a7)×aq):=
 q02 (q1a a b) rounds (0,[])
theorem q3h(a:aq)(c:ax)(r:(List a7)×aq)(h:q0h a c=some r):bu pp 38 [.ptr 0 0,.agg (Row.row c)] [(0,.box [.osl 1 6 (0) (a.aI.aj.length),.osl 2 2 (0) (a.aI.in_.length),.sl 1 (enc a.g.ae),.sl 1 (enc a.g.aG),.sl 4 (enc a.g.al),.sl 4 (enc a.g.aw),.sl 1 (enc a.table),.osl 3 6 (0) (a.ay.aj.length),.osl 4 2 (0) (a.ay.in_.length),.v (.int .i64 a.work),.osl 5 8 (0) (a.aL.length),.osl 6 4 (0) (a.outs.length)]),(1,.arr 6 (enc a.aI.aj)),(2,.arr 2 (enc a.aI.in_)),(3,.arr 6 (enc a.ay.aj)),(4,.arr 2 (enc a.ay.in_)),(5,.arr 8 (enc a.aL)),(6,.arr 4 (enc a.outs))] 7 (.osl 7 3 (0) (r.1.length)) [(0,.box [.osl 8 6 (0) (r.2.aI.aj.length),.osl 9 2 (0) (r.2.aI.in_.length),.sl 1 (enc r.2.g.ae),.sl 1 (enc r.2.g.aG),.sl 4 (enc r.2.g.al),.sl 4 (enc r.2.g.aw),.sl 1 (enc r.2.table),.osl 10 6 (0) (r.2.ay.aj.length),.osl 11 2 (0) (r.2.ay.in_.length),.v (.int .i64 r.2.work),.osl 12 8 (0) (r.2.aL.length),.osl 13 4 (0) (r.2.outs.length)]),(7,.arr 3 (enc r.1)),(8,.arr 6 (enc r.2.aI.aj)),(9,.arr 2 (enc r.2.aI.in_)),(10,.arr 6 (enc r.2.ay.aj)),(11,.arr 2 (enc r.2.ay.in_)),(12,.arr 8 (enc r.2.aL)),(13,.arr 4 (enc r.2.outs))] 14:=by
 refine dtI Tryz.func38 rfl ?_;rw[q0h]at h;have F:=trivial;refine sM ?_;refine sM ?_;refine jg λ_ t=>?_;refine sM ?_;refine w9 λ_ u=>?_;refine q0e h [0,3,12,13] (λx=>([(5,.osl 8 3 (0) (x.2.length)),(14,.v (.int .i64 x.1))],[(0,.box [.osl 1 6 (0) (a.aI.aj.length),.osl 2 2 (0) (a.aI.in_.length),.sl 1 (enc a.g.ae),.sl 1 (enc a.g.aG),.sl 4 (enc a.g.al),.sl 4 (enc a.g.aw),.sl 1 (enc a.table),.osl 3 6 (0) (a.ay.aj.length),.osl 4 2 (0) (a.ay.in_.length),.v (.int .i64 a.work),.osl 5 8 (0) (a.aL.length),.osl 6 4 (0) (a.outs.length)]),(1,.arr 6 (enc a.aI.aj)),(2,.arr 2 (enc a.aI.in_)),(3,.arr 6 (enc a.ay.aj)),(4,.arr 2 (enc a.ay.in_)),(5,.arr 8 (enc a.aL)),(6,.arr 4 (enc a.outs)),(7,.box (Row.row c)),(8,.arr 3 (enc x.2))])) 9 ?_;rintro o ⟨k,f⟩ h _ w;rw[q1a]at h;refine sM ?_;refine sg λ_ p=>?_;refine sB h (λ_ h=>?_) λ_ h=>?_
 .
  refine y5 (q8 p (jg λ_ y=>?_));refine w9 λ_ q=>?_;refine sg λ_ l=>?_;obtain⟨d,F,h⟩:=bI F h;simp only[go_sem,F];refine ai ?_;refine q8 l (sg λ_ m=>?_);simp only[go_sem];rcases b:(d.Node==c.Node)with _|_
  . replace h:=q2s h b;simp only[go_sem,b];exact au
  replace h:=q2r h b;simp only[go_sem,b];refine q2b h λs h=>?_;simp only[go_sem];refine q8 m (sB h (λ_ h=>?_) λ_ h=>?_)
  . obtain⟨e,F,h⟩:=bI F h;obtain⟨n,j,h⟩:=z8 h;simp only[go_sem,F];refine ai ?_;refine qe1 [0,3,12,13,14,26,27,28,29] ([(5,.sl 3 (enc f)),(25,.ptr 8 1)],[(0,.box [.osl 1 6 (0) (a.aI.aj.length),.osl 2 2 (0) (a.aI.in_.length),.sl 1 (enc a.g.ae),.sl 1 (enc a.g.aG),.sl 4 (enc a.g.al),.sl 4 (enc a.g.aw),.sl 1 (enc a.table),.osl 3 6 (0) (a.ay.aj.length),.osl 4 2 (0) (a.ay.in_.length),.v (.int .i64 a.work),.osl 5 8 (0) (a.aL.length),.osl 6 4 (0) (a.outs.length)]),(1,.arr 6 (enc a.aI.aj)),(2,.arr 2 (enc a.aI.in_)),(3,.arr 6 (enc a.ay.aj)),(4,.arr 2 (enc a.ay.in_)),(5,.arr 8 (enc a.aL)),(6,.arr 4 (enc a.outs)),(7,.box (Row.row c)),(8,.box (Row.row d))]) 9 [some 7,some 9] [.sl 3 (enc f),.sl 3 (enc e.a0)] ?_;refine q1l [] (qr0 f e.a0 n j) ?_;simp only[go_sem];exact au
  exact au
 exact au
def q0a(b:ax)(d:aP (List a7))(c:List (List a7))(f:List Int)(j:List Int)(e:List aN)(k:List aU)(l:List (List (List aH)))(m:Int)(n:List ax)(o:List (aP (List a7)))(p:List ax)(q:List (aP (List a7)))(s:List bn)(t:List aB):Option (Bool×aq):=
 q9 (idx e b.Node) (λu=>
 q9 (q70 u c) (λw=>
 (if (!w.2)=true then some (false,(⟨(⟨n,o⟩:aM),(⟨f,j,e,k⟩:aa),l,(⟨p,q⟩:aM),m,s,t⟩:aq))
 else q9 (q7u d.a0) (λy=>
 q9 (q7u d.a1) (λz=>
 q9 (q10 (⟨(⟨n,o⟩:aM),(⟨f,j,e,k⟩:aa),l,(⟨p,q⟩:aM),m,s,t⟩:aq) b w.1) (λa=>
 x9 ((a.2.aL.length+Xq ([(⟨b,i64.wrap (y+z),a.1⟩:bn)]:List bn))*64<=140737488355328) (
 some (true,(⟨a.2.aI,a.2.g,a.2.table,a.2.ay,a.2.work,(a.2.aL++([(⟨b,i64.wrap (y+z),a.1⟩:bn)]:List bn)),a.2.outs⟩:aq)))))))))
def q0r(b:aq)(d:ax)(c:aP (List a7))(l:List ax)(m:List (aP (List a7)))(f:Int)(n:List ax)(j:List (aP (List a7))):Option (Bool×aq):=
 q9 (idx j f) (λe=>
 q9 (q31 e.a0 c.a0) (λk=>
 q9 (q0h (⟨(⟨l,m⟩:aM),b.g,b.table,(⟨n,(Xs j (f.toNat) (⟨k,e.a1⟩:aP (List a7)))⟩:aM),b.work,b.aL,b.outs⟩:aq) d) (λa=>
 q0a d c ([c.a0,a.1]:List (List a7)) a.2.g.ae a.2.g.aG a.2.g.al a.2.g.aw a.2.table a.2.work a.2.aI.aj a.2.aI.in_ a.2.ay.aj a.2.ay.in_ a.2.aL a.2.outs)))
def q15(a:aq)(e:Int):Option (Bool×aq):=
 q9 (idx a.aI.aj e) (λc=>
 q9 (idx a.aI.in_ e) (λd=>
 q9 (q8l a.aI.aj e (i64.wrap (e+1))) (λf=>
 q9 (q8m a.aI.in_ e (i64.wrap (e+1))) (λ(j:List (aP (List a7)))=>
 x9 (0<=0/\0<=2/\2<=2) (
 q9 (idx a.g.al c.Node) (λl=>
 (if (l.Kind==14)=true then (if ((d.a0.length:Int)==0)=true then q9 (q0h (⟨(⟨f,j⟩:aM),a.g,a.table,a.ay,a.work,a.aL,a.outs⟩:aq) c) (λb=>
 q0a c d ([d.a0,b.1]:List (List a7)) b.2.g.ae b.2.g.aG b.2.g.al b.2.g.aw b.2.table b.2.work b.2.aI.aj b.2.aI.in_ b.2.ay.aj b.2.ay.in_ b.2.aL b.2.outs)
 else q9 (q3l a.ay.aj c) (λk=>
 (if (decide (k<0))=true then x9 ((a.ay.aj.length+Xq ([c]:List ax))*48<=140737488355328) (
 x9 ((a.ay.in_.length+Xq ([(⟨([]:List a7),([]:List a7)⟩:aP (List a7))]:List (aP (List a7))))*48<=140737488355328) (
 q0r a c d f j (a.ay.aj.length:Int) (a.ay.aj++([c]:List ax)) (a.ay.in_++([(⟨([]:List a7),([]:List a7)⟩:aP (List a7))]:List (aP (List a7))))))
 else q0r a c d f j k a.ay.aj a.ay.in_)))
 else q0a c d ([d.a0,d.a1]:List (List a7)) a.g.ae a.g.aG a.g.al a.g.aw a.table a.work f j a.ay.aj a.ay.in_ a.aL a.outs)))))))
theorem q7j(a:aq)(B:Int)(r:Bool×aq)(h:q15 a B=some r):bu pp 14 [.ptr 0 0,.v (.int .i64 B)] [(0,.box [.osl 1 6 (0) (a.aI.aj.length),.osl 2 2 (0) (a.aI.in_.length),.sl 1 (enc a.g.ae),.sl 1 (enc a.g.aG),.sl 4 (enc a.g.al),.sl 4 (enc a.g.aw),.sl 1 (enc a.table),.osl 3 6 (0) (a.ay.aj.length),.osl 4 2 (0) (a.ay.in_.length),.v (.int .i64 a.work),.osl 5 8 (0) (a.aL.length),.osl 6 4 (0) (a.outs.length)]),(1,.arr 6 (enc a.aI.aj)),(2,.arr 2 (enc a.aI.in_)),(3,.arr 6 (enc a.ay.aj)),(4,.arr 2 (enc a.ay.in_)),(5,.arr 8 (enc a.aL)),(6,.arr 4 (enc a.outs))] 7 (.v (.bool r.1)) [(0,.box [.osl 7 6 (0) (r.2.aI.aj.length),.osl 8 2 (0) (r.2.aI.in_.length),.sl 1 (enc r.2.g.ae),.sl 1 (enc r.2.g.aG),.sl 4 (enc r.2.g.al),.sl 4 (enc r.2.g.aw),.sl 1 (enc r.2.table),.osl 9 6 (0) (r.2.ay.aj.length),.osl 10 2 (0) (r.2.ay.in_.length),.v (.int .i64 r.2.work),.osl 11 8 (0) (r.2.aL.length),.osl 12 4 (0) (r.2.outs.length)]),(7,.arr 6 (enc r.2.aI.aj)),(8,.arr 2 (enc r.2.aI.in_)),(9,.arr 6 (enc r.2.ay.aj)),(10,.arr 2 (enc r.2.ay.in_)),(11,.arr 8 (enc r.2.aL)),(12,.arr 4 (enc r.2.outs))] 13:=by
 unfold bu;refine Spec.eB Tryz.func14 rfl (by kernel_rfl) (by kernel_rfl) ?_;rw[q15]at h;refine sg λ_ Q1=>?_;simp only[go_sem];refine q8 Q1 (sg λ_ Q2=>?_);obtain⟨c,cp,h⟩:=z8 h;obtain⟨cs,cz,d0⟩:=q8i cp;simp only[go_sem,cs,cz,d0];refine Xf (by omega) ?_;refine q8 Q2 (sg λ_ Q3=>?_);simp only[go_sem];refine q5o Tryz.func37 rfl (by kernel_rfl) (by kernel_rfl) ?_;refine sg λ_ Q4=>?_;simp only[go_sem];refine q8 Q4 (sg λ_ Q5=>?_);obtain⟨d,d1,h⟩:=z8 h;obtain⟨d2,d3,d4⟩:=q8i d1;simp only[go_sem,d2,d3,d4];refine Xf (by omega) ?_;refine q8 Q5 (sg λ_ Q6=>?_);obtain⟨k,b5,h⟩:=z8 h;simp only[go_sem];refine q5t [1] (qy9 a.aI.aj B (i64.wrap (B+1)) k b5) (by simp) rfl ⟨rfl,trivial⟩ rfl rfl rfl rfl ?_;simp only[go_sem];refine q8 Q6 (sg λ_ Q7=>?_);obtain⟨m,b6,h⟩:=z8 h;simp only[go_sem];refine q5t [2] (qz1 a.aI.in_ B (i64.wrap (B+1)) m b6) (by simp) rfl ⟨rfl,trivial⟩ rfl rfl rfl rfl ?_;simp only[go_sem];refine q8 Q7 (sg λ_ Q8=>?_);simp only[go_sem];refine q8 Q8 (q04 ?_);simp only[go_sem]
 refine q1f [some 8,some 9,some 10,some 11] [(0,.box [.osl 10 6 (0) (k.length),.osl 11 2 (0) (m.length),.sl 1 (enc a.g.ae),.sl 1 (enc a.g.aG),.sl 4 (enc a.g.al),.sl 4 (enc a.g.aw),.sl 1 (enc a.table),.osl 3 6 (0) (a.ay.aj.length),.osl 4 2 (0) (a.ay.in_.length),.v (.int .i64 a.work),.osl 5 8 (0) (a.aL.length),.osl 6 4 (0) (a.outs.length)]),(3,.arr 6 (enc a.ay.aj)),(4,.arr 2 (enc a.ay.in_)),(5,.arr 8 (enc a.aL)),(6,.arr 4 (enc a.outs)),(7,.box [.v (.int .i64 c.Node),.v (.int .i64 c.Time.D),.v (.int .i64 c.Time.C.a0),.v (.int .i64 c.Time.C.a1),.v (.int .i64 c.Time.C.a2),.v (.int .i64 c.Time.C.a3)]),(8,.box [.sl 3 (enc d.a0),.sl 3 (enc d.a1)]),(9,.box [.sl 3 (enc d.a0),.sl 3 (enc d.a1)]),(10,.arr 6 (enc k)),(11,.arr 2 (enc m))] 12 (.agg [.sl 3 (enc d.a0),.sl 3 (enc d.a1)]) ?_ ?_
 . simp only[go_sem,Le]<;>(repeat' apply Xf)<;>(try with_reducible refine q03 ?_)<;>first|omega|(simp[go_sem];done)
 refine q1v ?_;simp only[go_sem];refine q8 Q3 (sg λ_ Q9=>?_);obtain⟨d5,h⟩:=q07 h;simp only[go_sem,d5];refine q8 Q9 (z5f (by kernel_rfl) ?_);refine z4r (ι:=(List (List a7))×(List Int)×(List Int)×(List aN)×(List aU)×(List (List (List aH)))×Int×(List ax)×(List (aP (List a7)))×(List ax)×(List (aP (List a7)))×(List bn)×(List aB)) (λ((j,N,O,P,Q,R,S,E,G,H,I,J,K):(List (List a7))×(List Int)×(List Int)×(List aN)×(List aU)×(List (List (List aH)))×Int×(List ax)×(List (aP (List a7)))×(List ax)×(List (aP (List a7)))×(List bn)×(List aB))=>(⟨7,[(0,.ptr 0 0),(5,.ptr 7 0),(6,.el 2 [[.sl 3 (enc d.a0),.sl 3 (enc d.a1)]] 0 0),(7,.sl 1 (enc j))],[(0,.box [.osl 8 6 (0) (E.length),.osl 9 2 (0) (G.length),.sl 1 (enc N),.sl 1 (enc O),.sl 4 (enc P),.sl 4 (enc Q),.sl 1 (enc R),.osl 10 6 (0) (H.length),.osl 11 2 (0) (I.length),.v (.int .i64 S),.osl 12 8 (0) (J.length),.osl 13 4 (0) (K.length)]),(7,.box [.v (.int .i64 c.Node),.v (.int .i64 c.Time.D),.v (.int .i64 c.Time.C.a0),.v (.int .i64 c.Time.C.a1),.v (.int .i64 c.Time.C.a2),.v (.int .i64 c.Time.C.a3)]),(8,.arr 6 (enc E)),(9,.arr 2 (enc G)),(10,.arr 6 (enc H)),(11,.arr 2 (enc I)),(12,.arr 8 (enc J)),(13,.arr 4 (enc K))],14,89⟩:St)) (λ((j,N,O,P,Q,R,S,E,G,H,I,J,K):(List (List a7))×(List Int)×(List Int)×(List aN)×(List aU)×(List (List (List aH)))×Int×(List ax)×(List (aP (List a7)))×(List ax)×(List (aP (List a7)))×(List bn)×(List aB))=>q0a c d j N O P Q R S E G H I J K=some r) ?_ ?_
 .
  intro _ W;refine sg λ_ d6=>?_;refine q00 ?_;refine jy5 ?_;obtain⟨bc,d7,h⟩:=z8 h;obtain⟨d8,dc,dd⟩:=q8i d7;simp only[go_sem,d8,dc,dd];refine Xf (by omega) ?_;refine q8 d6 ?_;refine qg3 (b:=(bc.Kind==14)) (by (simp only[go_sem];done)) (λt=>?_) (λt=>?_)
  .
   replace h:=q2r h t;simp only[bool_to_prop]at t;refine sg λ_ bi=>?_;refine q00 ?_;refine jy5 ?_;simp only[go_sem];refine q5o Tryz.func12 rfl (by kernel_rfl) (by kernel_rfl) ?_;refine sg λ_ dk=>?_;simp only[go_sem];refine q8 dk (sg λ_ bk=>?_);refine sg λ_ ds=>?_;simp only[go_sem];refine q8 ds ?_;refine qg3 (b:=((d.a0.length:Int)==0)) (by (simp only[go_sem];done)) (λu=>?_) (λu=>?_)
   .
    replace h:=q2r h u;simp only[bool_to_prop]at u;refine q04 (q18 bk ?_);simp only[go_sem];refine q1f [some 13] [(0,.box [.osl 10 6 (0) (k.length),.osl 11 2 (0) (m.length),.sl 1 (enc a.g.ae),.sl 1 (enc a.g.aG),.sl 4 (enc a.g.al),.sl 4 (enc a.g.aw),.sl 1 (enc a.table),.osl 3 6 (0) (a.ay.aj.length),.osl 4 2 (0) (a.ay.in_.length),.v (.int .i64 a.work),.osl 5 8 (0) (a.aL.length),.osl 6 4 (0) (a.outs.length)]),(3,.arr 6 (enc a.ay.aj)),(4,.arr 2 (enc a.ay.in_)),(5,.arr 8 (enc a.aL)),(6,.arr 4 (enc a.outs)),(7,.box [.v (.int .i64 c.Node),.v (.int .i64 c.Time.D),.v (.int .i64 c.Time.C.a0),.v (.int .i64 c.Time.C.a1),.v (.int .i64 c.Time.C.a2),.v (.int .i64 c.Time.C.a3)]),(8,.box [.sl 3 (enc d.a0),.sl 3 (enc d.a1)]),(9,.box [.sl 3 (enc d.a0),.sl 3 (enc d.a1)]),(10,.arr 6 (enc k)),(11,.arr 2 (enc m)),(12,.box [.sl 3 (enc d.a0),.sl 3 (enc d.a1)]),(13,.box [.v (.int .i64 c.Node),.v (.int .i64 c.Time.D),.v (.int .i64 c.Time.C.a0),.v (.int .i64 c.Time.C.a1),.v (.int .i64 c.Time.C.a2),.v (.int .i64 c.Time.C.a3)])] 14 (.tup []) ?_ ?_
    . simp only[go_sem,Le]<;>(repeat' apply Xf)<;>(try with_reducible refine q03 ?_)<;>first|omega|(simp[go_sem];done)
    refine q1v ?_;simp only[go_sem];refine q8 bi (q00 ?_);refine q1r 5 0 0 [0,1,0,0,12,31,63] [0,3,4,5,6,10,11,14,15,16,17,18,19,20] [0,1] [] [4] [] mixed (by kernel_rfl) (of_decide_eq_true (by kernel_rfl)) (by kernel_rfl) (by kernel_rfl) (by rfl) ?_;obtain⟨e,X,h⟩:=z8 h;simp only[go_sem];refine qx4 [0,10,11,3,4,5,6] (q3h (⟨(⟨k,m⟩:aM),a.g,a.table,a.ay,a.work,a.aL,a.outs⟩:aq) c e X) rfl ⟨rfl,⟨rfl,⟨rfl,⟨rfl,⟨rfl,⟨rfl,⟨rfl,trivial⟩⟩⟩⟩⟩⟩⟩ rfl rfl rfl rfl ?_;have dT:[[.sl 3 (enc d.a0)],[.sl 3 (enc e.1)]]=enc ([d.a0,e.1]:List (List a7)):=by rfl
    simp only[go_sem];refine u6 W (⟨(([d.a0,e.1]:List (List a7)),e.2.g.ae,e.2.g.aG,e.2.g.al,e.2.g.aw,e.2.table,e.2.work,e.2.aI.aj,e.2.aI.in_,e.2.ay.aj,e.2.ay.in_,e.2.aL,e.2.outs),[some 7,some 15,some 16,some 17,some 18,some 19,some 20],?_,h⟩);simp only[go_sem,Le]<;>(repeat' apply Xf)<;>(try with_reducible refine q03 ?_)<;>first|omega|(simp[go_sem];done)|((try with_reducible refine q03 ?_);(simp[go_sem,enc,q71];done))
   replace h:=q2s h u;simp only[bool_to_prop]at u;refine y5 (q8 bk (sg λ_ e0=>?_));refine q00 ?_;refine jy5 ?_;obtain⟨T,Y,h⟩:=z8 h;simp only[go_sem];refine jf1 (s':=(⟨13,[(0,.ptr 0 7),(2,.v (.int .i64 0)),(3,.sl 3 (enc d.a0)),(5,.ptr 13 0)],[(0,.box [.osl 10 6 (0) (k.length),.osl 11 2 (0) (m.length),.sl 1 (enc a.g.ae),.sl 1 (enc a.g.aG),.sl 4 (enc a.g.al),.sl 4 (enc a.g.aw),.sl 1 (enc a.table),.sl 6 (enc a.ay.aj),.osl 4 2 (0) (a.ay.in_.length),.v (.int .i64 a.work),.osl 5 8 (0) (a.aL.length),.osl 6 4 (0) (a.outs.length)]),(4,.arr 2 (enc a.ay.in_)),(5,.arr 8 (enc a.aL)),(6,.arr 4 (enc a.outs)),(7,.box [.v (.int .i64 c.Node),.v (.int .i64 c.Time.D),.v (.int .i64 c.Time.C.a0),.v (.int .i64 c.Time.C.a1),.v (.int .i64 c.Time.C.a2),.v (.int .i64 c.Time.C.a3)]),(8,.box [.sl 3 (enc d.a0),.sl 3 (enc d.a1)]),(9,.box [.sl 3 (enc d.a0),.sl 3 (enc d.a1)]),(10,.arr 6 (enc k)),(11,.arr 2 (enc m)),(12,.box [.sl 3 (enc d.a0),.sl 3 (enc d.a1)]),(13,.box [.v (.int .i64 c.Node),.v (.int .i64 c.Time.D),.v (.int .i64 c.Time.C.a0),.v (.int .i64 c.Time.C.a1),.v (.int .i64 c.Time.C.a2),.v (.int .i64 c.Time.C.a3)])],14,64⟩:St)) (l:=[some 13]) (args':=[.sl 6 (enc a.ay.aj),.agg [.v (.int .i64 c.Node),.v (.int .i64 c.Time.D),.v (.int .i64 c.Time.C.a0),.v (.int .i64 c.Time.C.a1),.v (.int .i64 c.Time.C.a2),.v (.int .i64 c.Time.C.a3)]]) ?_ ?_ (q9u a.ay.aj c T Y) (by rfl) (by rfl) ?_
   . simp only[go_sem,Le]<;>(repeat' apply Xf)<;>(try with_reducible refine q03 ?_)<;>first|omega|(simp[go_sem];done)
   . simp only[go_sem,Le]<;>(repeat' apply Xf)<;>((try with_reducible refine q03 ?_);(simp[go_sem];done))
   simp only[go_sem];refine q8 e0 (z5f (by kernel_rfl) ?_);refine z4r (ι:=Int×(List ax)×(List (aP (List a7)))) (λ((q,w,n):Int×(List ax)×(List (aP (List a7))))=>(⟨13,[(0,.ptr 0 7),(2,.v (.int .i64 0)),(3,.sl 3 (enc d.a0)),(8,.v (.int .i64 q))],[(0,.box [.osl 10 6 (0) (k.length),.osl 11 2 (0) (m.length),.sl 1 (enc a.g.ae),.sl 1 (enc a.g.aG),.sl 4 (enc a.g.al),.sl 4 (enc a.g.aw),.sl 1 (enc a.table),.osl 13 6 (0) (w.length),.osl 14 2 (0) (n.length),.v (.int .i64 a.work),.osl 5 8 (0) (a.aL.length),.osl 6 4 (0) (a.outs.length)]),(5,.arr 8 (enc a.aL)),(6,.arr 4 (enc a.outs)),(7,.box [.v (.int .i64 c.Node),.v (.int .i64 c.Time.D),.v (.int .i64 c.Time.C.a0),.v (.int .i64 c.Time.C.a1),.v (.int .i64 c.Time.C.a2),.v (.int .i64 c.Time.C.a3)]),(8,.box [.sl 3 (enc d.a0),.sl 3 (enc d.a1)]),(9,.box [.sl 3 (enc d.a0),.sl 3 (enc d.a1)]),(10,.arr 6 (enc k)),(11,.arr 2 (enc m)),(12,.box [.sl 3 (enc d.a0),.sl 3 (enc d.a1)]),(13,.arr 6 (enc w)),(14,.arr 2 (enc n))],15,64⟩:St)) (λ((q,w,n):Int×(List ax)×(List (aP (List a7))))=>q0r a c d k m q w n=some r) ?_ ?_
   .
    intro _ bs;refine sg λ_ e1=>?_;simp only[go_sem];refine q8 e1 ?_;refine qg3 (b:=(decide (T<0))) (by (simp only[go_sem];done)) (λy=>?_) (λy=>?_)
    .
     replace h:=q2r h y;simp only[bool_to_prop]at y;refine sg λ_ e2=>?_;simp only[go_sem];refine q8 e2 (sg λ_ e3=>?_);refine q00 ?_;refine q1r 8 0 0 [0,0,2,6,14,0,32,126,255,511,1023] [3,14] [0] [] [7] [] mixed (by kernel_rfl) (of_decide_eq_true (by kernel_rfl)) (by kernel_rfl) (by kernel_rfl) (by rfl) ?_;have Z:[[.v (.int .i64 c.Node),.v (.int .i64 c.Time.D),.v (.int .i64 c.Time.C.a0),.v (.int .i64 c.Time.C.a1),.v (.int .i64 c.Time.C.a2),.v (.int .i64 c.Time.C.a3)]]=enc ([c]:List ax):=by rfl
     obtain⟨bv,h⟩:=q07 h;simp only[Xa,Xb,Xe,Xr]at bv;have a6:enc a.ay.aj++[[.v (.int .i64 c.Node),.v (.int .i64 c.Time.D),.v (.int .i64 c.Time.C.a0),.v (.int .i64 c.Time.C.a1),.v (.int .i64 c.Time.C.a2),.v (.int .i64 c.Time.C.a3)]]=enc (a.ay.aj++([c]:List ax)):=by exact (q2v a.ay.aj ([c]:List ax)).symm
     simp only[go_sem,bv,a6];simp only[Z];refine q8 e3 ?_;have U:[[.sl 3 (enc ([]:List a7)),.sl 3 (enc ([]:List a7))]]=enc ([(⟨([]:List a7),([]:List a7)⟩:aP (List a7))]:List (aP (List a7))):=by rfl
     have A:=U;simp only[q0w]at A;obtain⟨c1,h⟩:=q07 h;simp only[Xa,Xb,Xe,Xr]at c1;have ao:enc a.ay.in_++[[.sl 3 (enc ([]:List a7)),.sl 3 (enc ([]:List a7))]]=enc (a.ay.in_++([(⟨([]:List a7),([]:List a7)⟩:aP (List a7))]:List (aP (List a7)))):=by exact (q2v a.ay.in_ ([(⟨([]:List a7),([]:List a7)⟩:aP (List a7))]:List (aP (List a7)))).symm
     simp only[go_sem,c1,ao];simp only[A,U];refine u6 bs (⟨((a.ay.aj.length:Int),(a.ay.aj++([c]:List ax)),(a.ay.in_++([(⟨([]:List a7),([]:List a7)⟩:aP (List a7))]:List (aP (List a7))))),[some 14,some 16],?_,h⟩);simp only[go_sem,Le]<;>(repeat' apply Xf)<;>first|((try with_reducible refine q03 ?_);assumption)|((try with_reducible refine q03 ?_);omega)|((try with_reducible refine q03 ?_);(simp[go_sem];done))
    replace h:=q2s h y;simp only[bool_to_prop]at y;refine y5 (u6 bs (⟨(T,a.ay.aj,a.ay.in_),[some 3,some 4],?_,h⟩));simp only[go_sem,Le]<;>(repeat' apply Xf)<;>(try with_reducible refine q03 ?_)<;>first|omega|(simp[go_sem];done)
   rintro⟨q,w,n⟩ h
   try dsimp only at h
   rw[q0r]at h;refine q00 ?_;refine jy5 ?_;obtain⟨o,e4,h⟩:=z8 h;obtain⟨c2,c4,c5⟩:=q8i e4;obtain⟨p,ar,h⟩:=z8 h;simp only[go_sem,c2,c4,c5];refine Xf (by omega) ?_;refine bx (λ_=>(qk2 o.a0 d.a0 p ar)) (by rfl) (by rfl) ?_;have b0:(enc n).set (q.toNat) [.sl 3 (enc p),.sl 3 (enc o.a1)]=enc (Xs n (q.toNat) (⟨p,o.a1⟩:aP (List a7))):=by exact q6w n (q.toNat) (⟨p,o.a1⟩:aP (List a7))
   simp only[go_sem,c2,c4,c5,b0];refine Xf (by omega) ?_;refine q1f [some 13,some 14] [(0,.box [.osl 10 6 (0) (k.length),.osl 11 2 (0) (m.length),.sl 1 (enc a.g.ae),.sl 1 (enc a.g.aG),.sl 4 (enc a.g.al),.sl 4 (enc a.g.aw),.sl 1 (enc a.table),.osl 13 6 (0) (w.length),.osl 14 2 (0) (n.length),.v (.int .i64 a.work),.osl 5 8 (0) (a.aL.length),.osl 6 4 (0) (a.outs.length)]),(5,.arr 8 (enc a.aL)),(6,.arr 4 (enc a.outs)),(7,.box [.v (.int .i64 c.Node),.v (.int .i64 c.Time.D),.v (.int .i64 c.Time.C.a0),.v (.int .i64 c.Time.C.a1),.v (.int .i64 c.Time.C.a2),.v (.int .i64 c.Time.C.a3)]),(8,.box [.sl 3 (enc d.a0),.sl 3 (enc d.a1)]),(9,.box [.sl 3 (enc d.a0),.sl 3 (enc d.a1)]),(10,.arr 6 (enc k)),(11,.arr 2 (enc m)),(12,.box [.sl 3 (enc d.a0),.sl 3 (enc d.a1)]),(13,.arr 6 (enc w)),(14,.arr 2 (enc (Xs n (q.toNat) (⟨p,o.a1⟩:aP (List a7)))))] 15 (.tup []) ?_ ?_
   . simp only[go_sem,Le]<;>(repeat' apply Xf)<;>(try with_reducible refine q03 ?_)<;>first|omega|(simp[go_sem];done)
   refine q1v ?_;simp only[go_sem];refine q8 bi (q00 ?_);refine q1r 5 0 0 [0,1,0,0,12,31,63] [0,5,6,10,11,13,14,15,16,17,18,19,20,21] [0,1] [] [4] [] mixed (by kernel_rfl) (of_decide_eq_true (by kernel_rfl)) (by kernel_rfl) (by kernel_rfl) (by rfl) ?_;obtain⟨f,b1,h⟩:=z8 h;simp only[go_sem];have V:=(q3h (⟨(⟨k,m⟩:aM),a.g,a.table,(⟨w,(Xs n (q.toNat) (⟨p,o.a1⟩:aP (List a7)))⟩:aM),a.work,a.aL,a.outs⟩:aq) c f b1);simp only[List.length_set]at V;refine qx4 [0,10,11,13,14,5,6] V rfl ⟨rfl,⟨rfl,⟨rfl,⟨rfl,⟨rfl,⟨rfl,⟨rfl,trivial⟩⟩⟩⟩⟩⟩⟩ rfl rfl rfl rfl ?_;have e5:[[.sl 3 (enc d.a0)],[.sl 3 (enc f.1)]]=enc ([d.a0,f.1]:List (List a7)):=by rfl
   simp only[go_sem];refine u6 W (⟨(([d.a0,f.1]:List (List a7)),f.2.g.ae,f.2.g.aG,f.2.g.al,f.2.g.aw,f.2.table,f.2.work,f.2.aI.aj,f.2.aI.in_,f.2.ay.aj,f.2.ay.in_,f.2.aL,f.2.outs),[some 7,some 16,some 17,some 18,some 19,some 20,some 21],?_,h⟩);simp only[go_sem,Le]<;>(repeat' apply Xf)<;>(try with_reducible refine q03 ?_)<;>first|omega|(simp[go_sem];done)|((try with_reducible refine q03 ?_);(simp[go_sem,enc,q71];done))
  replace h:=q2s h t;simp only[bool_to_prop]at t;refine y5 (u6 W (⟨(([d.a0,d.a1]:List (List a7)),a.g.ae,a.g.aG,a.g.al,a.g.aw,a.table,a.work,k,m,a.ay.aj,a.ay.in_,a.aL,a.outs),[some 7,some 10,some 11,some 3,some 4,some 5,some 6],?_,h⟩));simp only[go_sem,Le]<;>(repeat' apply Xf)<;>(try with_reducible refine q03 ?_)<;>first|omega|(simp[go_sem];done)|((try with_reducible refine q03 ?_);(exact⟨_,rfl,Nat.le_refl _,rfl,rfl⟩))
 rintro⟨j,N,O,P,Q,R,S,E,G,H,I,J,K⟩ h
 try dsimp only at h
 rw[q0a]at h;refine sg λ_ e6=>?_;refine q00 ?_;refine jy5 ?_;obtain⟨c6,ea,h⟩:=z8 h;obtain⟨eb,ef,ei⟩:=q8i ea;obtain⟨b2,c7,h⟩:=z8 h;simp only[go_sem,eb,ef,ei];refine Xf (by omega) ?_;refine bx (λ_=>(zm5 c6 j b2 c7)) (by rfl) (by rfl) ?_;simp only[go_sem];refine q8 e6 (sg λ_ c8=>?_);refine sg λ_ ek=>?_;simp only[go_sem];refine q8 ek ?_;refine qg3 (b:=(!b2.2)) (by (simp only[go_sem];done)) (λz=>?_) (λz=>?_)
 .
  replace h:=q2r h z;simp only[bool_to_prop]at z;refine sg λ_ eo=>?_;simp only[go_sem];refine q8 eo (q04 (q18 c8 ?_));simp only[go_sem];obtain rfl:=Xc h;refine q27 [some 8,some 9,some 10,some 11,some 12,some 13] ?_;simp only[go_sem,Le]<;>(repeat' apply Xf)<;>(try with_reducible refine q03 ?_)<;>first|omega|(simp[go_sem];done)
 replace h:=q2s h z;simp only[bool_to_prop]at z;refine y5 (q8 c8 (sg λ_ er=>?_));refine q00 ?_;refine q1r 10 0 0 [0,0,2,6,0,16,62,126,255,0,1023] [14] [0,1,2,3,4,5,6,7,8] [] [9] [] mixed (by kernel_rfl) (of_decide_eq_true (by kernel_rfl)) (by kernel_rfl) (by kernel_rfl) (by rfl) ?_;obtain⟨L,c9,h⟩:=z8 h;simp only[go_sem];refine bx (λ_=>(z5q d.a0 L c9)) (by rfl) (by rfl) ?_;obtain⟨M,cb,h⟩:=z8 h;simp only[go_sem];refine bx (λ_=>(z5q d.a1 M cb)) (by rfl) (by rfl) ?_;simp only[go_sem];refine q8 er (sg λ_ es=>?_);obtain⟨s,cc,h⟩:=z8 h;simp only[go_sem];refine q5t [0,8,9,10,11,12,13] (q7d (⟨(⟨E,G⟩:aM),(⟨N,O,P,Q⟩:aa),R,(⟨H,I⟩:aM),S,J,K⟩:aq) c b2.1 s cc) (by simp) rfl ⟨rfl,⟨rfl,⟨rfl,⟨rfl,⟨rfl,⟨rfl,⟨rfl,trivial⟩⟩⟩⟩⟩⟩⟩ rfl rfl rfl rfl ?_;simp only[go_sem];refine q8 es (sg λ_ et=>?_);refine q00 ?_;refine q1r 8 0 0 [0,0,2,6,14,0,32,126,255,511,1023] [19,21] [0] [] [7] [] mixed (by kernel_rfl) (of_decide_eq_true (by kernel_rfl)) (by kernel_rfl) (by kernel_rfl) (by rfl) ?_;have b3:[[.v (.int .i64 c.Node),.v (.int .i64 c.Time.D),.v (.int .i64 c.Time.C.a0),.v (.int .i64 c.Time.C.a1),.v (.int .i64 c.Time.C.a2),.v (.int .i64 c.Time.C.a3),.v (.int .i64 (i64.wrap (L+M))),.v (.int .i64 s.1)]]=enc ([(⟨c,i64.wrap (L+M),s.1⟩:bn)]:List bn):=by rfl
 obtain⟨cd,h⟩:=q07 h;simp only[Xa,Xb,Xe,Xr]at cd;have b4:enc s.2.aL++[[.v (.int .i64 c.Node),.v (.int .i64 c.Time.D),.v (.int .i64 c.Time.C.a0),.v (.int .i64 c.Time.C.a1),.v (.int .i64 c.Time.C.a2),.v (.int .i64 c.Time.C.a3),.v (.int .i64 (i64.wrap (L+M))),.v (.int .i64 s.1)]]=enc (s.2.aL++([(⟨c,i64.wrap (L+M),s.1⟩:bn)]:List bn)):=by exact (q2v s.2.aL ([(⟨c,i64.wrap (L+M),s.1⟩:bn)]:List bn)).symm
 simp only[go_sem,cd,b4];simp only[b3];refine q8 et (sg λ_ ex=>?_);simp only[go_sem];refine q8 ex (q04 ?_);simp only[go_sem];obtain rfl:=Xc h;refine q27 [some 15,some 16,some 17,some 18,some 21,some 20] ?_;simp only[go_sem,Le]<;>(repeat' apply Xf)<;>(try with_reducible refine q03 ?_)<;>first|omega|(simp[go_sem];done)
def qe9(a:aT)(b:aa):Option Bool:=
 (if ((decide (a.Node<0))||(decide ((b.al.length:Int)<=a.Node)))=true then some true
 else q9 (idx b.al a.Node) (λc=>
 some (((!(c.Kind==1))||(decide (a.aJ<0)))||(decide (1048576<a.aJ)))))
instance z9q(b:aT)(a:aa):Ct pp 27 (qe9 b a) [.agg (Row.row b),.el 4 [(Row.row a)] 0 0] λr=>(.v (.bool r)):=ctI Tryz.func27 rfl (by rw[qe9];exact au1)
def qn6(c:aa)(b:List aT)(a:Int):Option Bool:=
 q9 (q8j c) (λd=>
 (if (((!(d.1==0))||(decide (a<0)))||(decide (1048576<a)))=true then some false
 else q9 (q4r b (λe=>qe9 e c)) (λf=>
 some (!f))))
instance jd5(c:aa)(a:List aT)(b:Int):Ct pp 10 (qn6 c a b) [.agg (Row.row c),.sl 4 (enc a),.v (.int .i64 b)] λr=>(.v (.bool r)):=ctK Tryz.func10 rfl (by rw[qn6]) (by
 intro r h F;refine sM ?_;refine sg λ_ g=>?_;refine sg λ_ j=>?_;simp only[go_sem];refine q2b h λk h=>?_;simp only[go_sem];refine q8 j (sM ?_);refine sB h (λ_ h=>?_) λ_ h=>?_
 . exact au
 refine y5 (q8 g (sg λ_ o=>?_));obtain⟨e,d,h⟩:=z8 h;simp only[go_sem];refine qo8 (qe0 a (λf=>qe9 f c) 27 [.el 4 [(Row.row c)] 0 0] (by rfl) (by kernel_rfl) (λl m n=>z9q l c m n) e d) ?_;simp only[go_sem];exact au)
def q97(a:aB)(b:aB):Option Int:=
 q9 (q38 a.Node b.Node) (λc=>
 q9 (q38 a.aJ b.aJ) (λd=>
 q9 (qf4 ([c,d]:List Int)) (λe=>
 some e)))
instance zh9(b:aB)(c:aB):Ct pp 16 (q97 b c) [.agg (Row.row b),.agg (Row.row c)] λr=>(.v (.int .i64 r)):=ctK Tryz.func16 rfl (by rw[q97]) (by
 intro r h F;refine sM ?_;refine sg λ_ k=>?_;refine q00 ?_;refine jy5 ?_;obtain⟨a,e,h⟩:=z8 h;simp only[go_sem];refine bx (λ_=>(z6x b.Node c.Node a e)) (by rfl) (by rfl) ?_;simp only[go_sem];refine q2b h λd h=>?_;have f:[[.v (.int .i64 a)],[.v (.int .i64 d)]]=enc ([a,d]:List Int):=by rfl
 obtain⟨j,g,h⟩:=z8 h;simp only[go_sem];simp only[f];refine qo8 (z4h ([a,d]:List Int) j g) ?_;simp only[go_sem];exact au)
def qt7(f:List Int)(g:List Int)(j:List aN)(k:List aU)(l:List (List (List aH)))(m:Int)(n:List ax)(o:List (aP (List a7)))(p:List ax)(q:List (aP (List a7)))(c:List bn)(a:List aB):Option ((List bn)×(List aB)×Int):=
 q9 (q0o a (λd e=>q97 d e)) (λb=>
 x9 (b.length=a.length) (
 some (c,b,0)))
def qt9(c:Int)(t:Int×(List Int)×(List Int)×(List aN)×(List aU)×(List (List (List aH)))×Int×(List ax)×(List (aP (List a7)))×(List ax)×(List (aP (List a7)))×(List bn)×(List aB)->Option ((List bn)×(List aB)×Int)):Int×(List Int)×(List Int)×(List aN)×(List aU)×(List (List (List aH)))×Int×(List ax)×(List (aP (List a7)))×(List ax)×(List (aP (List a7)))×(List bn)×(List aB)->Option ((List bn)×(List aB)×Int):=
 λ(u,d,e,f,j,k,l,m,n,o,p,q,s)=>
 (if (decide (0<=u))=true then q9 (q15 (⟨(⟨m,n⟩:aM),(⟨d,e,f,j⟩:aa),k,(⟨o,p⟩:aM),l,q,s⟩:aq) u) (λb=>
 (if ((!b.1)||(decide (c<b.2.work)))=true then some (([]:List bn),([]:List aB),9)
 else q9 (q0j b.2) (λa=>
 t (a.1,a.2.g.ae,a.2.g.aG,a.2.g.al,a.2.g.aw,a.2.table,a.2.work,a.2.aI.aj,a.2.aI.in_,a.2.ay.aj,a.2.ay.in_,a.2.aL,a.2.outs))))
 else qt7 d e f j k l m n o p q s)
def qt8(e:aa)(b:Int)(f:List (List (List aH)))(c:List ax)(d:List (aP (List a7))):Option ((List bn)×(List aB)×Int):=
 q9 (q0j (⟨(⟨c,d⟩:aM),e,f,(⟨([]:List ax),([]:List (aP (List a7)))⟩:aM),0,([]:List bn),([]:List aB)⟩:aq)) (λa=>
 q02 (qt9 b) rounds (a.1,a.2.g.ae,a.2.g.aG,a.2.g.al,a.2.g.aw,a.2.table,a.2.work,a.2.aI.aj,a.2.aI.in_,a.2.ay.aj,a.2.ay.in_,a.2.aL,a.2.outs))
def qa2(c:Int)(d:(Int×(List ax)×(List (aP (List a7)))->Option ((List bn)×(List aB)×Int)))(e:aT)(f:Int)(g:List ax)(b:List (aP (List a7))):Option ((List bn)×(List aB)×Int):=
 q9 (idx b f) (λa=>
 q9 (q31 a.a0 ([(⟨e.Rec,1⟩:a7)]:List a7)) (λj=>
 d (i64.wrap (c+1),g,(Xs b (f.toNat) (⟨j,a.a1⟩:aP (List a7))))))
def qi7(k:aa)(d:List aT)(g:Int)(l:List (List (List aH)))(f:Int×(List ax)×(List (aP (List a7)))->Option ((List bn)×(List aB)×Int)):Int×(List ax)×(List (aP (List a7)))->Option ((List bn)×(List aB)×Int):=
 λ(b,c,e)=>
 (if (decide (b<(d.length:Int)))=true then q9 (idx d b) (λa=>
 (if ((Xq ([(⟨a.Rec,1⟩:a7)]:List a7):Int)==0)=true then f (i64.wrap (b+1),c,e)
 else q9 (q3l c (⟨a.Node,(⟨1,(⟨a.aJ,0,0,0⟩:bq Int)⟩:af)⟩:ax)) (λj=>
 (if (decide (j<0))=true then x9 ((c.length+Xq ([(⟨a.Node,(⟨1,(⟨a.aJ,0,0,0⟩:bq Int)⟩:af)⟩:ax)]:List ax))*48<=140737488355328) (
 x9 ((e.length+Xq ([(⟨([]:List a7),([]:List a7)⟩:aP (List a7))]:List (aP (List a7))))*48<=140737488355328) (
 qa2 b f a (c.length:Int) (c++([(⟨a.Node,(⟨1,(⟨a.aJ,0,0,0⟩:bq Int)⟩:af)⟩:ax)]:List ax)) (e++([(⟨([]:List a7),([]:List a7)⟩:aP (List a7))]:List (aP (List a7))))))
 else qa2 b f a j c e))))
 else qt8 k g l c e)
def qb4(c:aa)(a:List aT)(b:Int):Option ((List bn)×(List aB)×Int):=
 q9 (qn6 c a b) (λd=>
 (if (!d)=true then some (([]:List bn),([]:List aB),1)
 else q9 (qa6 c) (λ(e:List (List (List aH)))=>
 q02 (qi7 c a b e) rounds (0,[],[]))))
theorem z5r(b:aa)(d:List aT)(c:Int)(r:(List bn)×(List aB)×Int)(h:qb4 b d c=some r):bu pp 6 [.agg (Row.row b),.sl 4 (enc d),.v (.int .i64 c)] [] 0 (.tup [.osl 0 8 (0) (r.1.length),.osl 1 4 (0) (r.2.1.length),.v (.int .i64 r.2.2)]) [(0,.arr 8 (enc r.1)),(1,.arr 4 (enc r.2.1))] 2:=by
 refine dtI Tryz.func6 rfl ?_;rw[qb4]at h;have F:=trivial;refine sM ?_;refine sg λ_ Q2=>?_;refine sg λ_ Q3=>?_;simp only[go_sem];refine q2b h λd2 h=>?_;simp only[go_sem];refine q8 Q3 (sB h (λ_ h=>?_) λ_ h=>?_)
 . exact au
 refine y5 (q8 Q2 (sg λ_ Q5=>?_));refine q00 ?_;refine jy5 ?_;obtain⟨g,bi,h⟩:=z8 h;simp only[go_sem];refine bx (λ_=>(zd2 b g bi)) (by rfl) (by rfl) ?_;simp only[go_sem];refine q8 Q5 (q3e (λ((k,l):(List ax)×(List (aP (List a7))))=>qt8 b c g k l=some r) [2] (λx=>([(9,.ptr 0 0)],[(0,.box [.osl 1 6 (0) (x.1.length),.osl 2 2 (0) (x.2.length),.sl 1 (enc b.ae),.sl 1 (enc b.aG),.sl 4 (enc b.al),.sl 4 (enc b.aw),.sl 1 (enc g),.v (.slice none 0 0),.v (.slice none 0 0),.v (.int .i64 0),.v (.slice none 0 0),.v (.slice none 0 0)]),(1,.arr 6 (enc x.1)),(2,.arr 2 (enc x.2))])) 3 ?_ ?_)
 .
  intro _ d3;refine sM ?_;refine w9 λ_ d4=>?_;refine q0e h [2,23,24] (λx=>([(9,.ptr 0 0),(25,.v (.int .i64 x.1))],[(0,.box [.osl 1 6 (0) (x.2.1.length),.osl 2 2 (0) (x.2.2.length),.sl 1 (enc b.ae),.sl 1 (enc b.aG),.sl 4 (enc b.al),.sl 4 (enc b.aw),.sl 1 (enc g),.v (.slice none 0 0),.v (.slice none 0 0),.v (.int .i64 0),.v (.slice none 0 0),.v (.slice none 0 0)]),(1,.arr 6 (enc x.2.1)),(2,.arr 2 (enc x.2.2))])) 3 ?_;rintro c5 ⟨Z,j,m⟩ h _ d5;rw[qi7]at h;refine sM ?_;refine sg λ_ c6=>?_;refine sB h (λ_ h=>?_) λ_ h=>?_
  .
   refine y5 (q8 c6 (sg λ_ d6=>?_));refine w9 λ_ d7=>?_;refine sg λ_ c7=>?_;obtain⟨a,F,h⟩:=bI F h;simp only[go_sem,F];refine ai ?_;refine q8 c7 (q00 ?_);refine jy5 ?_;have a6:[[.v (.int .i64 a.Rec.K),.v (.int .i64 a.Rec.V),.v (.int .i64 1)]]=enc ([(⟨a.Rec,1⟩:a7)]:List a7):=by rfl
   simp only[go_sem];simp only[a6];refine q5o Tryz.func12 rfl (by kernel_rfl) (by kernel_rfl) ?_;refine sM ?_;refine sg λ_ bk=>?_;refine sM ?_;refine sB h (λ_ h=>?_) λ_ h=>?_
   .
    refine q04 (q18 bk ?_);simp only[go_sem];refine q1f [some 4] [(0,.box [.osl 1 6 (0) (j.length),.osl 2 2 (0) (m.length),.sl 1 (enc b.ae),.sl 1 (enc b.aG),.sl 4 (enc b.al),.sl 4 (enc b.aw),.sl 1 (enc g),.v (.slice none 0 0),.v (.slice none 0 0),.v (.int .i64 0),.v (.slice none 0 0),.v (.slice none 0 0)]),(1,.arr 6 (enc j)),(2,.arr 2 (enc m)),(3,.box (Row.row a)),(4,.box [.v (.int .i64 a.Node),.v (.int .i64 1),.v (.int .i64 a.aJ),.v (.int .i64 0),.v (.int .i64 0),.v (.int .i64 0)])] 5 (.tup []) ?_ ?_
    . exact leA
    refine q1v ?_;simp only[go_sem];exact au
   refine y5 (q8 bk (sg λ_ c8=>?_));refine q00 ?_;refine jy5 ?_;obtain⟨bs,ao,h⟩:=z8 h;simp only[go_sem];refine qo8 (q9u j (⟨a.Node,(⟨1,(⟨a.aJ,0,0,0⟩:bq Int)⟩:af)⟩:ax) bs ao) ?_;simp only[go_sem];refine q8 c8 (q3e (λ((q,o,e):Int×(List ax)×(List (aP (List a7))))=>qa2 Z (q02 (qi7 b d c g) c5) a q o e=some r) [0,2,3] (λx=>([(8,.v (.int .i64 x.1))],[(0,.box [.osl 4 6 (0) (x.2.1.length),.osl 5 2 (0) (x.2.2.length),.sl 1 (enc b.ae),.sl 1 (enc b.aG),.sl 4 (enc b.al),.sl 4 (enc b.aw),.sl 1 (enc g),.v (.slice none 0 0),.v (.slice none 0 0),.v (.int .i64 0),.v (.slice none 0 0),.v (.slice none 0 0)]),(3,.box (Row.row a)),(4,.arr 6 (enc x.2.1)),(5,.arr 2 (enc x.2.2))])) 6 ?_ ?_)
   .
    intro _ d8;refine sM ?_;refine sB h (λ_ h=>?_) λ_ h=>?_
    .
     refine sM ?_;refine sg λ_ c9=>?_;refine q00 ?_;refine q1r 8 0 0 [0,0,2,6,14,0,32,126,255,511,1023] [1,5] [0] [] [7] [] mixed (by kernel_rfl) (of_decide_eq_true (by kernel_rfl)) (by kernel_rfl) (by kernel_rfl) (by rfl) ?_;have ar:[[.v (.int .i64 a.Node),.v (.int .i64 1),.v (.int .i64 a.aJ),.v (.int .i64 0),.v (.int .i64 0),.v (.int .i64 0)]]=enc ([(⟨a.Node,(⟨1,(⟨a.aJ,0,0,0⟩:bq Int)⟩:af)⟩:ax)]:List ax):=by rfl
     obtain⟨s,h⟩:=q07 h;have F:=Xf F s;simp only[Xa,Xb,Xe,Xr]at s;have b0:enc j++[[.v (.int .i64 a.Node),.v (.int .i64 1),.v (.int .i64 a.aJ),.v (.int .i64 0),.v (.int .i64 0),.v (.int .i64 0)]]=enc (j++([(⟨a.Node,(⟨1,(⟨a.aJ,0,0,0⟩:bq Int)⟩:af)⟩:ax)]:List ax)):=by exact (q2v j ([(⟨a.Node,(⟨1,(⟨a.aJ,0,0,0⟩:bq Int)⟩:af)⟩:ax)]:List ax)).symm
     simp only[go_sem,s,b0];simp only[ar];refine q8 c9 ?_;have t:[[.sl 3 (enc ([]:List a7)),.sl 3 (enc ([]:List a7))]]=enc ([(⟨([]:List a7),([]:List a7)⟩:aP (List a7))]:List (aP (List a7))):=by rfl
     have p:=t;simp only[q0w]at p;obtain⟨u,h⟩:=q07 h;have F:=Xf F u;simp only[Xa,Xb,Xe,Xr]at u;have b1:enc m++[[.sl 3 (enc ([]:List a7)),.sl 3 (enc ([]:List a7))]]=enc (m++([(⟨([]:List a7),([]:List a7)⟩:aP (List a7))]:List (aP (List a7)))):=by exact (q2v m ([(⟨([]:List a7),([]:List a7)⟩:aP (List a7))]:List (aP (List a7)))).symm
     simp only[go_sem,u,b1];simp only[p,t];exact au
    exact au
   rintro⟨q,o,e⟩ h
   try dsimp only at h
   rw[qa2]at h;refine q00 ?_;refine jy5 ?_;obtain⟨f,F,h⟩:=bI F h;obtain⟨n,b2,h⟩:=z8 h;simp only[go_sem,F];refine ai ?_;refine bx (λ_=>(qk2 f.a0 ([(⟨a.Rec,1⟩:a7)]:List a7) n b2)) (by rfl) (by rfl) ?_;have b3:(enc e).set (q.toNat) [.sl 3 (enc n),.sl 3 (enc f.a1)]=enc (Xs e (q.toNat) (⟨n,f.a1⟩:aP (List a7))):=by exact q6w e (q.toNat) (⟨n,f.a1⟩:aP (List a7))
   simp only[go_sem,b3,F];refine ai ?_;refine q1f [some 4,some 5] [(0,.box [.osl 4 6 (0) (o.length),.osl 5 2 (0) (e.length),.sl 1 (enc b.ae),.sl 1 (enc b.aG),.sl 4 (enc b.al),.sl 4 (enc b.aw),.sl 1 (enc g),.v (.slice none 0 0),.v (.slice none 0 0),.v (.int .i64 0),.v (.slice none 0 0),.v (.slice none 0 0)]),(3,.box (Row.row a)),(4,.arr 6 (enc o)),(5,.arr 2 (enc (Xs e (q.toNat) (⟨n,f.a1⟩:aP (List a7)))))] 6 (.tup []) ?_ ?_
   . exact leA
   refine q1v ?_;simp only[go_sem];exact au
  exact au
 rintro⟨k,l⟩ h
 try dsimp only at h
 rw[qt8]at h;refine q3e (λ((y,z,A,B,C,D,E,G,H,I,J,w):(List Int)×(List Int)×(List aN)×(List aU)×(List (List (List aH)))×Int×(List ax)×(List (aP (List a7)))×(List ax)×(List (aP (List a7)))×(List bn)×(List aB))=>qt7 y z A B C D E G H I J w=some r) [9] (λx=>([],[(0,.box [.osl 1 6 (0) (x.2.2.2.2.2.2.1.length),.osl 2 2 (0) (x.2.2.2.2.2.2.2.1.length),.sl 1 (enc x.1),.sl 1 (enc x.2.1),.sl 4 (enc x.2.2.1),.sl 4 (enc x.2.2.2.1),.sl 1 (enc x.2.2.2.2.1),.osl 3 6 (0) (x.2.2.2.2.2.2.2.2.1.length),.osl 4 2 (0) (x.2.2.2.2.2.2.2.2.2.1.length),.v (.int .i64 x.2.2.2.2.2.1),.osl 5 8 (0) (x.2.2.2.2.2.2.2.2.2.2.1.length),.osl 6 4 (0) (x.2.2.2.2.2.2.2.2.2.2.2.length)]),(1,.arr 6 (enc x.2.2.2.2.2.2.1)),(2,.arr 2 (enc x.2.2.2.2.2.2.2.1)),(3,.arr 6 (enc x.2.2.2.2.2.2.2.2.1)),(4,.arr 2 (enc x.2.2.2.2.2.2.2.2.2.1)),(5,.arr 8 (enc x.2.2.2.2.2.2.2.2.2.2.1)),(6,.arr 4 (enc x.2.2.2.2.2.2.2.2.2.2.2))])) 7 ?_ ?_
 .
  intro _ Q8;refine sg λ_ Q9=>?_;obtain⟨bv,b4,h⟩:=z8 h;simp only[go_sem];refine qe1 [2,9] ([],[(0,.box [.osl 1 6 (0) (k.length),.osl 2 2 (0) (l.length),.sl 1 (enc b.ae),.sl 1 (enc b.aG),.sl 4 (enc b.al),.sl 4 (enc b.aw),.sl 1 (enc g),.osl 3 6 (0) (Xq ([]:List ax)),.osl 4 2 (0) (Xq ([]:List (aP (List a7)))),.v (.int .i64 0),.osl 5 8 (0) (Xq ([]:List bn)),.osl 6 4 (0) (Xq ([]:List aB))]),(1,.arr 6 (enc k)),(2,.arr 2 (enc l)),(3,.arr 6 (enc ([]:List ax))),(4,.arr 2 (enc ([]:List (aP (List a7))))),(5,.arr 8 (enc ([]:List bn))),(6,.arr 4 (enc ([]:List aB)))]) 7 [some 0,some 1,some 2,none,none,none,none] [.ptr 0 0] ?_;refine q1l [0,1,2,3,4,5,6] (q3t (⟨(⟨k,l⟩:aM),b,g,(⟨([]:List ax),([]:List (aP (List a7)))⟩:aM),0,([]:List bn),([]:List aB)⟩:aq) bv b4) ?_;simp only[go_sem];refine q8 Q9 (w9 λ_ cb=>?_);refine q0e h [2,9] (λx=>([(12,.v (.int .i64 x.1))],[(0,.box [.osl 1 6 (0) (x.2.2.2.2.2.2.2.1.length),.osl 2 2 (0) (x.2.2.2.2.2.2.2.2.1.length),.sl 1 (enc x.2.1),.sl 1 (enc x.2.2.1),.sl 4 (enc x.2.2.2.1),.sl 4 (enc x.2.2.2.2.1),.sl 1 (enc x.2.2.2.2.2.1),.osl 3 6 (0) (x.2.2.2.2.2.2.2.2.2.1.length),.osl 4 2 (0) (x.2.2.2.2.2.2.2.2.2.2.1.length),.v (.int .i64 x.2.2.2.2.2.2.1),.osl 5 8 (0) (x.2.2.2.2.2.2.2.2.2.2.2.1.length),.osl 6 4 (0) (x.2.2.2.2.2.2.2.2.2.2.2.2.length)]),(1,.arr 6 (enc x.2.2.2.2.2.2.2.1)),(2,.arr 2 (enc x.2.2.2.2.2.2.2.2.1)),(3,.arr 6 (enc x.2.2.2.2.2.2.2.2.2.1)),(4,.arr 2 (enc x.2.2.2.2.2.2.2.2.2.2.1)),(5,.arr 8 (enc x.2.2.2.2.2.2.2.2.2.2.2.1)),(6,.arr 4 (enc x.2.2.2.2.2.2.2.2.2.2.2.2))])) 7 ?_;rintro dc ⟨cc,L,M,N,O,P,Q,R,S,T,U,W,X⟩ h _ cd;rw[qt9]at h;refine sg λ_ c1=>?_;refine sM ?_
  refine sB h (λ_ h=>?_) λ_ h=>?_
  .
   refine y5 (q8 c1 (sg λ_ cp=>?_));refine w9 λ_ cs=>?_;refine sg λ_ cz=>?_;obtain⟨Y,b5,h⟩:=z8 h;simp only[go_sem];refine q1l [0,1,2,3,4,5,6] (q7j (⟨(⟨R,S⟩:aM),(⟨L,M,N,O⟩:aa),P,(⟨T,U⟩:aM),Q,W,X⟩:aq) cc Y b5) ?_;simp only[go_sem];refine q8 cz (sB h (λ_ h=>?_) λ_ h=>?_)
   . exact au
   refine y5 (q08 cs (q8 cp ?_));obtain⟨c2,b6,h⟩:=z8 h;simp only[go_sem];refine q1l [0,7,8,9,10,11,12] (q3t Y.2 c2 b6) ?_;simp only[go_sem];exact au
  refine q0u (q1w c1 (q0v cd (q0m cb (u6 Q8 (⟨(L,M,N,O,P,Q,R,S,T,U,W,X),[some 0,some 1,some 2,some 3,some 4,some 5,some 6],?_,h⟩)))));exact leA
 rintro⟨y,z,A,B,C,D,E,G,H,I,J,w⟩ h
 try dsimp only at h
 rw[qt7]at h;refine sg λ_ Q6=>?_;obtain⟨c4,bc,h⟩:=z8 h;simp only[go_sem];refine q1l [6] (q83 w (λd0 d1=>q97 d0 d1) 16 [] (by rfl) (by kernel_rfl) (λy0 y1 r_ e_=>zh9 y0 y1 r_ e_) c4 bc) ?_;obtain⟨F,h⟩:=bG F h;simp only[go_sem,F];exact au
def q8d:Option Bool:=
 q9 (qb4 (⟨([-1]:List Int),([0]:List Int),([(⟨1,0,0,([]:List cy)⟩:aN),(⟨15,0,0,([]:List cy)⟩:aN)]:List aN),([(⟨0,1,0,false⟩:aU)]:List aU)⟩:aa) ([(⟨0,3,(⟨1,0⟩:aR)⟩:aT)]:List aT) 9) (λa=>
 (if ((a.2.2==0)&&((a.1.length:Int)==2))=true then q9 (idx a.1 0) (λc=>
 (if (c.gj==1)=true then q9 (idx a.1 1) (λb=>
 (if (b.fY==1)=true then (if ((b.cW.Node==1)&&((a.2.1.length:Int)==1))=true then q9 (idx a.2.1 0) (λd=>
 some (d.aJ==3))
 else some false)
 else some false))
 else some false))
 else some false))
instance j0g:Ct pp 4 (q8d ) [] λr=>(.v (.bool r)):=ctK Tryz.func4 rfl (by rw[q8d]) (by
 intro r h F;refine sM ?_;refine sg λ_ k=>?_;have c:[[.v (.int .i64 (-1))]]=enc ([-1]:List Int):=by rfl
 have d:[[.v (.int .i64 0)]]=enc ([0]:List Int):=by rfl
 have b:[[.v (.int .i64 1),.v (.int .i64 0),.v (.int .i64 0),.sl 2 (enc ([]:List cy))],[.v (.int .i64 15),.v (.int .i64 0),.v (.int .i64 0),.sl 2 (enc ([]:List cy))]]=enc ([(⟨1,0,0,([]:List cy)⟩:aN),(⟨15,0,0,([]:List cy)⟩:aN)]:List aN):=by rfl
 have a:=b;simp only[q0w]at a;have e:[[.v (.int .i64 0),.v (.int .i64 1),.v (.int .i64 0),.v (.bool false)]]=enc ([(⟨0,1,0,false⟩:aU)]:List aU):=by rfl
 simp only[go_sem];simp only[c,d,a,b,e];refine q8 k (sg λ_ l=>?_);have f:[[.v (.int .i64 0),.v (.int .i64 3),.v (.int .i64 1),.v (.int .i64 0)]]=enc ([(⟨0,3,(⟨1,0⟩:aR)⟩:aT)]:List aT):=by rfl
 obtain⟨j,g,h⟩:=z8 h;simp only[go_sem];simp only[f];refine qe1 [] ([],[(0,.box [.sl 1 (enc ([-1]:List Int)),.sl 1 (enc ([0]:List Int)),.sl 4 (enc ([(⟨1,0,0,([]:List cy)⟩:aN),(⟨15,0,0,([]:List cy)⟩:aN)]:List aN)),.sl 4 (enc ([(⟨0,1,0,false⟩:aU)]:List aU))])]) 1 [some 4] [.agg [.sl 1 (enc ([-1]:List Int)),.sl 1 (enc ([0]:List Int)),.sl 4 (enc ([(⟨1,0,0,([]:List cy)⟩:aN),(⟨15,0,0,([]:List cy)⟩:aN)]:List aN)),.sl 4 (enc ([(⟨0,1,0,false⟩:aU)]:List aU))],.sl 4 (enc ([(⟨0,3,(⟨1,0⟩:aR)⟩:aT)]:List aT)),.v (.int .i64 9)] ?_;refine q1l [] (z5r (⟨([-1]:List Int),([0]:List Int),([(⟨1,0,0,([]:List cy)⟩:aN),(⟨15,0,0,([]:List cy)⟩:aN)]:List aN),([(⟨0,1,0,false⟩:aU)]:List aU)⟩:aa) ([(⟨0,3,(⟨1,0⟩:aR)⟩:aT)]:List aT) 9 j g) ?_;simp only[go_sem];exact au)
def q6v(b:aa)(a:List aT):Option Bool:=
 q9 (q45 b) (λc=>
 some (c&&(decide ((a.length:Int)<=40))))
instance j0f(b:aa)(a:List aT):Ct pp 5 (q6v b a) [.agg (Row.row b),.sl 4 (enc a)] λr=>(.v (.bool r)):=ctI Tryz.func5 rfl (by rw[q6v];exact au1)
def q56(d:aa)(b:List aT)(a:Int):Option Bool:=
 q9 (q8d) (λf=>
 (if (!f)=true then some false
 else q9 (q6v d b) (λg=>
 (if ((!g)||((decide (400<a))&&(decide (a<=1048576))))=true then some true
 else q9 (qb4 d b a) (λc=>
 q9 (qh9 d b a) (λe=>
 (if (c.2.2==e.2)=true then q9 (q78 c.2.1 e.1) (λj=>
 some (j&&((c.2.2==0)||((c.1.length:Int)==0))))
 else some false)))))))
instance z0s(c:aa)(a:List aT)(b:Int):Ct pp 3 (q56 c a b) [.agg (Row.row c),.sl 4 (enc a),.v (.int .i64 b)] λr=>(.v (.bool r)):=ctK Tryz.func3 rfl (by rw[q56]) (by
 intro r h F;refine sM ?_;refine sg λ_ j=>?_;refine sg λ_ k=>?_;simp only[go_sem];refine q2b h λl h=>?_;simp only[go_sem];refine q8 k (sB h (λ_ h=>?_) λ_ h=>?_)
 . exact au
 refine y5 (q8 j (sg λ_ m=>?_));refine sg λ_ n=>?_;simp only[go_sem];refine q2b h λo h=>?_;simp only[go_sem];refine Xf (by (simp+contextual only[and_self,implies_true,true_and,and_true,imp_self];done)) ?_;refine q8 n (sB h (λ_ h=>?_) λ_ h=>?_)
 . exact au
 refine y5 (q8 m (sg λ_ p=>?_));obtain⟨f,d,h⟩:=z8 h;simp only[go_sem];refine q1l [] (z5r c a b f d) ?_;simp only[go_sem];refine q8 p (sg λ_ q=>?_);obtain⟨g,e,h⟩:=z8 h;simp only[go_sem];refine q1l [] (zm7 c a b g e) ?_;simp only[go_sem];exact au)
end Go.Proofs.YtdcdfkdhomekeaaGreat

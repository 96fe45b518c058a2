/-
  What functions of the program compute, each told as a plain function that may give nothing, with the proof that the code does so. No condition beyond those that each theorem names.
-/
import Derived.Test.YtdcdfkdhomekeaaGreatWalkWM0
import Derived.Test.YtdcdfkdhomekeaaGreatLibD
import Derived.Test.YtdcdfkdhomekeaaGreatLibE
set_option linter.unusedSimpArgs false
set_option linter.unusedVariables false
set_option linter.unusedSectionVars false
set_option maxHeartbeats 2000000
set_option maxRecDepth 100000
open Option renaming some.inj->Xa,getD_some->Xr,map_some->Xs
open List renaming set->Xb,take->Xe,length_cons->Xf,eraseIdx->Xg,length_nil->Xh,getD_eq_getElem?_getD->Xj,length->Xk,nil_append->Xn,cons_append->Xo,append_nil->Xq,map_cons->Xt,drop->Xu,map_nil->Xv,replicate->Xw,drop_succ_cons->Xy,length_append->Xz,mapIdx_cons->X0,mapIdx_nil->X3
open And renaming intro->Xc
open Int renaming toNat->Xd
open Nat renaming zero_add->Xi,reduceAdd->Xm,mul_one->Xp,lt_succ_self->Xx,add_assoc->X4
open Prod renaming mk->Xl
namespace Go.Proofs.YtdcdfkdhomekeaaGreat
open Go Go.RowKit
open Go.IntKind (i64)
def q52(k:Int)(e:List a7)(c:(Int×Int×(List a7)->Option (Bool×ak)))(b:Int)(d:a7)(f:List a7):Option (Bool×ak):=
 q9 (qf9 f) (λg=>
 q9 (q4v g d.Rec.K) (λj=>
 q9 (q1h (⟨e,k⟩:ak) j 1) (λa=>
 (if (!a.1)=true then some (false,a.2)
 else c (b,a.2.many,a.2.out)))))
def q54(j:List a7)(l:Int)(k:List a7)(g:(Int×Int×(List a7)->Option (Bool×ak)))(f:Int)(d:a7)(e:Int×(List a7)->Option (Bool×ak)):Int×(List a7)->Option (Bool×ak):=
 λ(a,c)=>
 (if (decide (a<(j.length:Int)))=true then q9 (idx j a) (λb=>
 (if (b.Rec.K==d.Rec.K)=true then x9 ((c.length+Xk ([b]:List a7))*24<=140737488355328) (
 e (i64.wrap (a+1),(c++([b]:List a7))))
 else e (i64.wrap (a+1),c)))
 else q52 l k g f d c)
def q53(e:List a7)(f:Int)(d:List a7)(b:(Int×Int×(List a7)->Option (Bool×ak)))(a:Int)(c:a7):Option (Bool×ak):=
 q02 (q54 e f d b a c) rounds (0,[])
def q51(g:Int)(f:List a7)(c:(Int×Int×(List a7)->Option (Bool×ak)))(b:Int)(d:a7)(e:Int):Option (Bool×ak):=
 q9 (q1h (⟨f,g⟩:ak) (⟨d.Rec.K,e⟩:aR) 1) (λa=>
 (if (!a.1)=true then some (false,a.2)
 else c (b,a.2.many,a.2.out)))
def q75(k:List a7)(c:Int)(m:Int)(l:List a7)(e:(Int×Int×(List a7)->Option (Bool×ak)))(a:Int)(f:a7)(g:Int×Int->Option (Bool×ak)):Int×Int->Option (Bool×ak):=
 λ(d,b)=>
 (if (decide (b<(Xk (Xu (c.toNat) (Xe (a.toNat) k)):Int)))=true then q9 (idx (Xu (c.toNat) (Xe (a.toNat) k)) b) (λj=>
 g (i64.wrap (d+j.N),i64.wrap (b+1)))
 else q51 m l e a f d)
def q2i(e:Int)(j:List a7)(n:List a7)(a:Int)(k:Int)(g:List a7)(c:(Int×Int×(List a7)->Option (Bool×ak)))(b:Int):Option (Bool×ak):=
 q9 (idx j a) (λd=>
 x9 (0<=a/\a<=b/\b<=(j.length:Int)) (
 (if (e==7)=true then q02 (q75 j a k g c b d) rounds (0,0)
 else (if (e==6)=true then q9 (qf9 (Xu (a.toNat) (Xe (b.toNat) j))) (λl=>
 q9 (q4v l d.Rec.K) (λm=>
 q9 (q1h (⟨g,k⟩:ak) m 1) (λf=>
 (if (!f.1)=true then some (false,f.2)
 else c (b,f.2.many,f.2.out)))))
 else q53 n k g c b d))))
def qb8(c:Int)(d:List a7)(l:List a7)(b:Int)(m:Int)(f:List a7)(e:(Int×Int×(List a7)->Option (Bool×ak)))(g:Int->Option (Bool×ak)):Int->Option (Bool×ak):=
 λa=>
 (if (decide (a<(d.length:Int)))=true then q9 (idx d a) (λj=>
 q9 (idx d b) (λk=>
 (if (j.Rec.K==k.Rec.K)=true then g (i64.wrap (a+1))
 else q2i c d l b m f e a)))
 else q2i c d l b m f e a)
def q20(b:Int)(e:List a7)(g:List a7)(d:Int×Int×(List a7)->Option (Bool×ak)):Int×Int×(List a7)->Option (Bool×ak):=
 λ(a,f,c)=>
 (if (decide (a<(e.length:Int)))=true then q02 (qb8 b e g a f c d) rounds a
 else some (true,(⟨c,f⟩:ak)))
def q4f(b:ak)(a:Int)(c:List a7)(d:List a7):Option (Bool×ak):=
 q02 (q20 a c d) rounds (0,b.many,b.out)
theorem qx5(u:ak)(a:Int)(q:List a7)(c:List a7)(r:Bool×ak)(h:q4f u a q c=some r):bu pp 81 [.ptr 0 0,.v (.int .i64 a),.sl 3 (enc q),.sl 3 (enc c)] [(0,.box [.osl 1 3 (0) (u.out.length),.v (.int .i64 u.many)]),(1,.arr 3 (enc u.out))] 2 (.v (.bool r.1)) [(0,.box [.osl 2 3 (0) (r.2.out.length),.v (.int .i64 r.2.many)]),(2,.arr 3 (enc r.2.out))] 3:=by
 refine dtI Tryz.func81 rfl ?_;rw[q4f]at h;have F:=trivial;refine sM ?_;refine sg λ_ Q2=>?_;simp only[go_sem];refine q5o Tryz.func123 rfl (by kernel_rfl) (by kernel_rfl) ?_;refine sM ?_;refine jg λ_ W=>?_;refine sM ?_;refine w9 λ_ X=>?_;refine q0e h [0,1] (λx=>([(5,.v (.int .i64 x.1))],[(0,.box [.osl 5 3 (0) (x.2.2.length),.v (.int .i64 x.2.1)]),(2,.box [.ptr 0 0]),(3,.box [.v (.int .i64 a)]),(4,.box [.sl 3 (enc c)]),(5,.arr 3 (enc x.2.2))])) 6 ?_;rintro z ⟨t,f,b⟩ h _ Y;rw[q20]at h;refine sg λ_ Q8=>?_;refine sM ?_;refine sB h (λ_ h=>?_) λ_ h=>?_
 .
  refine y5 (q8 Q8 (w9 λ_ E=>?_));refine sM ?_;refine q3e (λ(d:Int)=>q2i a q c t f b (q02 (q20 a q c) z) d=some r) [0,1,5] (λd=>([(6,.v (.int .i64 d))],[(0,.box [.osl 5 3 (0) (b.length),.v (.int .i64 f)]),(2,.box [.ptr 0 0]),(3,.box [.v (.int .i64 a)]),(4,.box [.sl 3 (enc c)]),(5,.arr 3 (enc b))])) 6 ?_ ?_
  .
   intro _ b6;refine w9 λ_ bc=>?_;refine q0e h [0,1,5] (λs=>([(6,.v (.int .i64 s))],[(0,.box [.osl 5 3 (0) (b.length),.v (.int .i64 f)]),(2,.box [.ptr 0 0]),(3,.box [.v (.int .i64 a)]),(4,.box [.sl 3 (enc c)]),(5,.arr 3 (enc b))])) 6 ?_;rintro bi s h _ bk;rw[qb8]at h;refine sg λ_ bs=>?_;refine sg λ_ bv=>?_;refine q00 ?_;refine jy5 ?_;simp only[go_sem];rcases n:(decide (s<(q.length:Int)))with _|_
   . replace h:=q2s h n;simp only[go_sem,n];exact au
   replace h:=q2r h n;obtain⟨ao,F,h⟩:=bI F h;obtain⟨ar,F,h⟩:=bI F h;simp only[go_sem,n,F];refine ai ?_;refine ai ?_;exact au
  rintro d h
  try dsimp only at h
  rw[q2i]at h;refine sg λ_ G=>?_;refine sg λ_ H=>?_;refine q00 ?_;refine jy5 ?_;obtain⟨g,F,h⟩:=bI F h;obtain⟨F,h⟩:=bG F h;simp only[go_sem,F];refine ai ?_;refine q5o Tryz.func126 rfl (by kernel_rfl) (by kernel_rfl) ?_;refine sM ?_;refine q3e (λ(_:Unit)=>q53 c f b (q02 (q20 a q c) z) d g=some r) [0,3,4] (λ_=>([],[(0,.box [.osl 5 3 (0) (b.length),.v (.int .i64 f)]),(2,.box [.ptr 0 0]),(3,.box [.v (.int .i64 a)]),(4,.box [.sl 3 (enc c)]),(5,.arr 3 (enc b))])) 6 ?_ ?_
  .
   intro _ T;refine sM ?_;refine w9 λ_ U=>?_;refine sM ?_;refine sB h (λ_ h=>?_) λ_ h=>?_
   .
    refine sM ?_;refine q3e (λ(o:Int)=>q51 f b (q02 (q20 a q c) z) d g o=some r) [0,3] (λo=>([(8,.v (.int .i64 o))],[(0,.box [.osl 5 3 (0) (b.length),.v (.int .i64 f)]),(2,.box [.ptr 0 0]),(3,.box [.v (.int .i64 a)]),(4,.box [.sl 3 (enc c)]),(5,.arr 3 (enc b))])) 6 ?_ ?_
    . intro _ c1;refine sM ?_;refine w9 λ_ c2=>?_;refine q0e h [0,3,17,18] (λx=>([(8,.v (.int .i64 x.1)),(19,.v (.int .i64 x.2))],[(0,.box [.osl 5 3 (0) (b.length),.v (.int .i64 f)]),(2,.box [.ptr 0 0]),(3,.box [.v (.int .i64 a)]),(4,.box [.sl 3 (enc c)]),(5,.arr 3 (enc b))])) 6 ?_;rintro c4 ⟨b0,Z⟩ h _ c5;rw[q75]at h;exact au
    rintro o h
    try dsimp only at h
    rw[q51]at h;refine sg λ_ b1=>?_;obtain⟨j,I,h⟩:=z8 h;simp only[go_sem];refine q1l [0,5] (q37 (⟨b,f⟩:ak) (⟨g.Rec.K,o⟩:aR) 1 j I) ?_;simp only[go_sem];refine q8 b1 (q04 (q12 U (q34 T ?_)));simp only[go_sem];refine q1f [some 6] [(0,.box [.osl 6 3 (0) (j.2.out.length),.v (.int .i64 j.2.many)]),(2,.box [.ptr 0 0]),(3,.box [.v (.int .i64 a)]),(4,.box [.sl 3 (enc c)]),(6,.arr 3 (enc j.2.out))] 7 (.v (.bool j.1)) ?_ ?_
    . exact leA
    refine q1v ?_;simp only[go_sem];refine q8 H (sB h (λ_ h=>?_) λ_ h=>?_)
    .
     refine sM ?_;refine q04 (q18 G (q12 E (q34 Y (q12 X (q18 W ?_)))));simp only[go_sem];refine q1f [some 6] [(0,.box [.osl 5 3 (0) (j.2.out.length),.v (.int .i64 j.2.many)]),(2,.box [.ptr 0 0]),(3,.box [.v (.int .i64 a)]),(4,.box [.sl 3 (enc c)]),(5,.arr 3 (enc j.2.out))] 6 (.v (.bool false)) ?_ ?_
     . exact leA
     refine q1v ?_;simp only[go_sem];exact au
    exact au
   refine sM ?_;refine sB h (λ_ h=>?_) λ_ h=>?_
   .
    refine sg λ_ b2=>?_;refine q00 ?_;refine jy5 ?_;obtain⟨A,J,h⟩:=z8 h;simp only[go_sem];refine bx (λ_=>(z8m (Xu (t.toNat) (Xe (d.toNat) q)) A J)) (by rfl) (by rfl) ?_;obtain⟨B,L,h⟩:=z8 h;simp only[go_sem];refine bx (λ_=>(qz5 A g.Rec.K B L)) (by rfl) (by rfl) ?_;obtain⟨k,M,h⟩:=z8 h;simp only[go_sem];refine q1l [0,5] (q37 (⟨b,f⟩:ak) B 1 k M) ?_;simp only[go_sem];refine q8 b2 (q04 (q12 U (q34 T ?_)));simp only[go_sem];refine q1f [some 6] [(0,.box [.osl 6 3 (0) (k.2.out.length),.v (.int .i64 k.2.many)]),(2,.box [.ptr 0 0]),(3,.box [.v (.int .i64 a)]),(4,.box [.sl 3 (enc c)]),(6,.arr 3 (enc k.2.out))] 7 (.v (.bool k.1)) ?_ ?_
    . exact leA
    refine q1v ?_;simp only[go_sem];refine q8 H (sB h (λ_ h=>?_) λ_ h=>?_)
    .
     refine sM ?_;refine q04 (q18 G (q12 E (q34 Y (q12 X (q18 W ?_)))));simp only[go_sem];refine q1f [some 6] [(0,.box [.osl 5 3 (0) (k.2.out.length),.v (.int .i64 k.2.many)]),(2,.box [.ptr 0 0]),(3,.box [.v (.int .i64 a)]),(4,.box [.sl 3 (enc c)]),(5,.arr 3 (enc k.2.out))] 6 (.v (.bool false)) ?_ ?_
     . exact leA
     refine q1v ?_;simp only[go_sem];exact au
    exact au
   exact au
  rintro⟨⟩ h
  try dsimp only at h
  rw[q53]at h;refine sM ?_;refine q3e (λ(p:(List a7))=>q52 f b (q02 (q20 a q c) z) d g p=some r) [0,3] (λp=>([(11,.osl 6 3 (0) (p.length))],[(0,.box [.osl 5 3 (0) (b.length),.v (.int .i64 f)]),(2,.box [.ptr 0 0]),(3,.box [.v (.int .i64 a)]),(4,.box [.sl 3 (enc c)]),(5,.arr 3 (enc b)),(6,.arr 3 (enc p))])) 7 ?_ ?_
  .
   intro _ c6;refine sM ?_;refine w9 λ_ c7=>?_;refine q0e h [0,3,41,42] (λx=>([(11,.osl 6 3 (0) (x.2.length)),(43,.v (.int .i64 x.1))],[(0,.box [.osl 5 3 (0) (b.length),.v (.int .i64 f)]),(2,.box [.ptr 0 0]),(3,.box [.v (.int .i64 a)]),(4,.box [.sl 3 (enc c)]),(5,.arr 3 (enc b)),(6,.arr 3 (enc x.2))])) 7 ?_;rintro c8 ⟨a6,w⟩ h _ c9;rw[q54]at h;refine sM ?_;refine sg λ_ b3=>?_;refine sB h (λ_ h=>?_) λ_ h=>?_
   .
    refine y5 (q8 b3 (jg λ_ cb=>?_));refine w9 λ_ cc=>?_;refine sg λ_ b4=>?_;obtain⟨e,F,h⟩:=bI F h;simp only[go_sem,F];refine ai ?_;refine q8 b4 (sM ?_);refine sB h (λ_ h=>?_) λ_ h=>?_
    .
     have O:[[.v (.int .i64 e.Rec.K),.v (.int .i64 e.Rec.V),.v (.int .i64 e.N)]]=enc ([e]:List a7):=by rfl
     obtain⟨y,h⟩:=q07 h;have F:=Xc F y;simp only[Xf,Xh,Xi,Xz]at y;have P:enc w++[[.v (.int .i64 e.Rec.K),.v (.int .i64 e.Rec.V),.v (.int .i64 e.N)]]=enc (w++([e]:List a7)):=by exact (q2v w ([e]:List a7)).symm
     simp only[go_sem,y,P];simp only[O];exact au
    exact au
   exact au
  rintro p h
  try dsimp only at h
  rw[q52]at h;refine sg λ_ b5=>?_;refine q00 ?_;refine j4v (s':=(⟨6,[(0,.v (.int .i64 g.Rec.K)),(3,.ptr 2 0),(11,.sl 3 (enc p))],[(0,.box [.osl 5 3 (0) (b.length),.v (.int .i64 f)]),(2,.box [.ptr 0 0]),(3,.box [.v (.int .i64 a)]),(4,.box [.sl 3 (enc c)]),(5,.arr 3 (enc b))],6,63⟩:St)) (l:=[]) ?_ ?_
  . exact leA
  refine jy5 ?_;obtain⟨C,Q,h⟩:=z8 h;simp only[go_sem];refine bx (λ_=>(z8m p C Q)) (by rfl) (by rfl) ?_;obtain⟨D,R,h⟩:=z8 h;simp only[go_sem];refine bx (λ_=>(qz5 C g.Rec.K D R)) (by rfl) (by rfl) ?_;obtain⟨m,S,h⟩:=z8 h;simp only[go_sem];refine q1l [0,5] (q37 (⟨b,f⟩:ak) D 1 m S) ?_;simp only[go_sem];refine q8 b5 (q04 ?_);simp only[go_sem];refine q1f [some 6] [(0,.box [.osl 6 3 (0) (m.2.out.length),.v (.int .i64 m.2.many)]),(2,.box [.ptr 0 0]),(3,.box [.v (.int .i64 a)]),(4,.box [.sl 3 (enc c)]),(6,.arr 3 (enc m.2.out))] 7 (.v (.bool m.1)) ?_ ?_
  . exact leA
  refine q1v ?_;simp only[go_sem];refine q8 H (sB h (λ_ h=>?_) λ_ h=>?_)
  .
   refine sM ?_;refine q04 (q18 G (q12 E (q34 Y (q12 X (q18 W ?_)))));simp only[go_sem];refine q1f [some 6] [(0,.box [.osl 5 3 (0) (m.2.out.length),.v (.int .i64 m.2.many)]),(2,.box [.ptr 0 0]),(3,.box [.v (.int .i64 a)]),(4,.box [.sl 3 (enc c)]),(5,.arr 3 (enc m.2.out))] 6 (.v (.bool false)) ?_ ?_
   . exact leA
   refine q1v ?_;simp only[go_sem];exact au
  exact au
 refine q0u (q1w Q8 (q0v Y (q0m X (q8 W (sM ?_)))));refine q04 ?_;simp only[go_sem];refine q1f [some 5] [(0,.box [.osl 5 3 (0) (b.length),.v (.int .i64 f)]),(2,.box [.ptr 0 0]),(3,.box [.v (.int .i64 a)]),(4,.box [.sl 3 (enc c)]),(5,.arr 3 (enc b))] 6 (.v (.bool true)) ?_ ?_
 . exact leA
 refine q1v ?_;simp only[go_sem];exact au
def q66(m:List a7)(g:a7)(k:Int)(l:(Int×Int×(List a7)->Option (Bool×ak)))(c:a7)(j:Int×Int×(List a7)->Option (Bool×ak)):Int×Int×(List a7)->Option (Bool×ak):=
 λ(a,d,e)=>
 (if (decide (a<(m.length:Int)))=true then q9 (idx m a) (λb=>
 (if (!(b.Rec.K==g.Rec.K))=true then j (i64.wrap (a+1),d,e)
 else (if ((decide (65536<c.N))||(decide (65536<b.N)))=true then some (false,(⟨e,d⟩:ak))
 else q9 (qb7 g.Rec.K c.Rec.V b.Rec.V) (λn=>
 q9 (q1h (⟨e,d⟩:ak) n (i64.wrap (c.N*b.N))) (λf=>
 (if (!f.1)=true then some (false,f.2)
 else j (i64.wrap (a+1),f.2.many,f.2.out)))))))
 else l (i64.wrap (k+1),d,e))
def q67(l:List a7)(m:List a7)(b:Int)(f:(Int×Int×(List a7)->Option (Bool×ak)))(a:Int)(g:a7)(j:Int×Int×(List a7)->Option (Bool×ak)):Int×Int×(List a7)->Option (Bool×ak):=
 λ(c,d,e)=>
 (if (decide (c<(Xk (Xu (b.toNat) (Xe (a.toNat) l)):Int)))=true then q9 (idx (Xu (b.toNat) (Xe (a.toNat) l)) c) (λk=>
 q02 (q66 m g c j k) rounds (0,d,e))
 else f (a,d,e))
def q36(c:List a7)(j:List a7)(a:Int)(f:Int)(g:List a7)(d:(Int×Int×(List a7)->Option (Bool×ak)))(b:Int):Option (Bool×ak):=
 q9 (idx c a) (λe=>
 x9 (0<=a/\a<=b/\b<=(c.length:Int)) (
 q02 (q67 c j a d b e) rounds (0,f,g)))
def qg0(c:List a7)(l:List a7)(b:Int)(e:Int)(f:List a7)(d:(Int×Int×(List a7)->Option (Bool×ak)))(g:Int->Option (Bool×ak)):Int->Option (Bool×ak):=
 λa=>
 (if (decide (a<(c.length:Int)))=true then q9 (idx c a) (λj=>
 q9 (idx c b) (λk=>
 (if (j.Rec.K==k.Rec.K)=true then g (i64.wrap (a+1))
 else q36 c l b e f d a)))
 else q36 c l b e f d a)
def q68(e:List a7)(f:List a7)(d:Int×Int×(List a7)->Option (Bool×ak)):Int×Int×(List a7)->Option (Bool×ak):=
 λ(a,b,c)=>
 (if (decide (a<(e.length:Int)))=true then q02 (qg0 e f a b c d) rounds a
 else some (true,(⟨c,b⟩:ak)))
def q5m(a:ak)(b:List a7)(c:List a7):Option (Bool×ak):=
 q02 (q68 b c) rounds (0,a.many,a.out)
theorem z0m(m:ak)(o:List a7)(b:List a7)(r:Bool×ak)(h:q5m m o b=some r):bu pp 80 [.ptr 0 0,.sl 3 (enc o),.sl 3 (enc b)] [(0,.box [.osl 1 3 (0) (m.out.length),.v (.int .i64 m.many)]),(1,.arr 3 (enc m.out))] 2 (.v (.bool r.1)) [(0,.box [.osl 2 3 (0) (r.2.out.length),.v (.int .i64 r.2.many)]),(2,.arr 3 (enc r.2.out))] 3:=by
 refine dtI Tryz.func80 rfl ?_;rw[q5m]at h;have F:=trivial;refine sM ?_;refine sg λ_ Q2=>?_;simp only[go_sem];refine q5o Tryz.func123 rfl (by kernel_rfl) (by kernel_rfl) ?_;refine sM ?_;refine jg λ_ S=>?_;refine sM ?_;refine w9 λ_ T=>?_;refine q0e h [0,1] (λx=>([(5,.v (.int .i64 x.1))],[(0,.box [.osl 4 3 (0) (x.2.2.length),.v (.int .i64 x.2.1)]),(2,.box [.ptr 0 0]),(3,.box [.sl 3 (enc b)]),(4,.arr 3 (enc x.2.2))])) 5 ?_;rintro U ⟨p,n,g⟩ h _ W;rw[q68]at h;refine sg λ_ Q8=>?_;refine sM ?_;refine sB h (λ_ h=>?_) λ_ h=>?_
 .
  refine y5 (q8 Q8 (w9 λ_ C=>?_));refine sM ?_;refine q3e (λ(d:Int)=>q36 o b p n g (q02 (q68 o b) U) d=some r) [0,1,5] (λd=>([(6,.v (.int .i64 d))],[(0,.box [.osl 4 3 (0) (g.length),.v (.int .i64 n)]),(2,.box [.ptr 0 0]),(3,.box [.sl 3 (enc b)]),(4,.arr 3 (enc g))])) 5 ?_ ?_
  .
   intro _ b1;refine w9 λ_ b2=>?_;refine q0e h [0,1,5] (λk=>([(6,.v (.int .i64 k))],[(0,.box [.osl 4 3 (0) (g.length),.v (.int .i64 n)]),(2,.box [.ptr 0 0]),(3,.box [.sl 3 (enc b)]),(4,.arr 3 (enc g))])) 5 ?_;rintro b3 k h _ b4;rw[qg0]at h;refine sg λ_ b5=>?_;refine sg λ_ b6=>?_;refine q00 ?_;refine jy5 ?_;simp only[go_sem];rcases e:(decide (k<(o.length:Int)))with _|_
   . replace h:=q2s h e;simp only[go_sem,e];exact au
   replace h:=q2r h e;obtain⟨X,F,h⟩:=bI F h;obtain⟨Y,F,h⟩:=bI F h;simp only[go_sem,e,F];refine ai ?_;refine ai ?_;exact au
  rintro d h
  try dsimp only at h
  rw[q36]at h;refine sg λ_ D=>?_;refine sg λ_ E=>?_;refine q00 ?_;refine jy5 ?_;obtain⟨u,F,h⟩:=bI F h;obtain⟨F,h⟩:=bG F h;simp only[go_sem,F];refine ai ?_;refine q5o Tryz.func124 rfl (by kernel_rfl) (by kernel_rfl) ?_;refine sM ?_;refine jg λ_ w=>?_;refine sM ?_;refine w9 λ_ y=>?_;refine q0e h [0,2,3,11,12] (λx=>([(13,.v (.int .i64 x.1))],[(0,.box [.osl 5 3 (0) (x.2.2.length),.v (.int .i64 x.2.1)]),(2,.box [.ptr 0 0]),(3,.box [.sl 3 (enc b)]),(5,.arr 3 (enc x.2.2))])) 6 ?_;rintro bc ⟨Z,G,s⟩ h _ z;rw[q67]at h;refine sM ?_;refine sg λ_ H=>?_;refine sB h (λ_ h=>?_) λ_ h=>?_
  .
   refine y5 (q8 H (jg λ_ I=>?_));refine w9 λ_ J=>?_;refine sg λ_ a6=>?_;obtain⟨a,F,h⟩:=bI F h;simp only[go_sem,F];refine ai ?_;refine q8 a6 (sM ?_);refine w9 λ_ L=>?_;refine q0e h [0,2,3,11,12,13,17,18] (λx=>([(8,.ptr 5 0),(19,.v (.int .i64 x.1))],[(0,.box [.osl 6 3 (0) (x.2.2.length),.v (.int .i64 x.2.1)]),(2,.box [.ptr 0 0]),(3,.box [.sl 3 (enc b)]),(5,.box (Row.row a)),(6,.arr 3 (enc x.2.2))])) 7 ?_;rintro bi ⟨R,q,l⟩ h _ M;rw[q66]at h;refine sM ?_;refine sg λ_ ao=>?_;refine sB h (λ_ h=>?_) λ_ h=>?_
   .
    refine y5 (q8 ao (sg λ_ O=>?_));refine w9 λ_ P=>?_;refine sg λ_ ar=>?_;obtain⟨c,F,h⟩:=bI F h;simp only[go_sem,F];refine ai ?_;refine q8 ar (sg λ_ b0=>?_);refine sM ?_;refine sB h (λ_ h=>?_) λ_ h=>?_
    . exact au
    refine y5 (q8 b0 (sg λ_ Q=>?_));refine q00 ?_;refine jy5 ?_;simp only[go_sem];rcases f:((decide (65536<a.N))||(decide (65536<c.N)))with _|_
    .
     replace h:=q2s h f;obtain⟨t,A,h⟩:=z8 h;simp only[go_sem,f];refine bx (λ_=>(zs5 u.Rec.K a.Rec.V c.Rec.V t A)) (by rfl) (by rfl) ?_;obtain⟨j,B,h⟩:=z8 h;simp only[go_sem];refine q1l [0,6] (q37 (⟨l,q⟩:ak) t (i64.wrap (a.N*c.N)) j B) ?_;simp only[go_sem];refine q8 Q (sB h (λ_ h=>?_) λ_ h=>?_)
     .
      refine sM ?_;refine q04 (q12 P (q18 O (q34 M (q12 L (q12 J (q18 I (q34 z (q12 y (q18 w ?_)))))))));simp only[go_sem];refine q1f [some 5,some 7,some 8] [(0,.box [.osl 7 3 (0) (j.2.out.length),.v (.int .i64 j.2.many)]),(2,.box [.ptr 0 0]),(3,.box [.sl 3 (enc b)]),(5,.box (Row.row a)),(6,.box (Row.row c)),(7,.arr 3 (enc j.2.out))] 8 (.v (.bool false)) ?_ ?_
      . exact leA
      refine q1v ?_;simp only[go_sem];refine q8 E (k1w ?_);refine sM ?_;refine q04 (q18 D (q12 C (q34 W (q12 T (q18 S ?_)))));simp only[go_sem];refine q1f [some 5,some 6,some 7] [(0,.box [.osl 6 3 (0) (j.2.out.length),.v (.int .i64 j.2.many)]),(2,.box [.ptr 0 0]),(3,.box [.sl 3 (enc b)]),(4,.box (Row.row a)),(5,.box (Row.row c)),(6,.arr 3 (enc j.2.out))] 7 (.v (.bool false)) ?_ ?_
      . exact leA
      refine q1v ?_;simp only[go_sem];exact au
     exact au
    replace h:=q2r h f;simp only[go_sem,f];refine q8 Q (k1w ?_);refine sM ?_;refine q04 (q12 P (q18 O (q34 M (q12 L (q12 J (q18 I (q34 z (q12 y (q18 w ?_)))))))));simp only[go_sem];refine q1f [some 5,some 6,some 7] [(0,.box [.osl 6 3 (0) (l.length),.v (.int .i64 q)]),(2,.box [.ptr 0 0]),(3,.box [.sl 3 (enc b)]),(5,.box (Row.row a)),(6,.arr 3 (enc l)),(7,.box (Row.row c))] 8 (.v (.bool false)) ?_ ?_
    . exact leA
    refine q1v ?_;simp only[go_sem];refine q8 E (k1w ?_);refine sM ?_;refine q04 (q18 D (q12 C (q34 W (q12 T (q18 S ?_)))));simp only[go_sem];refine q1f [some 5,some 6,some 7] [(0,.box [.osl 5 3 (0) (l.length),.v (.int .i64 q)]),(2,.box [.ptr 0 0]),(3,.box [.sl 3 (enc b)]),(4,.box (Row.row a)),(5,.arr 3 (enc l)),(6,.box (Row.row c))] 7 (.v (.bool false)) ?_ ?_
    . exact leA
    refine q1v ?_;simp only[go_sem];exact au
   exact au
  refine q0u (q1w H (q0v z (q0m y (q8 w (sM ?_)))));refine q04 ?_;simp only[go_sem];refine q1f [some 5] [(0,.box [.osl 5 3 (0) (s.length),.v (.int .i64 G)]),(2,.box [.ptr 0 0]),(3,.box [.sl 3 (enc b)]),(5,.arr 3 (enc s))] 6 (.v (.bool true)) ?_ ?_
  . exact leA
  refine q1v ?_;simp only[go_sem];exact au
 refine q0u (q1w Q8 (q0v W (q0m T (q8 S (sM ?_)))));refine q04 ?_;simp only[go_sem];refine q1f [some 4] [(0,.box [.osl 4 3 (0) (g.length),.v (.int .i64 n)]),(2,.box [.ptr 0 0]),(3,.box [.sl 3 (enc b)]),(4,.arr 3 (enc g))] 5 (.v (.bool true)) ?_ ?_
 . exact leA
 refine q1v ?_;simp only[go_sem];exact au
def q5p(b:Int)(a:List (List a7)):Option (List a7):=
 (if (decide ((a.length:Int)<=b))=true then some ([]:List a7)
 else q9 (idx a b) (λc=>
 q9 (ql2 c) (λd=>
 some d)))
theorem z1q(b:Int)(a:List (List a7))(r:List a7)(h:q5p b a=some r):bu pp 75 [.v (.int .i64 b),.el 1 [[.sl 1 (enc a)]] 0 0] [] 0 (.osl 0 3 (0) (r.length)) [(0,.arr 3 (enc r))] 1:=by
 refine dtI Tryz.func75 rfl ?_;rw[q5p]at h;have F:=trivial;refine sM ?_;refine sg λ_ f=>?_;refine sM ?_;refine sB h (λ_ h=>?_) λ_ h=>?_
 . exact au
 refine y5 (q8 f (sg λ_ g=>?_));obtain⟨c,F,h⟩:=bI F h;obtain⟨e,d,h⟩:=z8 h;simp only[go_sem,F];refine ai ?_;refine q1l [] (z4i c e d) ?_;simp only[go_sem];exact au
def q2a(a:Bool):Option Bool:=
 (if a=true then some true
 else some false)
def q9h(a:Int):Option Bool:=
 (if (a==1)=true then q2a (a==1)
 else (if (a==2)=true then q2a (a==2)
 else (if (a==3)=true then q2a (a==3)
 else (if (a==4)=true then q2a (a==4)
 else (if (a==5)=true then q2a (a==5)
 else (if (a==10)=true then q2a (a==10)
 else (if (a==11)=true then q2a (a==11)
 else (if (a==12)=true then q2a (a==12)
 else (if (a==13)=true then q2a (a==13)
 else q2a (a==15))))))))))
instance je5(a:Int):Ct pp 78 (q9h a) [.v (.int .i64 a)] λr=>(.v (.bool r)):=ctK Tryz.func78 rfl (by rw[q9h]) (by
 intro r h F;refine sM ?_;refine jg λ_ c=>?_;refine sM ?_;refine w9 λ_ d=>?_;refine q3e (λ(b:Bool)=>q2a b=some r) [] (λb=>([(4,.v (.bool b))],[])) 0 ?_ ?_
 . intro _ e;exact au
 rintro b h
 try dsimp only at h
 rw[q2a]at h;exact au)
def q2u(a:Bool)(c:Int)(d:List a7):Option ((List a7)×Bool):=
 (if (!a)=true then some (([]:List a7),false)
 else q9 (q5n (⟨d,c⟩:ak)) (λb=>
 some (b.1,true)))
def z0o(g:List a7)(b:Bool×Int×Int×(List a7)->Option ((List a7)×Bool)):Bool×Int×Int×(List a7)->Option ((List a7)×Bool):=
 λ(d,a,e,f)=>
 (if (decide (a<(g.length:Int)))=true then q9 (idx g a) (λj=>
 (if d=true then q9 (q1h (⟨f,e⟩:ak) j.Rec 1) (λc=>
 b (c.1,i64.wrap (a+1),c.2.many,c.2.out))
 else b (false,i64.wrap (a+1),e,f)))
 else q2u d e f)
def q70(a:aN)(b:List (List a7)):Option ((List a7)×Bool):=
 q9 (q5p 0 b) (λd=>
 q9 (q5p 1 b) (λk=>
 (if (a.Kind==5)=true then q9 (q2n (⟨([]:List a7),0⟩:ak) a d) (λc=>
 (if c.1=true then q9 (q2n c.2 a k) (λe=>
 q2u e.1 e.2.many e.2.out)
 else q2u false c.2.many c.2.out))
 else q9 (q9h a.Kind) (λl=>
 (if l=true then q9 (q2n (⟨([]:List a7),0⟩:ak) a d) (λf=>
 q2u f.1 f.2.many f.2.out)
 else (if (a.Kind==8)=true then q02 (z0o d) rounds (true,0,0,[])
 else (if (a.Kind==9)=true then q9 (q5m (⟨([]:List a7),0⟩:ak) d k) (λg=>
 q2u g.1 g.2.many g.2.out)
 else (if (((a.Kind==7)||(a.Kind==6))||(a.Kind==14))=true then q9 (q4f (⟨([]:List a7),0⟩:ak) a.Kind d k) (λj=>
 q2u j.1 j.2.many j.2.out)
 else q2u true 0 ([])))))))))
theorem z4g(a:aN)(b:List (List a7))(r:(List a7)×Bool)(h:q70 a b=some r):bu pp 39 [.agg (Row.row a),.sl 1 (enc b)] [] 0 (.tup [.osl 0 3 (0) (r.1.length),.v (.bool r.2)]) [(0,.arr 3 (enc r.1))] 1:=by
 refine dtI Tryz.func39 rfl ?_;rw[q70]at h;have F:=trivial;refine sM ?_;refine sM ?_;refine sM ?_;refine sg λ_ O=>?_;obtain⟨c,u,h⟩:=z8 h;simp only[go_sem];refine qe1 [2] ([(6,.clo 75 [.el 1 [[.sl 1 (enc b)]] 0 0]),(7,.ptr 1 0)],[(0,.box (Row.row a)),(1,.box [.v (.slice none 0 0),.v (.int .i64 0)])]) 2 [some 0,some 2] [.v (.int .i64 0),.el 1 [[.sl 1 (enc b)]] 0 0] ?_;refine q1l [] (z1q 0 b c u) ?_;obtain⟨d,w,h⟩:=z8 h;simp only[go_sem];refine q1l [] (z1q 1 b d w) ?_;simp only[go_sem];refine q8 O (sM ?_);refine q3e (λ((j,k,l):Bool×Int×(List a7))=>q2u j k l=some r) [] (λx=>([(7,.ptr 0 0),(10,.v (.bool x.1))],[(0,.box [.osl 1 3 (0) (x.2.2.length),.v (.int .i64 x.2.1)]),(1,.arr 3 (enc x.2.2))])) 2 ?_ ?_
 .
  intro _ P;refine w9 λ_ Q=>?_;refine sM ?_;refine sB h (λ_ h=>?_) λ_ h=>?_
  .
   obtain⟨e,m,h⟩:=z8 h;simp only[go_sem];refine qe1 [2,7,10] ([(9,.osl 2 3 (0) (d.length))],[(0,.box (Row.row a)),(1,.box [.osl 3 3 (0) (Xk ([]:List a7)),.v (.int .i64 0)]),(2,.arr 3 (enc d)),(3,.arr 3 (enc ([]:List a7)))]) 4 [some 0,some 1,some 3,none] [.ptr 1 0,.agg (Row.row a),.sl 3 (enc c)] ?_;refine q1l [1,3] (q74 (⟨([]:List a7),0⟩:ak) a c e m) ?_;simp only[go_sem];rcases f:e.1 with _|_
   . replace h:=q2s h f;simp only[go_sem,f];exact au
   replace h:=q2r h f;obtain⟨y,n,h⟩:=z8 h;simp only[go_sem,f];refine qe1 [7,10,28] ([],[(0,.box (Row.row a)),(1,.box [.osl 2 3 (0) (e.2.out.length),.v (.int .i64 e.2.many)]),(2,.arr 3 (enc e.2.out))]) 3 [some 0,some 1,some 4] [.ptr 1 0,.agg (Row.row a),.sl 3 (enc d)] ?_;refine q1l [1,2] (q74 e.2 a d y n) ?_;simp only[go_sem];exact au
  refine sg λ_ H=>?_;simp only[go_sem];refine q2b h λN h=>?_;simp only[go_sem];refine q8 H (sB h (λ_ h=>?_) λ_ h=>?_)
  . obtain⟨z,o,h⟩:=z8 h;simp only[go_sem];refine qe1 [7,10] ([],[(0,.box (Row.row a)),(1,.box [.osl 3 3 (0) (Xk ([]:List a7)),.v (.int .i64 0)]),(2,.arr 3 (enc d)),(3,.arr 3 (enc ([]:List a7)))]) 4 [some 0,some 1,some 3,none] [.ptr 1 0,.agg (Row.row a),.sl 3 (enc c)] ?_;refine q1l [1,3] (q74 (⟨([]:List a7),0⟩:ak) a c z o) ?_;simp only[go_sem];exact au
  refine sM ?_;refine sB h (λ_ h=>?_) λ_ h=>?_
  .
   refine sM ?_;refine w9 λ_ R=>?_;refine q0e h [47] (λx=>([(7,.ptr 0 0),(10,.v (.bool x.1)),(46,.osl 1 3 (0) (c.length)),(48,.v (.int .i64 x.2.1))],[(0,.box [.osl 2 3 (0) (x.2.2.2.length),.v (.int .i64 x.2.2.1)]),(1,.arr 3 (enc c)),(2,.arr 3 (enc x.2.2.2))])) 3 ?_;rintro S ⟨A,I,J,K⟩ h _ T;rw[z0o]at h;refine sM ?_;refine sg λ_ L=>?_;refine sB h (λ_ h=>?_) λ_ h=>?_
   .
    refine y5 (q8 L (sg λ_ U=>?_));refine w9 λ_ V=>?_;refine sg λ_ M=>?_;obtain⟨B,F,h⟩:=bI F h;simp only[go_sem,F];refine ai ?_;refine q8 M ?_;simp only[go_sem];rcases g:A with _|_
    . replace h:=q2s h g;simp only[go_sem,g];exact au
    replace h:=q2r h g;obtain⟨C,p,h⟩:=z8 h;simp only[go_sem,g];refine q1l [0,2] (q37 (⟨K,J⟩:ak) B.Rec 1 C p) ?_;simp only[go_sem];exact au
   exact au
  refine sM ?_;refine sB h (λ_ h=>?_) λ_ h=>?_
  . obtain⟨D,q,h⟩:=z8 h;simp only[go_sem];refine qe1 [7,10] ([],[(0,.box (Row.row a)),(1,.box [.osl 2 3 (0) (Xk ([]:List a7)),.v (.int .i64 0)]),(2,.arr 3 (enc ([]:List a7)))]) 3 [some 0,some 1,none] [.ptr 1 0,.sl 3 (enc c),.sl 3 (enc d)] ?_;refine q1l [1,2] (z0m (⟨([]:List a7),0⟩:ak) c d D q) ?_;simp only[go_sem];exact au
  refine sM ?_;refine sB h (λ_ h=>?_) λ_ h=>?_
  . obtain⟨E,s,h⟩:=z8 h;simp only[go_sem];refine qe1 [7,10] ([],[(0,.box (Row.row a)),(1,.box [.osl 2 3 (0) (Xk ([]:List a7)),.v (.int .i64 0)]),(2,.arr 3 (enc ([]:List a7)))]) 3 [some 0,some 1,none] [.ptr 1 0,.v (.int .i64 a.Kind),.sl 3 (enc c),.sl 3 (enc d)] ?_;refine q1l [1,2] (qx5 (⟨([]:List a7),0⟩:ak) a.Kind c d E s) ?_;simp only[go_sem];exact au
  exact au
 rintro⟨j,k,l⟩ h
 try dsimp only at h
 rw[q2u]at h;refine sg λ_ W=>?_;refine sM ?_;refine sB h (λ_ h=>?_) λ_ h=>?_
 . exact au
 refine y5 (q8 W (sg λ_ X=>?_));obtain⟨G,t,h⟩:=z8 h;simp only[go_sem];refine q1l [0,1] (z0n (⟨l,k⟩:ak) G t) ?_;simp only[go_sem];exact au
instance zm5(b:aN)(a:List (List a7)):Ct pp 39 (q70 b a) [.agg (Row.row b),.sl 1 (enc a)] λr=>(.tup [.sl 3 (enc r.1),.v (.bool r.2)]):=⟨λr h=>(z4g b a r h).pure leA⟩
def ql6(a:Int)(c:Int):Option (Int×Int):=
 q9 (q3y a c) (λb=>
 some (b.1,b.2))
instance j77(a:Int)(b:Int):Ct pp 153 (ql6 a b) [.v (.int .u64 a),.v (.int .u64 b)] λr=>(.tup [.v (.int .u64 r.1),.v (.int .u64 r.2)]):=ctI Tryz.func153 rfl (by rw[ql6];exact au1)
def qd4(c:Int×(List aR)->Option (List aR)):Int×(List aR)->Option (List aR):=
 λ(a,b)=>
 (if (decide (a<(b.length:Int)))=true then x9 (0<=a/\a<=(b.length:Int)/\(b.length:Int)<=(b.length:Int)) (
 x9 (0<=0/\0<=a/\a<=(b.length:Int)) (
 x9 (a.toNat+(b.length-a.toNat)<=b.length) (
 x9 (0+a.toNat<=b.length) (
 c (i64.wrap (a+((min (Xk (Xe (a.toNat) b)) ((b.length-a.toNat)):Nat):Int)),(Xe (b.length) (Xe (a.toNat) b++(Xe ((b.length-a.toNat)) (Xe (a.toNat) b))++Xu (a.toNat+Xk (Xe ((b.length-a.toNat)) (Xe (a.toNat) b))) b)))))))
 else some b)
def q7v(b:List aR)(a:Int×Int):Option (List aR):=
 x9 (0<=(i64.wrap a.2)/\(i64.wrap a.2)*16<=140737488355328) (
 x9 (0+(Xd (i64.wrap a.2))<=Xk (Xw (Xd (i64.wrap a.2)) (⟨0,0⟩:aR))) (
 q02 (qd4) rounds (((min (b.length) ((Xd (i64.wrap a.2))):Nat):Int),(Xe (Xd (i64.wrap a.2)) ((Xe ((Xd (i64.wrap a.2))) b)++Xu (Xk (Xe ((Xd (i64.wrap a.2))) b)) (Xw (Xd (i64.wrap a.2)) (⟨0,0⟩:aR)))))))
def q7w(b:List aR)(a:Int):Option (List aR):=
 q9 (ql6 (IntKind.u64.wrap (b.length:Int)) (IntKind.u64.wrap a)) (λc=>
 (if ((decide (0<c.1))||(decide (9223372036854775807<c.2)))=true then none
 else q7v b c))
def q7k(b:List aR)(a:Int):Option (List aR):=
 (if (decide (a<0))=true then none
 else q7w b a)
theorem z3p(b:List aR)(d:Int)(r:List aR)(h:q7k b d=some r):bu pp 130 [.sl 2 (enc b),.v (.int .i64 d)] [] 0 (.osl 0 2 (0) (r.length)) [(0,.arr 2 (enc r))] 1:=by
 refine dtI Tryz.func130 rfl ?_;rw[q7k]at h;have F:=trivial;refine sM ?_;refine q3e (λ(_:Unit)=>q7w b d=some r) [0,1] (λ_=>([],[])) 0 ?_ ?_
 .
  intro _ m;refine sM ?_;refine sB h (λ_ h=>?_) λ_ h=>?_
  . exact absurd h (by simp)
  exact au
 rintro⟨⟩ h
 try dsimp only at h
 rw[q7w]at h;refine sg λ_ n=>?_;simp only[go_sem];refine q2b h λe h=>?_;simp only[go_sem];refine q8 n (q3e (λ(_:Unit)=>q7v b e=some r) [0,6] (λ_=>([],[])) 0 ?_ ?_)
 .
  intro _ o;refine sM ?_;refine sB h (λ_ h=>?_) λ_ h=>?_
  . exact absurd h (by simp)
  exact au
 rintro⟨⟩ h
 try dsimp only at h
 rw[q7v]at h;refine sg λ_ p=>?_;obtain⟨F,h⟩:=bG F h;have k:Xw (Xd (i64.wrap e.2)) [.v (.int .i64 0),.v (.int .i64 0)]=enc (Xw (Xd (i64.wrap e.2)) (⟨0,0⟩:aR)):=by (simp[enc,z0d,qv1,q71,q0w];exact .inr rfl)
 simp only[go_sem,F];simp only[k];refine q8 p (sg λ_ q=>?_);obtain⟨j,h⟩:=q07 h;have F:=Xc F j;simp only[Xi]at j;have g:Xe (0) (enc (Xw (Xd (i64.wrap e.2)) (⟨0,0⟩:aR)))++enc (Xe ((Xd (i64.wrap e.2))) b)++Xu (0+Xk (Xe ((Xd (i64.wrap e.2))) b)) (enc (Xw (Xd (i64.wrap e.2)) (⟨0,0⟩:aR)))=enc ((Xe ((Xd (i64.wrap e.2))) b)++Xu (Xk (Xe ((Xd (i64.wrap e.2))) b)) (Xw (Xd (i64.wrap e.2)) (⟨0,0⟩:aR))):=by simp[enc,List.map_take,List.map_drop]
 simp only[Xi,List.take_zero,Xn]at g;simp only[go_sem,j,g];refine q8 q (jg λ_ w=>?_);refine w9 λ_ y=>?_;refine q0e h [] (λx=>([(7,.osl 0 2 (0) (x.2.length)),(8,.v (.int .i64 x.1))],[(0,.arr 2 (enc x.2))])) 1 ?_;rintro s ⟨a,c⟩ h _ z;rw[qd4]at h;refine sg λ_ t=>?_;refine sM ?_;refine sB h (λ_ h=>?_) λ_ h=>?_
 .
  refine y5 (q8 t (w9 λ_ u=>?_));refine q00 ?_;refine q1r 8 0 0 [0,0,0,6,0,0,48,126,255,511] [0] [0] [] [7] [] mixed (by kernel_rfl) (of_decide_eq_true (by kernel_rfl)) (by kernel_rfl) (by kernel_rfl) (by rfl) ?_;obtain⟨F,h⟩:=bG F h;obtain⟨F,h⟩:=bG F h;obtain⟨F,h⟩:=bG F h;obtain⟨f,h⟩:=q07 h;have F:=Xc F f;simp only[Xi]at f;have l:Xe (a.toNat) (enc c)++enc (Xe ((c.length-a.toNat)) (Xe (a.toNat) c))++Xu (a.toNat+Xk (Xe ((c.length-a.toNat)) (Xe (a.toNat) c))) (enc c)=enc (Xe (a.toNat) c++(Xe ((c.length-a.toNat)) (Xe (a.toNat) c))++Xu (a.toNat+Xk (Xe ((c.length-a.toNat)) (Xe (a.toNat) c))) c):=by simp[enc,List.map_take,List.map_drop]
  simp only[go_sem,f,l,F];exact au
 exact au
def qu7(e:List a7)(c:Int×(List aR)->Option ((List aR)×Bool)):Int×(List aR)->Option ((List aR)×Bool):=
 λ(a,d)=>
 (if (decide (a<(e.length:Int)))=true then q9 (idx e a) (λb=>
 q9 (q7k ([b.Rec]:List aR) b.N) (λf=>
 x9 ((d.length+f.length)*16<=140737488355328) (
 c (i64.wrap (a+1),(d++f)))))
 else some (d,true))
def qu6(a:List a7):Option ((List aR)×Bool):=
 q02 (qu7 a) rounds (0,[])
def z1o(d:List a7)(e:Int×Int->Option ((List aR)×Bool)):Int×Int->Option ((List aR)×Bool):=
 λ(b,a)=>
 (if (decide (a<(d.length:Int)))=true then q9 (idx d a) (λc=>
 (if (decide (65536<(i64.wrap (b+c.N))))=true then some (([]:List aR),false)
 else e (i64.wrap (b+c.N),i64.wrap (a+1))))
 else qu6 d)
def qr1(a:List a7):Option ((List aR)×Bool):=
 q9 (ql2 a) (λb=>
 q02 (z1o b) rounds (0,0))
theorem z5t(e:List a7)(r:(List aR)×Bool)(h:qr1 e=some r):bu pp 83 [.sl 3 (enc e)] [] 0 (.tup [.osl 0 2 (0) (r.1.length),.v (.bool r.2)]) [(0,.arr 2 (enc r.1))] 1:=by
 refine dtI Tryz.func83 rfl ?_;rw[qr1]at h;have F:=trivial;refine sM ?_;refine sg λ_ q=>?_;obtain⟨b,f,h⟩:=z8 h;simp only[go_sem];refine q1l [] (z4i e b f) ?_;simp only[go_sem];refine q8 q (sM ?_);refine q3e (λ(_:Unit)=>qu6 b=some r) [4] (λ_=>([],[(0,.arr 3 (enc b))])) 1 ?_ ?_
 . intro _ s;refine sM ?_;refine w9 λ_ t=>?_;refine q0e h [4,13,14] (λx=>([(5,.v (.int .i64 x.1)),(15,.v (.int .i64 x.2))],[(0,.arr 3 (enc b))])) 1 ?_;rintro u ⟨p,l⟩ h _ w;rw[z1o]at h;exact au
 rintro⟨⟩ h
 try dsimp only at h
 rw[qu6]at h;refine sM ?_;refine jg λ_ B=>?_;refine sM ?_;refine w9 λ_ C=>?_;refine q0e h [27] (λx=>([(8,.osl 0 2 (0) (x.2.length)),(26,.osl 1 3 (0) (b.length)),(28,.v (.int .i64 x.1))],[(0,.arr 2 (enc x.2)),(1,.arr 3 (enc b))])) 2 ?_;rintro y ⟨m,c⟩ h _ D;rw[qu7]at h;refine sM ?_;refine sg λ_ n=>?_;refine sB h (λ_ h=>?_) λ_ h=>?_
 .
  refine y5 (q8 n (sg λ_ z=>?_));refine w9 λ_ A=>?_;refine sg λ_ o=>?_;obtain⟨a,F,h⟩:=bI F h;simp only[go_sem,F];refine ai ?_;refine q8 o ?_;have g:[[.v (.int .i64 a.Rec.K),.v (.int .i64 a.Rec.V)]]=enc ([a.Rec]:List aR):=by rfl
  obtain⟨d,j,h⟩:=z8 h;simp only[go_sem];simp only[g];refine qe1 [8,26,27,28,32] ([],[(0,.arr 2 (enc c)),(1,.arr 3 (enc b)),(2,.box (Row.row a))]) 3 [some 0,some 1,some 2] [.sl 2 (enc ([a.Rec]:List aR)),.v (.int .i64 a.N)] ?_;refine q1l [] (z3p ([a.Rec]:List aR) a.N d j) ?_;obtain⟨F,h⟩:=bG F h;have k:enc c++enc d=enc (c++d):=by exact (q2v c d).symm
  simp only[go_sem,k,F];refine Xc (by (intros;simp_all;done)) ?_;exact au
 exact au
def q8u(a:af):Option (af×Bool):=
 q9 (q4k a) (λb=>
 (if ((!b)||(a.D==1))=true then some ((⟨0,(⟨0,0,0,0⟩:bq Int)⟩:af),false)
 else x9 (0<=i64.wrap (a.D-1)/\i64.wrap (a.D-1)<4) (
 q9 (some (if Xd (i64.wrap (a.D-1))=0 then 0 else a.C.a0)) (λc=>
 q9 (some (if Xd (i64.wrap (a.D-1))=1 then 0 else a.C.a1)) (λd=>
 q9 (some (if Xd (i64.wrap (a.D-1))=2 then 0 else a.C.a2)) (λe=>
 q9 (some (if Xd (i64.wrap (a.D-1))=3 then 0 else a.C.a3)) (λf=>
 some ((⟨i64.wrap (a.D-1),(⟨c,d,e,f⟩:bq Int)⟩:af),true))))))))
instance jo4(a:af):Ct pp 49 (q8u a) [.agg (Row.row a)] λr=>(.tup [.agg (Row.row r.1),.v (.bool r.2)]):=ctK Tryz.func49 rfl (by rw[q8u]) (by
 intro r h F;refine sM ?_;refine sg λ_ n=>?_;refine sg λ_ o=>?_;simp only[go_sem];refine q2b h λp h=>?_;simp only[go_sem];refine q8 o (sB h (λ_ h=>?_) λ_ h=>?_)
 . exact au
 refine y5 (q8 n (sM ?_));refine sg λ_ q=>?_;obtain⟨F,h⟩:=bG F h;obtain⟨j,c,h⟩:=z8 h;obtain⟨k,d,h⟩:=z8 h;obtain⟨l,e,h⟩:=z8 h;obtain⟨m,g,h⟩:=z8 h;have b:=qs6 (f:=(λy=>AV.v (.int .i64 y))) [.v (.int .i64 (i64.wrap (a.D-1)))] [] [a.C.a0,a.C.a1,a.C.a2,a.C.a3] [j,k,l,m] (Xd (i64.wrap (a.D-1))) 0 (by simp only[Xf,Xh];omega) (by simp only[X0,X3,Xi,Xm,Xa c,Xa d,Xa e,Xa g]);simp only[Xo,Xn,Xq,Xt,Xv,Xf,Xh,Xi,Xm,q4p,X4,Xy,q0w]at b;simp only[go_sem,b,Xp,F];refine ai ?_;exact au)
def q8v(a:af):Option (af×Bool):=
 q9 (q4k a) (λb=>
 (if ((!b)||(a.D==4))=true then some ((⟨0,(⟨0,0,0,0⟩:bq Int)⟩:af),false)
 else some ((⟨i64.wrap (a.D+1),a.C⟩:af),true)))
instance jo5(a:af):Ct pp 98 (q8v a) [.agg (Row.row a)] λr=>(.tup [.agg (Row.row r.1),.v (.bool r.2)]):=ctI Tryz.func98 rfl (by rw[q8v];exact au1)
def qb5(a:af):Option (af×Bool):=
 q9 (q4k a) (λd=>
 (if d=true then x9 (0<=i64.wrap (a.D-1)/\i64.wrap (a.D-1)<4) (
 q9 (idx ([a.C.a0,a.C.a1,a.C.a2,a.C.a3]:List Int) (i64.wrap (a.D-1))) (λc=>
 q9 (q8k (i64.wrap (a.D-1))) (λe=>
 (if (c==e)=true then some ((⟨0,(⟨0,0,0,0⟩:bq Int)⟩:af),false)
 else x9 (0<=i64.wrap (a.D-1)/\i64.wrap (a.D-1)<4) (
 q9 (idx ([a.C.a0,a.C.a1,a.C.a2,a.C.a3]:List Int) (i64.wrap (a.D-1))) (λb=>
 x9 (0<=i64.wrap (a.D-1)/\i64.wrap (a.D-1)<4) (
 q9 (some (if Xd (i64.wrap (a.D-1))=0 then i64.wrap (b+1)else a.C.a0)) (λf=>
 q9 (some (if Xd (i64.wrap (a.D-1))=1 then i64.wrap (b+1)else a.C.a1)) (λg=>
 q9 (some (if Xd (i64.wrap (a.D-1))=2 then i64.wrap (b+1)else a.C.a2)) (λj=>
 q9 (some (if Xd (i64.wrap (a.D-1))=3 then i64.wrap (b+1)else a.C.a3)) (λk=>
 some ((⟨a.D,(⟨f,g,j,k⟩:bq Int)⟩:af),true))))))))))))
 else some ((⟨0,(⟨0,0,0,0⟩:bq Int)⟩:af),false)))
instance jt2(b:af):Ct pp 99 (qb5 b) [.agg (Row.row b)] λr=>(.tup [.agg (Row.row r.1),.v (.bool r.2)]):=ctK Tryz.func99 rfl (by rw[qb5]) (by
 intro r h F;refine sM ?_;refine sg λ_ L=>?_;refine sg λ_ M=>?_;refine q00 ?_;refine jy5 ?_;obtain⟨k,l,h⟩:=z8 h;simp only[go_sem];refine bx (λ_=>(z7m b k l)) (by rfl) (by rfl) ?_;simp only[go_sem];rcases d:k with _|_
 . replace h:=q2s h d;simp only[go_sem,d];exact au
 replace h:=q2r h d;obtain⟨F,h⟩:=bG F h;obtain⟨K,z,h⟩:=z8 h;obtain⟨A,m,n,c⟩:=q4i (f:=(λy=>AV.v (.int .i64 y))) [.v (.int .i64 b.D)] [] z;simp only[Xo,Xn,Xq,Xt,Xv,Xf,Xh,Xi,Xm,q0w]at m n c;obtain⟨B,o,h⟩:=z8 h;simp only[go_sem,d,A,m,n,c,F];refine ai ?_;simp only[Xj,Xp,c,Xs,Xr,true_and];refine bx (λ_=>(zd1 (i64.wrap (b.D-1)) B o)) (by rfl) (by rfl) ?_;simp only[go_sem];refine q8 M (sB h (λ_ h=>?_) λ_ h=>?_)
 . exact au
 refine y5 (q8 L (sg λ_ N=>?_));obtain⟨F,h⟩:=bG F h;obtain⟨p,E,h⟩:=z8 h;obtain⟨q,g,j,a⟩:=q4i (f:=(λy=>AV.v (.int .i64 y))) [.v (.int .i64 b.D)] [] E;simp only[Xo,Xn,Xq,Xt,Xv,Xf,Xh,Xi,Xm,q0w]at g j a;obtain⟨F,h⟩:=bG F h;obtain⟨G,s,h⟩:=z8 h;obtain⟨H,t,h⟩:=z8 h;obtain⟨I,u,h⟩:=z8 h;obtain⟨J,w,h⟩:=z8 h;have e:=qs6 (f:=(λy=>AV.v (.int .i64 y))) [.v (.int .i64 b.D)] [] [b.C.a0,b.C.a1,b.C.a2,b.C.a3] [G,H,I,J] (Xd (i64.wrap (b.D-1))) (i64.wrap (p+1)) (by simp only[Xf,Xh];omega) (by simp only[X0,X3,Xi,Xm,Xa s,Xa t,Xa u,Xa w]);simp only[Xo,Xn,Xq,Xt,Xv,Xf,Xh,Xi,Xm,q4p,X4,Xy,q0w]at e;simp only[go_sem,q,g,j,a,e,Xp,F];simp only[Xj,Xp,a,Xs,Xr,true_and];simp only[go_sem,q,g,j,a,e,Xp,Xj,Xp,a,Xs,Xr,true_and,F];refine ai ?_;exact au)
def z0p(d:List a7)(c:Int×Int->Option Int):Int×Int->Option Int:=
 λ(b,a)=>
 (if (decide (a<(d.length:Int)))=true then q9 (idx d a) (λe=>
 c (i64.wrap (b+e.N),i64.wrap (a+1)))
 else some b)
def qt1(a:List a7):Option Int:=
 q02 (z0p a) rounds (0,0)
instance zm6(a:List a7):Ct pp 103 (qt1 a) [.sl 3 (enc a)] λr=>(.v (.int .i64 r)):=ctK Tryz.func103 rfl (by rw[qt1]) (by
 intro r h F;refine sM ?_;refine sM ?_;refine jg λ_ e=>?_;refine sM ?_;refine w9 λ_ f=>?_;refine q0e h [6,7] (λx=>([(3,.v (.int .i64 x.1)),(8,.v (.int .i64 x.2))],[])) 0 ?_;rintro d ⟨b,c⟩ h _ g;rw[z0p]at h;exact au)
def q3f(b:a8)(c:Int)(a:Int)(f:af)(j:List a7):Option a8:=
 (if ((j.length:Int)==0)=true then some b
 else (qu8 (q3c b.ins.1 ((⟨c,f⟩:ah))) (x9 (Key.okb ((⟨c,f⟩:ah))=true) (
 x9 (0<=a/\a<2) (
 q9 (idx ([([]:List a7),([]:List a7)]:List (List a7)) a) (λk=>
 q9 (q31 k j) (λl=>
 x9 (0<=a/\a<2) (
 q9 (some (if a.toNat=0 then l else ([]:List a7))) (λp=>
 q9 (some (if a.toNat=1 then l else ([]:List a7))) (λq=>
 some (⟨b.g,(Xl (b.ins.1++[(⟨c,f⟩:ah)]) (Xb (b.ins.2++[(⟨([]:List a7),([]:List a7)⟩:aP (List a7))]) (b.ins.1.length) (⟨p,q⟩:aP (List a7)))),b.ay,b.aE,b.work,b.aC,b.outs,b.e⟩:a8)))))))))
 (λm=>q9 (atK b.ins.2 m) (λd=>
 x9 (0<=a/\a<2) (
 q9 (idx ([d.a0,d.a1]:List (List a7)) a) (λn=>
 q9 (q31 n j) (λo=>
 x9 (0<=a/\a<2) (
 q9 (some (if a.toNat=0 then o else d.a0)) (λs=>
 q9 (some (if a.toNat=1 then o else d.a1)) (λt=>
 some (⟨b.g,(Xl b.ins.1 (Xb b.ins.2 m (⟨s,t⟩:aP (List a7)))),b.ay,b.aE,b.work,b.aC,b.outs,b.e⟩:a8)))))))))))
theorem qb9(a:a8)(d:Int)(m:Int)(c:af)(z:List a7)(r:a8)(h:q3f a d m c z=some r):bu pp 20 [.ptr 0 0,.v (.int .i64 d),.v (.int .i64 m),.agg (Row.row c),.sl 3 (enc z)] [(0,.box [.sl 1 (enc a.g.ae),.sl 1 (enc a.g.aG),.sl 4 (enc a.g.al),.sl 4 (enc a.g.aw),.mp 1,.mp 2,.mp 3,.v (.int .i64 a.work),.v (.int .i64 a.aC),.osl 4 4 (0) (a.outs.length),.v (.int .i64 a.e)]),(1,.con (p8 pp 116 0 (d9 a.ins.1) (enc a.ins.2) none) []),(2,.con (p8 pp 3 1 (d9 a.ay.1) (enc a.ay.2) none) []),(3,.con (p8 pp 116 2 (d9 a.aE.1) (enc a.aE.2) none) []),(4,.arr 4 (enc a.outs))] 5 (.tup []) [(0,.box [.sl 1 (enc r.g.ae),.sl 1 (enc r.g.aG),.sl 4 (enc r.g.al),.sl 4 (enc r.g.aw),.mp 1,.mp 2,.mp 3,.v (.int .i64 r.work),.v (.int .i64 r.aC),.osl 5 4 (0) (r.outs.length),.v (.int .i64 r.e)]),(1,.con (p8 pp 116 0 (d9 r.ins.1) (enc r.ins.2) none) []),(2,.con (p8 pp 3 1 (d9 r.ay.1) (enc r.ay.2) none) []),(3,.con (p8 pp 116 2 (d9 r.aE.1) (enc r.aE.2) none) []),(5,.arr 4 (enc r.outs))] 6:=by
 unfold bu;refine Spec.of_wp Tryz.func20 rfl (by kernel_rfl) (by kernel_rfl) ?_;rw[q3f]at h;refine sgW λ_ Q1=>?_;refine wv ?_;simp only[go_sem];refine y7 Q1 ?_;refine sgW λ_ Q2=>?_;refine sgW λ_ Q3=>?_;refine wv ?_;simp only[go_sem];refine y7 Q3 ?_;refine q4o (b:=((z.length:Int)==0)) (by (simp only[go_sem];done)) (λo=>?_) (λo=>?_)
 .
  replace h:=q2r h o;simp only[bool_to_prop]at o;refine wv ?_;refine q04 (qv0 Q2 ?_);simp only[go_sem];obtain rfl:=Xa h;refine q27 [some 4] ?_;simp only[go_sem,Le]<;>(repeat' apply Xc)<;>(try with_reducible refine q03 ?_)<;>first|omega|(simp[go_sem];done)
 replace h:=q2s h o;simp only[bool_to_prop]at o;refine wv ?_;refine y5 (y7 Q2 ?_);refine sgW λ_ Q4=>?_;refine wv ?_;simp only[go_sem];refine y7 Q4 ?_;refine sgW λ_ Q5=>?_;refine sgW λ_ Q6=>?_;refine qd6 h (λA h=>?_) (λw A h=>?_)
 .
  obtain⟨b4,h⟩:=q07 h;have E:¬(Value.agg ⟨[.int .i64 d,.int .i64 c.D,.int .i64 c.C.a0,.int .i64 c.C.a1,.int .i64 c.C.a2,.int .i64 c.C.a3]⟩)∈d9 a.ins.1:=qo7 A;have G:∃l,keyOf pp 116 (Value.agg ⟨[.int .i64 d,.int .i64 c.D,.int .i64 c.C.a0,.int .i64 c.C.a1,.int .i64 c.C.a2,.int .i64 c.C.a3]⟩)=some l:=z3e ((⟨d,c⟩:ah)) b4;refine q8s ?_;refine wv ?_;refine q00 ?_;refine jy5 ?_;simp only[go_sem,q42,E,G];refine q2q ?_;refine y7 Q6 ?_;refine j2z (by (simp only[go_sem];done)) ?_;refine q8s ?_;refine wv ?_;refine q00 ?_;refine q1r 7 0 0 [0,1,3,7,0,0,32,127] [7] [0,1,2,3,4] [] [6] [] mixed (by kernel_rfl) (of_decide_eq_true (by kernel_rfl)) (by kernel_rfl) (by kernel_rfl) (by rfl) ?_;simp only[go_sem];refine z1w [.sl 3 (enc ([]:List a7)),.sl 3 (enc ([]:List a7))] ?_ rfl trivial trivial trivial rfl rfl zk0 q42 rfl G E;have K:d9 a.ins.1++[(Value.agg ⟨[.int .i64 d,.int .i64 c.D,.int .i64 c.C.a0,.int .i64 c.C.a1,.int .i64 c.C.a2,.int .i64 c.C.a3]⟩)]=d9 (a.ins.1++[(⟨d,c⟩:ah)]):=z3m a.ins.1 (⟨d,c⟩:ah);have L:enc a.ins.2++[[.sl 3 (enc ([]:List a7)),.sl 3 (enc ([]:List a7))]]=enc (a.ins.2++[(⟨([]:List a7),([]:List a7)⟩:aP (List a7))]):=(q2v a.ins.2 [(⟨([]:List a7),([]:List a7)⟩:aP (List a7))]).symm;have n:(d9 (a.ins.1++[(⟨d,c⟩:ah)]))[a.ins.1.length]?=some (Value.agg ⟨[.int .i64 d,.int .i64 c.D,.int .i64 c.C.a0,.int .i64 c.C.a1,.int .i64 c.C.a2,.int .i64 c.C.a3]⟩):=z4l a.ins.1 (⟨d,c⟩:ah);rw[K,L,z3l];simp only[go_sem];refine q8h (λ_ _ _ _ H=>H.fR (id:=7) [.sl 3 (enc ([]:List a7)),.sl 3 (enc ([]:List a7))] rfl ⟨.inr ⟨rfl,_,rfl⟩,.inr ⟨rfl,_,rfl⟩,trivial⟩) ?_;refine q2q ?_
  refine y7 Q5 ?_;refine q8s ?_;refine wv ?_;refine q00 ?_;refine jy5 ?_;obtain⟨Q,h⟩:=q07 h;obtain⟨R,b5,h⟩:=z8 h;obtain⟨S,M,N,j⟩:=q4i (f:=(λy=>AV.sl 3 (enc y))) [] [] b5;simp only[Xo,Xn,Xq,Xt,Xv,Xf,Xh,Xi,Xm,q0w]at M N j;obtain⟨T,U,h⟩:=z8 h;simp only[go_sem,q42,n,q42,n,Q,S,M,N,j];refine Xc (by first|omega|(intros;simp_all;done)) ?_;refine Xc (by first|omega|(intros;simp_all;done)) ?_;simp only[Xj,Xp,j,Xs,Xr,true_and];simp only[go_sem,q42,n,q42,n,Q,S,M,N,j,Xj,Xp,j,Xs,Xr,true_and];refine bx (λ_=>(qk2 R z T U)) (by rfl) (by rfl) ?_;obtain⟨b6,h⟩:=q07 h;obtain⟨q,V,h⟩:=z8 h;obtain⟨s,W,h⟩:=z8 h;have I:=qs6 (f:=(λy=>AV.sl 3 (enc y))) [] [] [([]:List a7),([]:List a7)] [q,s] (m.toNat) T (by simp only[Xf,Xh];omega) (by simp only[X0,X3,Xi,Xm,Xa V,Xa W]);simp only[Xo,Xn,Xq,Xt,Xv,Xf,Xh,Xi,Xm,q4p,X4,Xy,q0w]at I;simp only[go_sem,b6,I,Xp];refine Xc (by omega) ?_
  have X:enc (Xb (a.ins.2++[(⟨([]:List a7),([]:List a7)⟩:aP (List a7))]) (a.ins.1.length) (⟨q,s⟩:aP (List a7)))=(enc (a.ins.2++[(⟨([]:List a7),([]:List a7)⟩:aP (List a7))])).set (a.ins.1.length) [.sl 3 (enc q),.sl 3 (enc s)]:=q9j (a.ins.2++[(⟨([]:List a7),([]:List a7)⟩:aP (List a7))]) (a.ins.1.length) (⟨q,s⟩:aP (List a7));refine q8h (λ_ _ _ _ H=>H.dF (id:=1) (id2:=7) (r:=[.sl 3 (enc q),.sl 3 (enc s)]) [.sl 3 (enc q),.sl 3 (enc s)] rfl rfl rfl ⟨.inl rfl,.inl rfl,trivial⟩ (R':=enc (Xb (a.ins.2++[(⟨([]:List a7),([]:List a7)⟩:aP (List a7))]) (a.ins.1.length) (⟨q,s⟩:aP (List a7)))) X) ?_;refine q2q ?_;simp only[go_sem];obtain rfl:=Xa h;refine q27 [some 4] ?_;simp only[go_sem,Le]<;>(repeat' apply Xc)<;>(try with_reducible refine q03 ?_)<;>first|omega|(simp[go_sem];done)
 obtain⟨B,Y,h⟩:=z8 h;have p:(d9 a.ins.1)[w]?=some (Value.agg ⟨[.int .i64 d,.int .i64 c.D,.int .i64 c.C.a0,.int .i64 c.C.a1,.int .i64 c.C.a2,.int .i64 c.C.a3]⟩):=qo6 A;refine reW (λ_ _ _ _ H=>H.fq (id:=1) (i:=w) (r:=[.sl 3 (enc B.a0),.sl 3 (enc B.a1)]) rfl (z3k Y)) ?_;refine q8s ?_;refine wv ?_;refine q00 ?_;refine jy5 ?_;simp only[go_sem,q42,p];refine q2q ?_;refine y7 Q6 ?_;refine jm4 (by (simp only[go_sem];done)) ?_;refine wv ?_;refine y5 (y7 Q5 ?_);refine q8s ?_;refine wv ?_;refine q00 ?_;refine jy5 ?_;obtain⟨Z,h⟩:=q07 h;obtain⟨a6,bc,h⟩:=z8 h;obtain⟨ao,O,P,k⟩:=q4i (f:=(λy=>AV.sl 3 (enc y))) [] [] bc;simp only[Xo,Xn,Xq,Xt,Xv,Xf,Xh,Xi,Xm,q0w]at O P k;obtain⟨ar,b0,h⟩:=z8 h;simp only[go_sem,q42,p,q42,p,Z,ao,O,P,k];refine Xc (by first|omega|(intros;simp_all;done)) ?_;refine Xc (by first|omega|(intros;simp_all;done)) ?_;simp only[Xj,Xp,k,Xs,Xr,true_and];simp only[go_sem,q42,p,q42,p,Z,ao,O,P,k,Xj,Xp,k,Xs,Xr,true_and];refine bx (λ_=>(qk2 a6 z ar b0)) (by rfl) (by rfl) ?_;obtain⟨bi,h⟩:=q07 h;obtain⟨t,b1,h⟩:=z8 h;obtain⟨u,b2,h⟩:=z8 h;have J:=qs6 (f:=(λy=>AV.sl 3 (enc y))) [] [] [B.a0,B.a1] [t,u] (m.toNat) ar (by simp only[Xf,Xh];omega) (by simp only[X0,X3,Xi,Xm,Xa b1,Xa b2])
 simp only[Xo,Xn,Xq,Xt,Xv,Xf,Xh,Xi,Xm,q4p,X4,Xy,q0w]at J;simp only[go_sem,bi,J,Xp];refine Xc (by omega) ?_;have b3:enc (Xb a.ins.2 w (⟨t,u⟩:aP (List a7)))=(enc a.ins.2).set w [.sl 3 (enc t),.sl 3 (enc u)]:=q9j a.ins.2 w (⟨t,u⟩:aP (List a7));refine q8h (λ_ _ _ _ H=>H.dF (id:=1) (id2:=7) (r:=[.sl 3 (enc t),.sl 3 (enc u)]) [.sl 3 (enc t),.sl 3 (enc u)] rfl rfl rfl ⟨.inl rfl,.inl rfl,trivial⟩ (R':=enc (Xb a.ins.2 w (⟨t,u⟩:aP (List a7)))) b3) ?_;refine q2q ?_;simp only[go_sem];obtain rfl:=Xa h;refine q27 [some 4] ?_;simp only[go_sem,Le]<;>(repeat' apply Xc)<;>(try with_reducible refine q03 ?_)<;>first|omega|(simp[go_sem];done)
def q4m(a:a8)(b:Unit->Option ((List a7)×a8)):Unit->Option ((List a7)×a8):=
 λ_=>
 (if (decide (0<0))=true then none
 else some (([]:List a7),a))
def q30(c:a8)(f:Int)(m:af)(g:List aD)(b:Int×(List a7)->Option ((List a7)×a8)):Int×(List a7)->Option ((List a7)×a8):=
 λ(a,e)=>
 (if (decide (a<(g.length:Int)))=true then q9 (idx g a) (λd=>
 q9 (z0l d.Time m) (λn=>
 (if n=true then (qu8 (q3c c.aE.1 ((⟨f,d.Time⟩:ah))) (x9 (Key.okb ((⟨f,d.Time⟩:ah))=true) (
 q9 (q31 e ([]:List a7)) (λj=>
 b (i64.wrap (a+1),j))))
 (λo=>q9 (atK c.aE.2 o) (λk=>
 q9 (q31 e k) (λl=>
 b (i64.wrap (a+1),l)))))
 else b (i64.wrap (a+1),e))))
 else some (e,c))
def q13(a:a8)(b:Int)(c:af):Option ((List a7)×a8):=
 (qu8 (q3c a.ay.1 b) (x9 (Key.okb b=true) (
 q02 (q4m a) rounds ()))
 (λd=>q9 (atK a.ay.2 d) (λe=>
 q02 (q30 a b c e) rounds (0,[]))))
theorem q4a(a:a8)(d:Int)(m:af)(r:(List a7)×a8)(h:q13 a d m=some r):bu pp 101 [.ptr 0 0,.v (.int .i64 d),.agg (Row.row m)] [(0,.box [.sl 1 (enc a.g.ae),.sl 1 (enc a.g.aG),.sl 4 (enc a.g.al),.sl 4 (enc a.g.aw),.mp 1,.mp 2,.mp 3,.v (.int .i64 a.work),.v (.int .i64 a.aC),.osl 4 4 (0) (a.outs.length),.v (.int .i64 a.e)]),(1,.con (p8 pp 116 0 (d9 a.ins.1) (enc a.ins.2) none) []),(2,.con (p8 pp 3 1 (d9 a.ay.1) (enc a.ay.2) none) []),(3,.con (p8 pp 116 2 (d9 a.aE.1) (enc a.aE.2) none) []),(4,.arr 4 (enc a.outs))] 5 (.osl 5 3 (0) (r.1.length)) [(0,.box [.sl 1 (enc r.2.g.ae),.sl 1 (enc r.2.g.aG),.sl 4 (enc r.2.g.al),.sl 4 (enc r.2.g.aw),.mp 1,.mp 2,.mp 3,.v (.int .i64 r.2.work),.v (.int .i64 r.2.aC),.osl 6 4 (0) (r.2.outs.length),.v (.int .i64 r.2.e)]),(1,.con (p8 pp 116 0 (d9 r.2.ins.1) (enc r.2.ins.2) none) []),(2,.con (p8 pp 3 1 (d9 r.2.ay.1) (enc r.2.ay.2) none) []),(3,.con (p8 pp 116 2 (d9 r.2.aE.1) (enc r.2.aE.2) none) []),(5,.arr 3 (enc r.1)),(6,.arr 4 (enc r.2.outs))] 7:=by
 unfold bu;refine Spec.of_wp Tryz.func101 rfl (by kernel_rfl) (by kernel_rfl) ?_;rw[q13]at h;refine sgW λ_ Q1=>?_;refine wv ?_;simp only[go_sem];refine y7 Q1 ?_;refine sgW λ_ Q2=>?_;refine wv ?_;simp only[go_sem];refine y7 Q2 ?_;refine sgW λ_ Q3=>?_;refine sgW λ_ Q4=>?_;refine qd6 h (λt h=>?_) (λs t h=>?_)
 .
  obtain⟨Y,h⟩:=q07 h;have N:¬(Value.int .i64 d)∈d9 a.ay.1:=qo7 t;have O:∃l,keyOf pp 3 (Value.int .i64 d)=some l:=j6v d Y;refine q8s ?_;refine wv ?_;simp only[go_sem,z5p,N,O];refine q2q ?_;refine y7 Q4 ?_;refine qk3 λ_ Q5=>?_;refine z98 (ι:=Nat×Unit) (λ((_,_):Nat×Unit)=>(⟨5,[(0,.ptr 0 0),(1,.v (.int .i64 d)),(5,.ptr 5 0),(7,.v (.slice none 0 0)),(15,.v (.slice none 0 0)),(16,.v (.int .i64 0)),(17,.v (.int .i64 0))],[(0,.box [.sl 1 (enc a.g.ae),.sl 1 (enc a.g.aG),.sl 4 (enc a.g.al),.sl 4 (enc a.g.aw),.mp 1,.mp 2,.mp 3,.v (.int .i64 a.work),.v (.int .i64 a.aC),.osl 4 4 (0) (a.outs.length),.v (.int .i64 a.e)]),(1,.con (p8 pp 116 0 (d9 a.ins.1) (enc a.ins.2) none) []),(2,.con (p8 pp 3 1 (d9 a.ay.1) (enc a.ay.2) none) []),(3,.con (p8 pp 116 2 (d9 a.aE.1) (enc a.aE.2) none) []),(4,.arr 4 (enc a.outs)),(5,.box (Row.row m))],6,38⟩:St)) (λ((Z,u_):Nat×Unit)=>q02 (q4m a) Z u_=some r) (λp=>p.1) (rounds,()) [some 5] ?_ h ?_
  . simp only[go_sem,Le]<;>(repeat' apply Xc)<;>(try with_reducible refine q03 ?_)<;>first|omega|(simp[go_sem];done)
  rintro⟨bi,_⟩ h _ Q6
  dsimp only at h;replace h:=qg4 h;obtain⟨bk,rfl,h⟩:=h;rw[q4m]at h;refine sgW λ_ Q7=>?_;refine wv ?_;simp only[go_sem];refine y7 Q7 ?_;refine sgW λ_ Q8=>?_;refine q4o (b:=(decide (0<0))) (by (simp only[go_sem];done)) (λn=>?_) (λn=>?_)
  .
   replace h:=q2r h n;simp only[bool_to_prop]at n;refine wv ?_;refine y5 (y7 Q8 ?_);refine sgW λ_ Q9=>?_;refine qk3 λ_ bs=>?_;refine sgW λ_ bv=>?_;refine wv ?_;exact absurd h (by simp)
  replace h:=q2s h n;simp only[bool_to_prop]at n;refine wv ?_;refine q0u (qw3 Q8 ?_);refine q0v Q6 (q0m Q5 (y7 Q3 ?_));refine sgW λ_ a6=>?_;refine wv ?_;simp only[go_sem];refine y7 a6 ?_;refine wv ?_;refine q04 ?_;simp only[go_sem];obtain rfl:=Xa h;refine q27 [none,some 4] ?_;simp only[go_sem,Le]<;>(repeat' apply Xc)<;>(try with_reducible refine q03 ?_)<;>first|omega|(simp[go_sem];done)
 obtain⟨j,B,h⟩:=z8 h;have P:(d9 a.ay.1)[s]?=some (Value.int .i64 d):=qo6 t;refine reW (λ_ _ _ _ H=>H.fk (id:=2) (i:=s) (isz:=6) (xs:=enc j) rfl (z3k B)) ?_;simp only[q1c];refine q8s ?_;refine wv ?_;simp only[go_sem,z5p,P];refine q2q ?_;refine y7 Q4 ?_;refine qk3 λ_ ao=>?_;refine z98 (ι:=Nat×Int×(List a7)) (λ((_,f,k):Nat×Int×(List a7))=>(⟨5,[(0,.ptr 0 0),(1,.v (.int .i64 d)),(5,.ptr 5 0),(7,.osl 6 3 (0) (k.length)),(15,.osl 7 6 (0) (j.length)),(16,.v (.int .i64 (j.length:Int))),(17,.v (.int .i64 f))],[(0,.box [.sl 1 (enc a.g.ae),.sl 1 (enc a.g.aG),.sl 4 (enc a.g.al),.sl 4 (enc a.g.aw),.mp 1,.mp 2,.mp 3,.v (.int .i64 a.work),.v (.int .i64 a.aC),.osl 4 4 (0) (a.outs.length),.v (.int .i64 a.e)]),(1,.con (p8 pp 116 0 (d9 a.ins.1) (enc a.ins.2) none) []),(2,.con (p8 pp 3 1 (d9 a.ay.1) (enc a.ay.2) (some s)) [.osl 7 6 (0) (j.length)]),(3,.con (p8 pp 116 2 (d9 a.aE.1) (enc a.aE.2) none) []),(4,.arr 4 (enc a.outs)),(5,.box (Row.row m)),(6,.arr 3 (enc k)),(7,.arr 6 (enc j))],8,38⟩:St)) (λ((Z,f,k):Nat×Int×(List a7))=>q02 (q30 a d m j) Z (f,k)=some r) (λp=>p.1) (rounds,0,[]) [some 5,none,some 6] ?_ h ?_
 . simp only[go_sem,Le]<;>(repeat' apply Xc)<;>(try with_reducible refine q03 ?_)<;>first|omega|(simp[go_sem];done)
 rintro⟨c1,f,k⟩ h _ z
 dsimp only at h;replace h:=qg4 h;obtain⟨I,rfl,h⟩:=h;rw[q30]at h;refine sgW λ_ ar=>?_;refine wv ?_;simp only[go_sem];refine y7 ar ?_;refine sgW λ_ Q=>?_;refine q4o (b:=(decide (f<(j.length:Int)))) (by (simp only[go_sem];done)) (λo=>?_) (λo=>?_)
 .
  replace h:=q2r h o;simp only[bool_to_prop]at o;refine wv ?_;refine y5 (y7 Q ?_);refine sgW λ_ J=>?_;refine qk3 λ_ K=>?_;refine sgW λ_ b0=>?_;refine wv ?_;obtain⟨c,b1,h⟩:=z8 h;obtain⟨b2,b3,b4⟩:=q8i b1;simp only[go_sem,b2,b3,b4];refine Xc (by omega) ?_;refine y7 b0 ?_;refine sgW λ_ b5=>?_;refine wv ?_;obtain⟨R,S,h⟩:=z8 h;simp only[go_sem];refine q9s (j4q c.Time m R S) (by rfl) (by rfl) ?_;simp only[go_sem];refine y7 b5 ?_;refine q4o (b:=R) (by (simp only[go_sem];done)) (λu=>?_) (λu=>?_)
  .
   replace h:=q2r h u;refine qd6 h (λw h=>?_) (λA w h=>?_)
   .
    obtain⟨b6,h⟩:=q07 h;have T:¬(Value.agg ⟨[.int .i64 d,.int .i64 c.Time.D,.int .i64 c.Time.C.a0,.int .i64 c.Time.C.a1,.int .i64 c.Time.C.a2,.int .i64 c.Time.C.a3]⟩)∈d9 a.aE.1:=qo7 w;have U:∃l,keyOf pp 116 (Value.agg ⟨[.int .i64 d,.int .i64 c.Time.D,.int .i64 c.Time.C.a0,.int .i64 c.Time.C.a1,.int .i64 c.Time.C.a2,.int .i64 c.Time.C.a3]⟩)=some l:=z3e ((⟨d,c.Time⟩:ah)) b6;refine q8s ?_;refine wv ?_;refine q00 ?_;refine jy5 ?_;obtain⟨E,L,h⟩:=z8 h;simp only[go_sem,q42,T,U];refine qr5 (s':=(⟨5,[(0,.ptr 0 0),(1,.v (.int .i64 d)),(5,.ptr 5 0),(7,.sl 3 (enc k)),(15,.osl 6 6 (0) (j.length)),(16,.v (.int .i64 (j.length:Int))),(17,.v (.int .i64 f))],[(0,.box [.sl 1 (enc a.g.ae),.sl 1 (enc a.g.aG),.sl 4 (enc a.g.al),.sl 4 (enc a.g.aw),.mp 1,.mp 2,.mp 3,.v (.int .i64 a.work),.v (.int .i64 a.aC),.osl 4 4 (0) (a.outs.length),.v (.int .i64 a.e)]),(1,.con (p8 pp 116 0 (d9 a.ins.1) (enc a.ins.2) none) []),(2,.con (p8 pp 3 1 (d9 a.ay.1) (enc a.ay.2) (some s)) [.osl 6 6 (0) (j.length)]),(3,.con (p8 pp 116 2 (d9 a.aE.1) (enc a.aE.2) none) []),(4,.arr 4 (enc a.outs)),(5,.box (Row.row m)),(6,.arr 6 (enc j)),(7,.box (Row.row c))],8,38⟩:St)) (l:=[some 5,some 7,some 8]) (args':=[.sl 3 (enc k),.sl 3 (enc ([]:List a7))]) ?_ ?_ ?_
    . simp only[go_sem,Le]<;>(repeat' apply Xc)<;>(try with_reducible refine q03 ?_)<;>first|omega|(simp[go_sem];done)
    . simp only[go_sem,Le]<;>(repeat' apply Xc)<;>((try with_reducible refine q03 ?_);(simp[go_sem];done))
    refine q5t [] (qr0 k ([]:List a7) E L) (by simp) rfl trivial rfl rfl rfl rfl ?_;simp only[go_sem];refine q2q ?_;refine q08 K (y7 J ?_);refine wv ?_;simp only[go_sem];refine u6 z (⟨(I,i64.wrap (f+1),E),[some 5,some 8,some 6],?_,h,Xx _⟩);simp only[go_sem,Le]<;>(repeat' apply Xc)<;>(try with_reducible refine q03 ?_)<;>first|omega|(simp[go_sem];done)
   obtain⟨q,y,h⟩:=z8 h;have V:(d9 a.aE.1)[A]?=some (Value.agg ⟨[.int .i64 d,.int .i64 c.Time.D,.int .i64 c.Time.C.a0,.int .i64 c.Time.C.a1,.int .i64 c.Time.C.a2,.int .i64 c.Time.C.a3]⟩):=qo6 w;refine reW (λ_ _ _ _ H=>H.eD (id:=3) (i:=A) (x:=.sl 3 (enc q)) rfl (z3k y)) ?_;refine q8s ?_;refine wv ?_;refine q00 ?_;refine jy5 ?_;obtain⟨G,M,h⟩:=z8 h;simp only[go_sem,q42,V];refine qr5 (s':=(⟨5,[(0,.ptr 0 0),(1,.v (.int .i64 d)),(5,.ptr 5 0),(7,.sl 3 (enc k)),(15,.osl 6 6 (0) (j.length)),(16,.v (.int .i64 (j.length:Int))),(17,.v (.int .i64 f))],[(0,.box [.sl 1 (enc a.g.ae),.sl 1 (enc a.g.aG),.sl 4 (enc a.g.al),.sl 4 (enc a.g.aw),.mp 1,.mp 2,.mp 3,.v (.int .i64 a.work),.v (.int .i64 a.aC),.osl 4 4 (0) (a.outs.length),.v (.int .i64 a.e)]),(1,.con (p8 pp 116 0 (d9 a.ins.1) (enc a.ins.2) none) []),(2,.con (p8 pp 3 1 (d9 a.ay.1) (enc a.ay.2) (some s)) [.osl 6 6 (0) (j.length)]),(3,.con (p8 pp 116 2 (d9 a.aE.1) (enc a.aE.2) (some A)) [.sl 3 (enc q)]),(4,.arr 4 (enc a.outs)),(5,.box (Row.row m)),(6,.arr 6 (enc j)),(7,.box (Row.row c))],8,38⟩:St)) (l:=[some 5,some 7,some 8]) (args':=[.sl 3 (enc k),.sl 3 (enc q)]) ?_ ?_ ?_
   . simp only[go_sem,Le]<;>(repeat' apply Xc)<;>(try with_reducible refine q03 ?_)<;>first|omega|(simp[go_sem];done)
   . simp only[go_sem,Le]<;>(repeat' apply Xc)<;>((try with_reducible refine q03 ?_);(simp[go_sem];done))
   refine q5t [] (qr0 k q G M) (by simp) rfl trivial rfl rfl rfl rfl ?_;simp only[go_sem];have W:enc a.aE.2=(enc a.aE.2).set A [.sl 3 (enc q)]:=zd4 y;refine q8h (λ_ _ _ _ H=>H.da (id:=3) rfl rfl (R':=enc a.aE.2) W) ?_;refine q2q ?_;refine q08 K (y7 J ?_);refine wv ?_;simp only[go_sem];refine u6 z (⟨(I,i64.wrap (f+1),G),[some 5,some 8,some 6],?_,h,Xx _⟩);simp only[go_sem,Le]<;>(repeat' apply Xc)<;>(try with_reducible refine q03 ?_)<;>first|omega|(simp[go_sem];done)
  replace h:=q2s h u;refine wv ?_;refine y5 (q08 K (y7 J ?_));refine wv ?_;simp only[go_sem];refine u6 z (⟨(I,i64.wrap (f+1),k),[some 5,some 6,some 7],?_,h,Xx _⟩);simp only[go_sem,Le]<;>(repeat' apply Xc)<;>(try with_reducible refine q03 ?_)<;>first|omega|(simp[go_sem];done)
 replace h:=q2s h o;simp only[bool_to_prop]at o;refine wv ?_;refine q0u (qw3 Q ?_);refine q0v z (q0m ao (y7 Q3 ?_));refine sgW λ_ bc=>?_;refine wv ?_;simp only[go_sem];refine y7 bc ?_;have X:enc a.ay.2=(enc a.ay.2).set s [.sl 6 (enc j)]:=zd4 B;refine reW (λ_ _ _ _ H=>H.dr (id:=2) (id2:=7) rfl rfl (by simp[q1c]) (R':=enc a.ay.2) X) ?_;refine wv ?_;refine q04 ?_;simp only[go_sem];obtain rfl:=Xa h;refine q27 [some 6,some 4] ?_;simp only[go_sem,Le]<;>(repeat' apply Xc)<;>(try with_reducible refine q03 ?_)<;>first|omega|(simp[go_sem];done)
def q4g(a:a8)(e:Int)(d:af):Option (af×Bool×a8):=
 q9 (idx a.g.al e) (λc=>
 (if (c.Kind==10)=true then q9 (q8v d) (λf=>
 some (f.1,f.2,a))
 else (if (c.Kind==11)=true then q9 (q8u d) (λj=>
 some (j.1,j.2,a))
 else (if (c.Kind==12)=true then q9 (qb5 d) (λb=>
 (if b.2=true then x9 (0<=i64.wrap (b.1.D-1)/\i64.wrap (b.1.D-1)<4) (
 q9 (idx ([b.1.C.a0,b.1.C.a1,b.1.C.a2,b.1.C.a3]:List Int) (i64.wrap (b.1.D-1))) (λk=>
 q9 (idx a.g.aG c.Scope) (λl=>
 some (b.1,(decide (k<l)),a))))
 else some (b.1,false,a)))
 else some (d,true,a)))))
theorem qx7(a:a8)(d:Int)(j:af)(r:af×Bool×a8)(h:q4g a d j=some r):bu pp 102 [.ptr 0 0,.v (.int .i64 d),.agg (Row.row j)] [(0,.box [.sl 1 (enc a.g.ae),.sl 1 (enc a.g.aG),.sl 4 (enc a.g.al),.sl 4 (enc a.g.aw),.mp 1,.mp 2,.mp 3,.v (.int .i64 a.work),.v (.int .i64 a.aC),.osl 4 4 (0) (a.outs.length),.v (.int .i64 a.e)]),(1,.con (p8 pp 116 0 (d9 a.ins.1) (enc a.ins.2) none) []),(2,.con (p8 pp 3 1 (d9 a.ay.1) (enc a.ay.2) none) []),(3,.con (p8 pp 116 2 (d9 a.aE.1) (enc a.aE.2) none) []),(4,.arr 4 (enc a.outs))] 5 (.tup [.agg (Row.row r.1),.v (.bool r.2.1)]) [(0,.box [.sl 1 (enc r.2.2.g.ae),.sl 1 (enc r.2.2.g.aG),.sl 4 (enc r.2.2.g.al),.sl 4 (enc r.2.2.g.aw),.mp 1,.mp 2,.mp 3,.v (.int .i64 r.2.2.work),.v (.int .i64 r.2.2.aC),.osl 5 4 (0) (r.2.2.outs.length),.v (.int .i64 r.2.2.e)]),(1,.con (p8 pp 116 0 (d9 r.2.2.ins.1) (enc r.2.2.ins.2) none) []),(2,.con (p8 pp 3 1 (d9 r.2.2.ay.1) (enc r.2.2.ay.2) none) []),(3,.con (p8 pp 116 2 (d9 r.2.2.aE.1) (enc r.2.2.aE.2) none) []),(5,.arr 4 (enc r.2.2.outs))] 6:=by
 refine dtI Tryz.func102 rfl ?_;rw[q4g]at h;have F:=trivial;refine sM ?_;refine sg λ_ u=>?_;obtain⟨q,F,h⟩:=bI F h;simp only[go_sem,F];refine ai ?_;refine q8 u (sg λ_ z=>?_);refine sM ?_;refine w9 λ_ A=>?_;refine sM ?_;refine sB h (λ_ h=>?_) λ_ h=>?_
 . exact au
 refine sM ?_;refine sB h (λ_ h=>?_) λ_ h=>?_
 . exact au
 refine sM ?_;refine sB h (λ_ h=>?_) λ_ h=>?_
 .
  refine sg λ_ n=>?_;simp only[go_sem];refine q2b h λk h=>?_;simp only[go_sem];refine q8 n (sg λ_ w=>?_);refine q00 ?_;refine q1r 21 0 0 [0,0,2,6,14,30,6,126,254,6,518,1542,3590,7686,6,16390,65030,130566,262142,524286,7,2097151] [6] [3,4,5,6,7,8,9,10,11,12,13,14,15,16,17,18,19] [] [20] [] mixed (by kernel_rfl) (of_decide_eq_true (by kernel_rfl)) (by kernel_rfl) (by kernel_rfl) (by rfl) ?_;simp only[go_sem];rcases c:k.2 with _|_
  . replace h:=q2s h c;simp only[go_sem,c];exact au
  replace h:=q2r h c;obtain⟨F,h⟩:=bG F h;obtain⟨s,o,h⟩:=z8 h;obtain⟨p,l,m,b⟩:=q4i (f:=(λy=>AV.v (.int .i64 y))) [.v (.int .i64 k.1.D)] [] o;simp only[Xo,Xn,Xq,Xt,Xv,Xf,Xh,Xi,Xm,q0w]at l m b;obtain⟨t,F,h⟩:=bI F h;simp only[go_sem,c,p,l,m,b,F];refine ai ?_;refine ai ?_;simp only[Xj,Xp,b,Xs,Xr,true_and];exact au
 exact au
def q5e(a:a8):Option (Bool×a8):=
 (if (decide (a.aC<a.work))=true then some (true,(⟨a.g,a.ins,a.ay,a.aE,a.work,a.aC,a.outs,9⟩:a8))
 else some (true,a))
def q3s(l:Int)(d:af×Bool×a8)(f:(List a7)×Int×a8->Option (Bool×a8)):(List a7)×Int×a8->Option (Bool×a8):=
 λ(c,b,k)=>
 (if (decide (b<(d.2.2.g.aw.length:Int)))=true then q9 (idx d.2.2.g.aw b) (λj=>
 (if (j.aO==l)=true then q9 (q3f k j.To j.Port d.1 c) (λa=>
 q9 (qt1 c) (λm=>
 f (c,i64.wrap (b+1),(⟨a.g,a.ins,a.ay,a.aE,i64.wrap (a.work+m),a.aC,a.outs,a.e⟩:a8))))
 else f (c,i64.wrap (b+1),k)))
 else q5e k)
def q5f(b:Int)(d:af)(e:a8)(c:(List a7)×Bool):Option (Bool×a8):=
 q9 (q4g e b d) (λa=>
 (if ((!a.2.1)||((c.1.length:Int)==0))=true then some (false,a.2.2)
 else q02 (q3s b a) rounds (c.1,0,a.2.2)))
def q3r(d:Int)(k:af)(f:(List aR)×Bool)(j:Int×a8->Option (Bool×a8)):Int×a8->Option (Bool×a8):=
 λ(b,a)=>
 (if (decide (b<(f.1.length:Int)))=true then q9 (idx f.1 b) (λc=>
 x9 ((a.outs.length+Xk ([(⟨d,k.C.a0,c⟩:aB)]:List aB))*32<=140737488355328) (
 j (i64.wrap (b+1),(⟨a.g,a.ins,a.ay,a.aE,a.work,a.aC,(a.outs++([(⟨d,k.C.a0,c⟩:aB)]:List aB)),a.e⟩:a8))))
 else some (false,a))
def q14(c:Int)(f:af)(d:aN)(b:List (List a7))(a:a8):Option (Bool×a8):=
 q9 (q70 d b) (λe=>
 (if (!e.2)=true then some (false,(⟨a.g,a.ins,a.ay,a.aE,a.work,a.aC,a.outs,9⟩:a8))
 else (if (d.Kind==15)=true then q9 (qr1 e.1) (λj=>
 q02 (q3r c f j) rounds (0,a))
 else q5f c f a e)))
def q4s(a:a8)(b:Int)(c:af):Option (Bool×a8):=
 (qu8 (q3c a.ins.1 ((⟨b,c⟩:ah))) (x9 (Key.okb ((⟨b,c⟩:ah))=true) (
 some (false,a)))
 (λf=>q9 (atK a.ins.2 f) (λd=>
 (if (!(a.e==0))=true then some (false,a)
 else q9 (idx a.g.al b) (λj=>
 x9 (0<=0/\0<=2/\2<=2) (
 (if (j.Kind==14)=true then (qu8 (q3c a.ay.1 b) (x9 (Key.okb b=true) (
 x9 ((Xk ([(⟨c,1⟩:aD)]:List aD))*48<=140737488355328) (
 (qu8 (q3c a.aE.1 ((⟨b,c⟩:ah))) (x9 (Key.okb ((⟨b,c⟩:ah))=true) (
 q9 (q13 (⟨a.g,Xl (Xg a.ins.1 f) (Xg a.ins.2 f),(Xl (a.ay.1++[b]) (Xb (a.ay.2++[([(⟨c,1⟩:aD)]:List aD)]) (a.ay.1.length) ([(⟨c,1⟩:aD)]:List aD))),(Xl (a.aE.1++[(⟨b,c⟩:ah)]) (Xb (a.aE.2++[d.a0]) (a.aE.1.length) d.a0)),a.work,a.aC,a.outs,a.e⟩:a8) b c) (λl=>
 q14 b c j ([d.a0,l.1]:List (List a7)) l.2)))
 (λq=>q9 (atK a.aE.2 q) (λt=>
 q9 (q13 (⟨a.g,Xl (Xg a.ins.1 f) (Xg a.ins.2 f),(Xl (a.ay.1++[b]) (Xb (a.ay.2++[([(⟨c,1⟩:aD)]:List aD)]) (a.ay.1.length) ([(⟨c,1⟩:aD)]:List aD))),Xl a.aE.1 (Xb a.aE.2 q d.a0),a.work,a.aC,a.outs,a.e⟩:a8) b c) (λm=>
 q14 b c j ([d.a0,m.1]:List (List a7)) m.2)))))))
 (λp=>q9 (atK a.ay.2 p) (λk=>
 x9 ((k.length+Xk ([(⟨c,1⟩:aD)]:List aD))*48<=140737488355328) (
 (qu8 (q3c a.aE.1 ((⟨b,c⟩:ah))) (x9 (Key.okb ((⟨b,c⟩:ah))=true) (
 q9 (q13 (⟨a.g,Xl (Xg a.ins.1 f) (Xg a.ins.2 f),(Xl a.ay.1 (Xb a.ay.2 p (k++([(⟨c,1⟩:aD)]:List aD)))),(Xl (a.aE.1++[(⟨b,c⟩:ah)]) (Xb (a.aE.2++[d.a0]) (a.aE.1.length) d.a0)),a.work,a.aC,a.outs,a.e⟩:a8) b c) (λn=>
 q14 b c j ([d.a0,n.1]:List (List a7)) n.2)))
 (λs=>q9 (atK a.aE.2 s) (λu=>
 q9 (q13 (⟨a.g,Xl (Xg a.ins.1 f) (Xg a.ins.2 f),(Xl a.ay.1 (Xb a.ay.2 p (k++([(⟨c,1⟩:aD)]:List aD)))),Xl a.aE.1 (Xb a.aE.2 s d.a0),a.work,a.aC,a.outs,a.e⟩:a8) b c) (λo=>
 q14 b c j ([d.a0,o.1]:List (List a7)) o.2))))))))
 else q14 b c j ([d.a0,d.a1]:List (List a7)) (⟨a.g,Xl (Xg a.ins.1 f) (Xg a.ins.2 f),a.ay,a.aE,a.work,a.aC,a.outs,a.e⟩:a8))))))))
theorem qz7(a:a8)(d:Int)(c:af)(r:Bool×a8)(h:q4s a d c=some r):bu pp 50 [.ptr 0 0,.v (.int .i64 d),.agg (Row.row c)] [(0,.box [.sl 1 (enc a.g.ae),.sl 1 (enc a.g.aG),.sl 4 (enc a.g.al),.sl 4 (enc a.g.aw),.mp 1,.mp 2,.mp 3,.v (.int .i64 a.work),.v (.int .i64 a.aC),.osl 4 4 (0) (a.outs.length),.v (.int .i64 a.e)]),(1,.con (p8 pp 116 0 (d9 a.ins.1) (enc a.ins.2) none) []),(2,.con (p8 pp 3 1 (d9 a.ay.1) (enc a.ay.2) none) []),(3,.con (p8 pp 116 2 (d9 a.aE.1) (enc a.aE.2) none) []),(4,.arr 4 (enc a.outs))] 5 (.v (.bool r.1)) [(0,.box [.sl 1 (enc r.2.g.ae),.sl 1 (enc r.2.g.aG),.sl 4 (enc r.2.g.al),.sl 4 (enc r.2.g.aw),.mp 1,.mp 2,.mp 3,.v (.int .i64 r.2.work),.v (.int .i64 r.2.aC),.osl 5 4 (0) (r.2.outs.length),.v (.int .i64 r.2.e)]),(1,.con (p8 pp 116 0 (d9 r.2.ins.1) (enc r.2.ins.2) none) []),(2,.con (p8 pp 3 1 (d9 r.2.ay.1) (enc r.2.ay.2) none) []),(3,.con (p8 pp 116 2 (d9 r.2.aE.1) (enc r.2.aE.2) none) []),(5,.arr 4 (enc r.2.outs))] 6:=by
 unfold bu;refine Spec.of_wp Tryz.func50 rfl (by kernel_rfl) (by kernel_rfl) ?_;rw[q4s]at h;refine sgW λ_ Q1=>?_;refine wv ?_;simp only[go_sem];refine y7 Q1 ?_;refine sgW λ_ Q2=>?_;refine qd6 h (λa6 h=>?_) (λA a6 h=>?_)
 .
  obtain⟨g8,h⟩:=q07 h;have e5:¬(Value.agg ⟨[.int .i64 d,.int .i64 c.D,.int .i64 c.C.a0,.int .i64 c.C.a1,.int .i64 c.C.a2,.int .i64 c.C.a3]⟩)∈d9 a.ins.1:=qo7 a6;have e6:∃l,keyOf pp 116 (Value.agg ⟨[.int .i64 d,.int .i64 c.D,.int .i64 c.C.a0,.int .i64 c.C.a1,.int .i64 c.C.a2,.int .i64 c.C.a3]⟩)=some l:=z3e ((⟨d,c⟩:ah)) g8;refine q8s ?_;refine wv ?_;refine q00 ?_;refine jy5 ?_;simp only[go_sem,q42,e5,e6];refine q2q ?_;refine y7 Q2 ?_;refine sgW λ_ Q3=>?_;refine sgW λ_ Q4=>?_;refine wv ?_;simp only[go_sem];refine y7 Q4 ?_;refine j2z (by (simp only[go_sem];done)) ?_;refine sgW λ_ Q5=>?_;refine wv ?_;simp only[go_sem];refine y7 Q5 ?_;refine wv ?_;refine q04 (qv0 Q3 ?_);simp only[go_sem];obtain rfl:=Xa h;refine q27 [some 4] ?_;simp only[go_sem,Le]<;>(repeat' apply Xc)<;>(try with_reducible refine q03 ?_)<;>first|omega|(simp[go_sem];done)
 obtain⟨f,b4,h⟩:=z8 h;have b5:(d9 a.ins.1)[A]?=some (Value.agg ⟨[.int .i64 d,.int .i64 c.D,.int .i64 c.C.a0,.int .i64 c.C.a1,.int .i64 c.C.a2,.int .i64 c.C.a3]⟩):=qo6 a6;refine reW (λ_ _ _ _ H=>H.fq (id:=1) (i:=A) (r:=[.sl 3 (enc f.a0),.sl 3 (enc f.a1)]) rfl (z3k b4)) ?_;refine q8s ?_;refine wv ?_;refine q00 ?_;refine jy5 ?_;simp only[go_sem,q42,b5];refine q2q ?_;refine y7 Q2 ?_;refine sgW λ_ Q6=>?_;refine sgW λ_ Q7=>?_;refine wv ?_;simp only[go_sem];refine y7 Q7 ?_;refine q4o (b:=(!(a.e==0))) (by (simp only[go_sem];done)) (λQ=>?_) (λQ=>?_)
 .
  replace h:=q2r h Q;simp only[bool_to_prop]at Q;refine sgW λ_ Q8=>?_;refine wv ?_;simp only[go_sem];refine y7 Q8 ?_;have ea:enc a.ins.2=(enc a.ins.2).set A [.sl 3 (enc f.a0),.sl 3 (enc f.a1)]:=zd4 b4;refine reW (λ_ _ _ _ H=>H.dF (id:=1) (id2:=6) (r:=[.sl 3 (enc f.a0),.sl 3 (enc f.a1)]) [.sl 3 (enc f.a0),.sl 3 (enc f.a1)] rfl rfl rfl ⟨.inl rfl,.inl rfl,trivial⟩ (R':=enc a.ins.2) ea) ?_;refine wv ?_;refine q04 (qv0 Q6 ?_);simp only[go_sem];obtain rfl:=Xa h;refine q27 [some 4] ?_;simp only[go_sem,Le]<;>(repeat' apply Xc)<;>(try with_reducible refine q03 ?_)<;>first|omega|(simp[go_sem];done)
 replace h:=q2s h Q;simp only[bool_to_prop]at Q;refine wv ?_;refine y5 (y7 Q6 ?_);refine sgW λ_ Q9=>?_;refine q8s ?_;refine wv ?_;refine q00 ?_;refine jy5 ?_;simp only[go_sem];refine j3v ?_ rfl rfl rfl rfl trivial trivial rfl rfl zk0 q42 rfl b5;simp only[go_sem];refine q2q ?_;refine y7 Q9 ?_;refine sgW λ_ g9=>?_;refine wv ?_;obtain⟨N,gb,h⟩:=z8 h;obtain⟨gn,gw,gx⟩:=q8i gb;simp only[go_sem,gn,gw,gx];refine Xc (by omega) ?_;refine y7 g9 ?_;refine sgW λ_ gy=>?_;refine wv ?_;obtain⟨gz,h⟩:=q07 h;simp only[go_sem,gz];refine y7 gy ?_;refine j0r (ι:=(List (List a7))×a8) (λ((s,j):(List (List a7))×a8)=>(⟨5,[(0,.ptr 0 0),(1,.v (.int .i64 d)),(5,.ptr 5 0),(8,.ptr 6 0),(9,.sl 1 (enc s))],[(0,.box [.sl 1 (enc j.g.ae),.sl 1 (enc j.g.aG),.sl 4 (enc j.g.al),.sl 4 (enc j.g.aw),.mp 1,.mp 2,.mp 3,.v (.int .i64 j.work),.v (.int .i64 j.aC),.osl 7 4 (0) (j.outs.length),.v (.int .i64 j.e)]),(1,.con (p8 pp 116 0 (d9 j.ins.1) (enc j.ins.2) none) []),(2,.con (p8 pp 3 1 (d9 j.ay.1) (enc j.ay.2) none) []),(3,.con (p8 pp 116 2 (d9 j.aE.1) (enc j.aE.2) none) []),(5,.box (Row.row c)),(6,.box (Row.row N)),(7,.arr 4 (enc j.outs))],8,191⟩:St)) (λ((s,j):(List (List a7))×a8)=>q14 d c N s j=some r) ?_ ?_
 .
  intro _ ao;refine sgW λ_ gA=>?_;refine wv ?_;simp only[go_sem];refine y7 gA ?_;refine q4o (b:=(N.Kind==14)) (by (simp only[go_sem];done)) (λE=>?_) (λE=>?_)
  .
   replace h:=q2r h E;simp only[bool_to_prop]at E;refine sgW λ_ eb=>?_;refine qd6 h (λar h=>?_) (λB ar h=>?_)
   .
    obtain⟨ef,h⟩:=q07 h;have b6:¬(Value.int .i64 d)∈d9 a.ay.1:=qo7 ar;have bc:∃l,keyOf pp 3 (Value.int .i64 d)=some l:=j6v d ef;refine q8s ?_;refine wv ?_;refine q00 ?_;refine q1r 15 0 0 [0,1,3,7,0,0,32,96,224,0,992,0,2048,6144,16352,32767] [8] [0,1,2,3,4] [] [14] [] mixed (by kernel_rfl) (of_decide_eq_true (by kernel_rfl)) (by kernel_rfl) (by kernel_rfl) (by rfl) ?_;have c1:[[.v (.int .i64 c.D),.v (.int .i64 c.C.a0),.v (.int .i64 c.C.a1),.v (.int .i64 c.C.a2),.v (.int .i64 c.C.a3),.v (.int .i64 1)]]=enc ([(⟨c,1⟩:aD)]:List aD):=by rfl
    obtain⟨bi,h⟩:=q07 h;simp only[Xf,Xh,Xi,Xz]at bi;simp only[go_sem,z5p,b6,bc,bi];simp only[c1];refine z1w [.sl 6 (enc ([(⟨c,1⟩:aD)]:List aD))] ?_ rfl trivial trivial trivial rfl rfl zj9 z5p rfl bc b6;have c2:d9 a.ay.1++[(Value.int .i64 d)]=d9 (a.ay.1++[d]):=z3m a.ay.1 d;have c4:enc a.ay.2++[[.sl 6 (enc ([(⟨c,1⟩:aD)]:List aD))]]=enc (a.ay.2++[([(⟨c,1⟩:aD)]:List aD)]):=(q2v a.ay.2 [([(⟨c,1⟩:aD)]:List aD)]).symm;have gB:(d9 (a.ay.1++[d]))[a.ay.1.length]?=some (Value.int .i64 d):=z4l a.ay.1 d;rw[c2,c4,z3l];simp only[go_sem];refine q2q ?_;refine y7 eb ?_;refine sgW λ_ ei=>?_;refine qd6 h (λb0 h=>?_) (λY b0 h=>?_)
    .
     obtain⟨ek,h⟩:=q07 h;have eo:¬(Value.agg ⟨[.int .i64 d,.int .i64 c.D,.int .i64 c.C.a0,.int .i64 c.C.a1,.int .i64 c.C.a2,.int .i64 c.C.a3]⟩)∈d9 a.aE.1:=qo7 b0;have er:∃l,keyOf pp 116 (Value.agg ⟨[.int .i64 d,.int .i64 c.D,.int .i64 c.C.a0,.int .i64 c.C.a1,.int .i64 c.C.a2,.int .i64 c.C.a3]⟩)=some l:=z3e ((⟨d,c⟩:ah)) ek;refine q8s ?_;refine wv ?_;refine q00 ?_;refine jy5 ?_;simp only[go_sem];refine z1w [.sl 3 (enc f.a0)] ?_ rfl trivial trivial trivial rfl rfl z5g q42 rfl er eo;have c5:d9 a.aE.1++[(Value.agg ⟨[.int .i64 d,.int .i64 c.D,.int .i64 c.C.a0,.int .i64 c.C.a1,.int .i64 c.C.a2,.int .i64 c.C.a3]⟩)]=d9 (a.aE.1++[(⟨d,c⟩:ah)]):=z3m a.aE.1 (⟨d,c⟩:ah);have c6:enc a.aE.2++[[.sl 3 (enc f.a0)]]=enc (a.aE.2++[f.a0]):=(q2v a.aE.2 [f.a0]).symm;have gC:(d9 (a.aE.1++[(⟨d,c⟩:ah)]))[a.aE.1.length]?=some (Value.agg ⟨[.int .i64 d,.int .i64 c.D,.int .i64 c.C.a0,.int .i64 c.C.a1,.int .i64 c.C.a2,.int .i64 c.C.a3]⟩):=z4l a.aE.1 (⟨d,c⟩:ah);rw[c5,c6,z3l];simp only[go_sem];have es:enc (Xb (a.ay.2++[([(⟨c,1⟩:aD)]:List aD)]) (a.ay.1.length) ([(⟨c,1⟩:aD)]:List aD))=(enc (a.ay.2++[([(⟨c,1⟩:aD)]:List aD)])).set (a.ay.1.length) [.sl 6 (enc ([(⟨c,1⟩:aD)]:List aD))]:=q9j (a.ay.2++[([(⟨c,1⟩:aD)]:List aD)]) (a.ay.1.length) ([(⟨c,1⟩:aD)]:List aD);refine q8h (λ_ _ _ _ H=>H.dr (id:=2) (id2:=8) rfl rfl (by simp[q1c]) (R':=enc (Xb (a.ay.2++[([(⟨c,1⟩:aD)]:List aD)]) (a.ay.1.length) ([(⟨c,1⟩:aD)]:List aD))) es) ?_
     have c7:enc (Xb (a.aE.2++[f.a0]) (a.aE.1.length) f.a0)=(enc (a.aE.2++[f.a0])).set (a.aE.1.length) [.sl 3 (enc f.a0)]:=q9j (a.aE.2++[f.a0]) (a.aE.1.length) f.a0;refine q8h (λ_ _ _ _ H=>H.da (id:=3) rfl rfl (R':=enc (Xb (a.aE.2++[f.a0]) (a.aE.1.length) f.a0)) c7) ?_;refine q2q ?_;refine y7 ei ?_;refine wv ?_;refine q00 ?_;refine q1r 8 0 0 [0,1,3,7,0,0,0,112,255,511] [0,1,2,3,4,9,10] [0,1,2,3] [] [7] [] mixed (by kernel_rfl) (of_decide_eq_true (by kernel_rfl)) (by kernel_rfl) (by kernel_rfl) (by rfl) ?_;obtain⟨R,c8,h⟩:=z8 h;simp only[go_sem];refine qx4 [0,1,2,3,4] (q4a (⟨a.g,Xl (Xg a.ins.1 A) (Xg a.ins.2 A),(Xl (a.ay.1++[d]) (Xb (a.ay.2++[([(⟨c,1⟩:aD)]:List aD)]) (a.ay.1.length) ([(⟨c,1⟩:aD)]:List aD))),(Xl (a.aE.1++[(⟨d,c⟩:ah)]) (Xb (a.aE.2++[f.a0]) (a.aE.1.length) f.a0)),a.work,a.aC,a.outs,a.e⟩:a8) d c R c8) rfl ⟨rfl,⟨rfl,⟨rfl,⟨rfl,⟨rfl,trivial⟩⟩⟩⟩⟩ rfl rfl rfl rfl ?_;have gD:[[.sl 3 (enc f.a0)],[.sl 3 (enc R.1)]]=enc ([f.a0,R.1]:List (List a7)):=by rfl
     simp only[go_sem];refine u6 ao (⟨(([f.a0,R.1]:List (List a7)),R.2),[some 5,some 7,some 10],?_,h⟩);simp only[go_sem,Le]<;>(repeat' apply Xc)<;>(try with_reducible refine q03 ?_)<;>first|omega|(simp[go_sem];done)|((try with_reducible refine q03 ?_);(simp[go_sem,enc,q71];done))
    obtain⟨et,c9,h⟩:=z8 h;have cb:(d9 a.aE.1)[Y]?=some (Value.agg ⟨[.int .i64 d,.int .i64 c.D,.int .i64 c.C.a0,.int .i64 c.C.a1,.int .i64 c.C.a2,.int .i64 c.C.a3]⟩):=qo6 b0;refine reW (λ_ _ _ _ H=>H.eD (id:=3) (i:=Y) (x:=.sl 3 (enc et)) rfl (z3k c9)) ?_;refine q8s ?_;refine wv ?_;refine q00 ?_;refine jy5 ?_;simp only[go_sem];refine z6j ?_ rfl trivial trivial trivial rfl rfl z5g q42 rfl cb;simp only[go_sem];have cc:enc (Xb (a.ay.2++[([(⟨c,1⟩:aD)]:List aD)]) (a.ay.1.length) ([(⟨c,1⟩:aD)]:List aD))=(enc (a.ay.2++[([(⟨c,1⟩:aD)]:List aD)])).set (a.ay.1.length) [.sl 6 (enc ([(⟨c,1⟩:aD)]:List aD))]:=q9j (a.ay.2++[([(⟨c,1⟩:aD)]:List aD)]) (a.ay.1.length) ([(⟨c,1⟩:aD)]:List aD);refine q8h (λ_ _ _ _ H=>H.dr (id:=2) (id2:=8) rfl rfl (by simp[q1c]) (R':=enc (Xb (a.ay.2++[([(⟨c,1⟩:aD)]:List aD)]) (a.ay.1.length) ([(⟨c,1⟩:aD)]:List aD))) cc) ?_;have cd:enc (Xb a.aE.2 Y f.a0)=(enc a.aE.2).set Y [.sl 3 (enc f.a0)]:=q9j a.aE.2 Y f.a0;refine q8h (λ_ _ _ _ H=>H.da (id:=3) rfl rfl (R':=enc (Xb a.aE.2 Y f.a0)) cd) ?_;refine q2q ?_;refine y7 ei ?_;refine wv ?_;refine q00 ?_;refine q1r 8 0 0 [0,1,3,7,0,0,0,112,255,511] [0,1,2,3,4,9,10] [0,1,2,3] [] [7] [] mixed (by kernel_rfl) (of_decide_eq_true (by kernel_rfl)) (by kernel_rfl) (by kernel_rfl) (by rfl) ?_;obtain⟨S,cp,h⟩:=z8 h;simp only[go_sem]
    refine qx4 [0,1,2,3,4] (q4a (⟨a.g,Xl (Xg a.ins.1 A) (Xg a.ins.2 A),(Xl (a.ay.1++[d]) (Xb (a.ay.2++[([(⟨c,1⟩:aD)]:List aD)]) (a.ay.1.length) ([(⟨c,1⟩:aD)]:List aD))),Xl a.aE.1 (Xb a.aE.2 Y f.a0),a.work,a.aC,a.outs,a.e⟩:a8) d c S cp) rfl ⟨rfl,⟨rfl,⟨rfl,⟨rfl,⟨rfl,trivial⟩⟩⟩⟩⟩ rfl rfl rfl rfl ?_;have gE:[[.sl 3 (enc f.a0)],[.sl 3 (enc S.1)]]=enc ([f.a0,S.1]:List (List a7)):=by rfl
    simp only[go_sem];refine u6 ao (⟨(([f.a0,S.1]:List (List a7)),S.2),[some 5,some 7,some 10],?_,h⟩);simp only[go_sem,Le]<;>(repeat' apply Xc)<;>(try with_reducible refine q03 ?_)<;>first|omega|(simp[go_sem];done)|((try with_reducible refine q03 ?_);(simp[go_sem,enc,q71];done))
   obtain⟨m,cs,h⟩:=z8 h;have b1:(d9 a.ay.1)[B]?=some (Value.int .i64 d):=qo6 ar;refine reW (λ_ _ _ _ H=>H.fk (id:=2) (i:=B) (isz:=6) (xs:=enc m) rfl (z3k cs)) ?_;simp only[q1c];refine q8s ?_;refine wv ?_;refine q00 ?_;refine q1r 15 0 0 [0,1,3,7,0,0,32,96,224,0,992,0,2048,6144,16352,32767] [8,9] [0,1,2,3,4] [] [14] [] mixed (by kernel_rfl) (of_decide_eq_true (by kernel_rfl)) (by kernel_rfl) (by kernel_rfl) (by rfl) ?_;have cz:[[.v (.int .i64 c.D),.v (.int .i64 c.C.a0),.v (.int .i64 c.C.a1),.v (.int .i64 c.C.a2),.v (.int .i64 c.C.a3),.v (.int .i64 1)]]=enc ([(⟨c,1⟩:aD)]:List aD):=by rfl
   obtain⟨bk,h⟩:=q07 h;simp only[Xf,Xh,Xi,Xz]at bk;have d0:enc m++[[.v (.int .i64 c.D),.v (.int .i64 c.C.a0),.v (.int .i64 c.C.a1),.v (.int .i64 c.C.a2),.v (.int .i64 c.C.a3),.v (.int .i64 1)]]=enc (m++([(⟨c,1⟩:aD)]:List aD)):=by exact (q2v m ([(⟨c,1⟩:aD)]:List aD)).symm
   simp only[go_sem,z5p,b1,bk,d0];simp only[cz];refine z6j ?_ rfl trivial trivial trivial rfl rfl zj9 z5p rfl b1;simp only[go_sem];refine q2q ?_;refine y7 eb ?_;refine sgW λ_ ex=>?_;refine qd6 h (λb2 h=>?_) (λZ b2 h=>?_)
   .
    obtain⟨eS,h⟩:=q07 h;have eX:¬(Value.agg ⟨[.int .i64 d,.int .i64 c.D,.int .i64 c.C.a0,.int .i64 c.C.a1,.int .i64 c.C.a2,.int .i64 c.C.a3]⟩)∈d9 a.aE.1:=qo7 b2;have d1:∃l,keyOf pp 116 (Value.agg ⟨[.int .i64 d,.int .i64 c.D,.int .i64 c.C.a0,.int .i64 c.C.a1,.int .i64 c.C.a2,.int .i64 c.C.a3]⟩)=some l:=z3e ((⟨d,c⟩:ah)) eS;refine q8s ?_;refine wv ?_;refine q00 ?_;refine jy5 ?_;simp only[go_sem];refine z1w [.sl 3 (enc f.a0)] ?_ rfl trivial trivial trivial rfl rfl z5g q42 rfl d1 eX;have d2:d9 a.aE.1++[(Value.agg ⟨[.int .i64 d,.int .i64 c.D,.int .i64 c.C.a0,.int .i64 c.C.a1,.int .i64 c.C.a2,.int .i64 c.C.a3]⟩)]=d9 (a.aE.1++[(⟨d,c⟩:ah)]):=z3m a.aE.1 (⟨d,c⟩:ah);have d3:enc a.aE.2++[[.sl 3 (enc f.a0)]]=enc (a.aE.2++[f.a0]):=(q2v a.aE.2 [f.a0]).symm;have gF:(d9 (a.aE.1++[(⟨d,c⟩:ah)]))[a.aE.1.length]?=some (Value.agg ⟨[.int .i64 d,.int .i64 c.D,.int .i64 c.C.a0,.int .i64 c.C.a1,.int .i64 c.C.a2,.int .i64 c.C.a3]⟩):=z4l a.aE.1 (⟨d,c⟩:ah);rw[d2,d3,z3l];simp only[go_sem];have d4:enc (Xb a.ay.2 B (m++([(⟨c,1⟩:aD)]:List aD)))=(enc a.ay.2).set B [.sl 6 (enc (m++([(⟨c,1⟩:aD)]:List aD)))]:=q9j a.ay.2 B (m++([(⟨c,1⟩:aD)]:List aD));refine q8h (λ_ _ _ _ H=>H.dr (id:=2) (id2:=9) rfl rfl (by simp[q1c]) (R':=enc (Xb a.ay.2 B (m++([(⟨c,1⟩:aD)]:List aD)))) d4) ?_;have d5:enc (Xb (a.aE.2++[f.a0]) (a.aE.1.length) f.a0)=(enc (a.aE.2++[f.a0])).set (a.aE.1.length) [.sl 3 (enc f.a0)]:=q9j (a.aE.2++[f.a0]) (a.aE.1.length) f.a0
    refine q8h (λ_ _ _ _ H=>H.da (id:=3) rfl rfl (R':=enc (Xb (a.aE.2++[f.a0]) (a.aE.1.length) f.a0)) d5) ?_;refine q2q ?_;refine y7 ex ?_;refine wv ?_;refine q00 ?_;refine q1r 8 0 0 [0,1,3,7,0,0,0,112,255,511] [0,1,2,3,4,10,11] [0,1,2,3] [] [7] [] mixed (by kernel_rfl) (of_decide_eq_true (by kernel_rfl)) (by kernel_rfl) (by kernel_rfl) (by rfl) ?_;obtain⟨T,d6,h⟩:=z8 h;simp only[go_sem];refine qx4 [0,1,2,3,4] (q4a (⟨a.g,Xl (Xg a.ins.1 A) (Xg a.ins.2 A),(Xl a.ay.1 (Xb a.ay.2 B (m++([(⟨c,1⟩:aD)]:List aD)))),(Xl (a.aE.1++[(⟨d,c⟩:ah)]) (Xb (a.aE.2++[f.a0]) (a.aE.1.length) f.a0)),a.work,a.aC,a.outs,a.e⟩:a8) d c T d6) rfl ⟨rfl,⟨rfl,⟨rfl,⟨rfl,⟨rfl,trivial⟩⟩⟩⟩⟩ rfl rfl rfl rfl ?_;have gG:[[.sl 3 (enc f.a0)],[.sl 3 (enc T.1)]]=enc ([f.a0,T.1]:List (List a7)):=by rfl
    simp only[go_sem];refine u6 ao (⟨(([f.a0,T.1]:List (List a7)),T.2),[some 5,some 7,some 11],?_,h⟩);simp only[go_sem,Le]<;>(repeat' apply Xc)<;>(try with_reducible refine q03 ?_)<;>first|omega|(simp[go_sem];done)|((try with_reducible refine q03 ?_);(simp[go_sem,enc,q71];done))
   obtain⟨eY,d7,h⟩:=z8 h;have d8:(d9 a.aE.1)[Z]?=some (Value.agg ⟨[.int .i64 d,.int .i64 c.D,.int .i64 c.C.a0,.int .i64 c.C.a1,.int .i64 c.C.a2,.int .i64 c.C.a3]⟩):=qo6 b2;refine reW (λ_ _ _ _ H=>H.eD (id:=3) (i:=Z) (x:=.sl 3 (enc eY)) rfl (z3k d7)) ?_;refine q8s ?_;refine wv ?_;refine q00 ?_;refine jy5 ?_;simp only[go_sem];refine z6j ?_ rfl trivial trivial trivial rfl rfl z5g q42 rfl d8;simp only[go_sem];have dc:enc (Xb a.ay.2 B (m++([(⟨c,1⟩:aD)]:List aD)))=(enc a.ay.2).set B [.sl 6 (enc (m++([(⟨c,1⟩:aD)]:List aD)))]:=q9j a.ay.2 B (m++([(⟨c,1⟩:aD)]:List aD));refine q8h (λ_ _ _ _ H=>H.dr (id:=2) (id2:=9) rfl rfl (by simp[q1c]) (R':=enc (Xb a.ay.2 B (m++([(⟨c,1⟩:aD)]:List aD)))) dc) ?_;have dd:enc (Xb a.aE.2 Z f.a0)=(enc a.aE.2).set Z [.sl 3 (enc f.a0)]:=q9j a.aE.2 Z f.a0;refine q8h (λ_ _ _ _ H=>H.da (id:=3) rfl rfl (R':=enc (Xb a.aE.2 Z f.a0)) dd) ?_;refine q2q ?_;refine y7 ex ?_;refine wv ?_;refine q00 ?_;refine q1r 8 0 0 [0,1,3,7,0,0,0,112,255,511] [0,1,2,3,4,10,11] [0,1,2,3] [] [7] [] mixed (by kernel_rfl) (of_decide_eq_true (by kernel_rfl)) (by kernel_rfl) (by kernel_rfl) (by rfl) ?_;obtain⟨U,dk,h⟩:=z8 h;simp only[go_sem];refine qx4 [0,1,2,3,4] (q4a (⟨a.g,Xl (Xg a.ins.1 A) (Xg a.ins.2 A),(Xl a.ay.1 (Xb a.ay.2 B (m++([(⟨c,1⟩:aD)]:List aD)))),Xl a.aE.1 (Xb a.aE.2 Z f.a0),a.work,a.aC,a.outs,a.e⟩:a8) d c U dk) rfl ⟨rfl,⟨rfl,⟨rfl,⟨rfl,⟨rfl,trivial⟩⟩⟩⟩⟩ rfl rfl rfl rfl ?_
   have gH:[[.sl 3 (enc f.a0)],[.sl 3 (enc U.1)]]=enc ([f.a0,U.1]:List (List a7)):=by rfl
   simp only[go_sem];refine u6 ao (⟨(([f.a0,U.1]:List (List a7)),U.2),[some 5,some 7,some 11],?_,h⟩);simp only[go_sem,Le]<;>(repeat' apply Xc)<;>(try with_reducible refine q03 ?_)<;>first|omega|(simp[go_sem];done)|((try with_reducible refine q03 ?_);(simp[go_sem,enc,q71];done))
  replace h:=q2s h E;simp only[bool_to_prop]at E;refine wv ?_;refine y5 (u6 ao (⟨(([f.a0,f.a1]:List (List a7)),(⟨a.g,Xl (Xg a.ins.1 A) (Xg a.ins.2 A),a.ay,a.aE,a.work,a.aC,a.outs,a.e⟩:a8)),[some 5,some 7,some 4],?_,h⟩));simp only[go_sem,Le]<;>(repeat' apply Xc)<;>(try with_reducible refine q03 ?_)<;>first|omega|(simp[go_sem];done)|((try with_reducible refine q03 ?_);(exact⟨_,rfl,Nat.le_refl _,rfl,rfl⟩))
 rintro⟨s,j⟩ h
 try dsimp only at h
 rw[q14]at h;refine sgW λ_ gI=>?_;refine wv ?_;obtain⟨P,f2,h⟩:=z8 h;simp only[go_sem];refine q5t [] (z4g N s P f2) (by simp) rfl trivial rfl rfl rfl rfl ?_;simp only[go_sem];refine y7 gI ?_;refine sgW λ_ f4=>?_;refine sgW λ_ gJ=>?_;refine wv ?_;simp only[go_sem];refine y7 gJ ?_;refine q4o (b:=(!P.2)) (by (simp only[go_sem];done)) (λW=>?_) (λW=>?_)
 .
  replace h:=q2r h W;simp only[bool_to_prop]at W;refine sgW λ_ gK=>?_;refine wv ?_;simp only[go_sem];refine y7 gK ?_;refine sgW λ_ gL=>?_;refine wv ?_;simp only[go_sem];refine y7 gL ?_;refine wv ?_;refine q04 (qv0 f4 ?_);simp only[go_sem];obtain rfl:=Xa h;refine q27 [some 7] ?_;simp only[go_sem,Le]<;>(repeat' apply Xc)<;>(try with_reducible refine q03 ?_)<;>first|omega|(simp[go_sem];done)
 replace h:=q2s h W;simp only[bool_to_prop]at W;refine wv ?_;refine y5 (y7 f4 ?_);refine j0r (ι:=Unit) (λ(_:Unit)=>(⟨5,[(0,.ptr 0 0),(1,.v (.int .i64 d)),(5,.ptr 5 0),(10,.osl 6 3 (0) (P.1.length))],[(0,.box [.sl 1 (enc j.g.ae),.sl 1 (enc j.g.aG),.sl 4 (enc j.g.al),.sl 4 (enc j.g.aw),.mp 1,.mp 2,.mp 3,.v (.int .i64 j.work),.v (.int .i64 j.aC),.osl 7 4 (0) (j.outs.length),.v (.int .i64 j.e)]),(1,.con (p8 pp 116 0 (d9 j.ins.1) (enc j.ins.2) none) []),(2,.con (p8 pp 3 1 (d9 j.ay.1) (enc j.ay.2) none) []),(3,.con (p8 pp 116 2 (d9 j.aE.1) (enc j.aE.2) none) []),(5,.box (Row.row c)),(6,.arr 3 (enc P.1)),(7,.arr 4 (enc j.outs))],8,191⟩:St)) (λ(_:Unit)=>q5f d c j P=some r) ?_ ?_
 .
  intro _ f5;refine sgW λ_ gM=>?_;refine wv ?_;simp only[go_sem];refine y7 gM ?_;refine q4o (b:=(N.Kind==15)) (by (simp only[go_sem];done)) (λG=>?_) (λG=>?_)
  .
   replace h:=q2r h G;simp only[bool_to_prop]at G;refine sgW λ_ gN=>?_;refine wv ?_;obtain⟨O,ds,h⟩:=z8 h;simp only[go_sem];refine qr5 (s':=(⟨5,[(0,.ptr 0 0),(1,.v (.int .i64 d)),(5,.ptr 5 0)],[(0,.box [.sl 1 (enc j.g.ae),.sl 1 (enc j.g.aG),.sl 4 (enc j.g.al),.sl 4 (enc j.g.aw),.mp 1,.mp 2,.mp 3,.v (.int .i64 j.work),.v (.int .i64 j.aC),.osl 7 4 (0) (j.outs.length),.v (.int .i64 j.e)]),(1,.con (p8 pp 116 0 (d9 j.ins.1) (enc j.ins.2) none) []),(2,.con (p8 pp 3 1 (d9 j.ay.1) (enc j.ay.2) none) []),(3,.con (p8 pp 116 2 (d9 j.aE.1) (enc j.aE.2) none) []),(5,.box (Row.row c)),(6,.box (Row.row N)),(7,.arr 4 (enc j.outs))],8,191⟩:St)) (l:=[some 5,some 6,some 7]) (args':=[.sl 3 (enc P.1)]) ?_ ?_ ?_
   . simp only[go_sem,Le]<;>(repeat' apply Xc)<;>(try with_reducible refine q03 ?_)<;>first|omega|(simp[go_sem];done)
   . simp only[go_sem,Le]<;>(repeat' apply Xc)<;>((try with_reducible refine q03 ?_);(simp[go_sem];done))
   refine q5t [] (z5t P.1 O ds) (by simp) rfl trivial rfl rfl rfl rfl ?_;simp only[go_sem];refine y7 gN ?_;refine sgW λ_ gO=>?_;refine sgW λ_ gP=>?_;refine wv ?_;simp only[go_sem];refine y7 gP ?_;refine qk3 λ_ gR=>?_;refine z98 (ι:=Nat×Int×a8) (λ((_,w,k):Nat×Int×a8)=>(⟨5,[(0,.ptr 0 0),(1,.v (.int .i64 d)),(5,.ptr 5 0),(111,.osl 6 2 (0) (O.1.length)),(112,.v (.int .i64 (O.1.length:Int))),(113,.v (.int .i64 w))],[(0,.box [.sl 1 (enc k.g.ae),.sl 1 (enc k.g.aG),.sl 4 (enc k.g.al),.sl 4 (enc k.g.aw),.mp 1,.mp 2,.mp 3,.v (.int .i64 k.work),.v (.int .i64 k.aC),.osl 7 4 (0) (k.outs.length),.v (.int .i64 k.e)]),(1,.con (p8 pp 116 0 (d9 k.ins.1) (enc k.ins.2) none) []),(2,.con (p8 pp 3 1 (d9 k.ay.1) (enc k.ay.2) none) []),(3,.con (p8 pp 116 2 (d9 k.aE.1) (enc k.aE.2) none) []),(5,.box (Row.row c)),(6,.arr 2 (enc O.1)),(7,.arr 4 (enc k.outs))],8,191⟩:St)) (λ((n_,w,k):Nat×Int×a8)=>q02 (q3r d c O) n_ (w,k)=some r) (λp=>p.1) (rounds,0,j) [some 5,some 8,some 7] ?_ h ?_
   . simp only[go_sem,Le]<;>(repeat' apply Xc)<;>(try with_reducible refine q03 ?_)<;>first|omega|(simp[go_sem];done)
   rintro⟨hj,w,k⟩ h _ f6
   dsimp only at h;replace h:=qg4 h;obtain⟨gS,rfl,h⟩:=h;rw[q3r]at h;refine sgW λ_ gT=>?_;refine wv ?_;simp only[go_sem];refine y7 gT ?_;refine sgW λ_ f7=>?_;refine q4o (b:=(decide (w<(O.1.length:Int)))) (by (simp only[go_sem];done)) (λI=>?_) (λI=>?_)
   .
    replace h:=q2r h I;simp only[bool_to_prop]at I;refine wv ?_;refine y5 (y7 f7 ?_);refine sgW λ_ gU=>?_;refine qk3 λ_ gV=>?_;refine sgW λ_ gW=>?_;refine wv ?_;obtain⟨t,f8,h⟩:=z8 h;obtain⟨f9,fd,fl⟩:=q8i f8;simp only[go_sem,f9,fd,fl];refine Xc (by omega) ?_;refine y7 gW ?_;refine wv ?_;refine q00 ?_;refine q1r 13 0 0 [0,0,2,6,14,0,0,64,192,0,992,2016,4094,8191,16383,32767] [7,9] [0] [] [12] [] mixed (by kernel_rfl) (of_decide_eq_true (by kernel_rfl)) (by kernel_rfl) (by kernel_rfl) (by rfl) ?_;have dT:[[.v (.int .i64 d),.v (.int .i64 c.C.a0),.v (.int .i64 t.K),.v (.int .i64 t.V)]]=enc ([(⟨d,c.C.a0,t⟩:aB)]:List aB):=by rfl
    obtain⟨bs,h⟩:=q07 h;simp only[Xf,Xh,Xi,Xz]at bs;have e0:enc k.outs++[[.v (.int .i64 d),.v (.int .i64 c.C.a0),.v (.int .i64 t.K),.v (.int .i64 t.V)]]=enc (k.outs++([(⟨d,c.C.a0,t⟩:aB)]:List aB)):=by exact (q2v k.outs ([(⟨d,c.C.a0,t⟩:aB)]:List aB)).symm
    simp only[go_sem,bs,e0];simp only[dT];refine q08 gV (y7 gU ?_);refine wv ?_;simp only[go_sem];refine u6 f6 (⟨(gS,i64.wrap (w+1),(⟨k.g,k.ins,k.ay,k.aE,k.work,k.aC,(k.outs++([(⟨d,c.C.a0,t⟩:aB)]:List aB)),k.e⟩:a8)),[some 5,some 6,some 9],?_,h,Xx _⟩);simp only[go_sem,Le]<;>(repeat' apply Xc)<;>(try with_reducible refine q03 ?_)<;>first|omega|(simp[go_sem];done)
   replace h:=q2s h I;simp only[bool_to_prop]at I;refine wv ?_;refine q0u (qw3 f7 ?_);refine q0v f6 (q0m gR (y7 gO ?_));refine sgW λ_ gY=>?_;refine wv ?_;simp only[go_sem];refine y7 gY ?_;refine wv ?_;refine q04 (q34 f5 ?_);simp only[go_sem];obtain rfl:=Xa h;refine q27 [some 7] ?_;simp only[go_sem,Le]<;>(repeat' apply Xc)<;>(try with_reducible refine q03 ?_)<;>first|omega|(simp[go_sem];done)
  replace h:=q2s h G;simp only[bool_to_prop]at G;refine wv ?_;refine y5 (u6 f5 (⟨(),[some 5,some 8,some 7],?_,h⟩));simp only[go_sem,Le]<;>(repeat' apply Xc)<;>(try with_reducible refine q03 ?_)<;>first|omega|(simp[go_sem];done)
 rintro⟨⟩ h
 try dsimp only at h
 rw[q5f]at h;refine sgW λ_ gZ=>?_;refine wv ?_;obtain⟨y,e1,h⟩:=z8 h;simp only[go_sem];refine q5t [0,1,2,3,7] (qx7 j d c y e1) (by simp) rfl ⟨rfl,⟨rfl,⟨rfl,⟨rfl,⟨rfl,trivial⟩⟩⟩⟩⟩ rfl rfl rfl rfl ?_;simp only[go_sem];refine y7 gZ ?_;refine sgW λ_ fo=>?_;refine sgW λ_ h0=>?_;refine wv ?_;simp only[go_sem];refine y7 h0 ?_;refine q4o (b:=((!y.2.1)||((P.1.length:Int)==0))) (by (simp only[go_sem];done)) (λX=>?_) (λX=>?_)
 .
  replace h:=q2r h X;simp only[bool_to_prop]at X;refine sgW λ_ h1=>?_;refine wv ?_;simp only[go_sem];refine y7 h1 ?_;refine wv ?_;refine q04 (qv0 fo ?_);simp only[go_sem];obtain rfl:=Xa h;refine q27 [some 8] ?_;simp only[go_sem,Le]<;>(repeat' apply Xc)<;>(try with_reducible refine q03 ?_)<;>first|omega|(simp[go_sem];done)
 replace h:=q2s h X;simp only[bool_to_prop]at X;refine wv ?_;refine y5 (y7 fo ?_);refine j0r (ι:=a8) (λ(o:a8)=>(⟨5,[(0,.ptr 0 0)],[(0,.box [.sl 1 (enc o.g.ae),.sl 1 (enc o.g.aG),.sl 4 (enc o.g.al),.sl 4 (enc o.g.aw),.mp 1,.mp 2,.mp 3,.v (.int .i64 o.work),.v (.int .i64 o.aC),.osl 5 4 (0) (o.outs.length),.v (.int .i64 o.e)]),(1,.con (p8 pp 116 0 (d9 o.ins.1) (enc o.ins.2) none) []),(2,.con (p8 pp 3 1 (d9 o.ay.1) (enc o.ay.2) none) []),(3,.con (p8 pp 116 2 (d9 o.aE.1) (enc o.aE.2) none) []),(5,.arr 4 (enc o.outs))],6,191⟩:St)) (λ(o:a8)=>q5e o=some r) ?_ ?_
 .
  intro _ h2;refine sgW λ_ h3=>?_;refine wv ?_;simp only[go_sem];refine y7 h3 ?_;refine qk3 λ_ h4=>?_;refine z98 (ι:=Nat×(List a7)×Int×a8) (λ((_,u,q,n):Nat×(List a7)×Int×a8)=>(⟨5,[(0,.ptr 0 0),(1,.v (.int .i64 d)),(10,.sl 3 (enc u)),(16,.ptr 5 0),(151,.sl 4 (enc y.2.2.g.aw)),(152,.v (.int .i64 (y.2.2.g.aw.length:Int))),(153,.v (.int .i64 q))],[(0,.box [.sl 1 (enc n.g.ae),.sl 1 (enc n.g.aG),.sl 4 (enc n.g.al),.sl 4 (enc n.g.aw),.mp 1,.mp 2,.mp 3,.v (.int .i64 n.work),.v (.int .i64 n.aC),.osl 6 4 (0) (n.outs.length),.v (.int .i64 n.e)]),(1,.con (p8 pp 116 0 (d9 n.ins.1) (enc n.ins.2) none) []),(2,.con (p8 pp 3 1 (d9 n.ay.1) (enc n.ay.2) none) []),(3,.con (p8 pp 116 2 (d9 n.aE.1) (enc n.aE.2) none) []),(5,.box (Row.row y.1)),(6,.arr 4 (enc n.outs))],7,191⟩:St)) (λ((n_,u,q,n):Nat×(List a7)×Int×a8)=>q02 (q3s d y) n_ (u,q,n)=some r) (λp=>p.1) (rounds,P.1,0,y.2.2) [some 9,some 8] ?_ h ?_
  . simp only[go_sem,Le]<;>(repeat' apply Xc)<;>(try with_reducible refine q03 ?_)<;>first|omega|(simp[go_sem];done)
  rintro⟨hk,u,q,n⟩ h _ e2
  dsimp only at h;replace h:=qg4 h;obtain⟨ft,rfl,h⟩:=h;rw[q3s]at h;refine sgW λ_ h5=>?_;refine wv ?_;simp only[go_sem];refine y7 h5 ?_;refine sgW λ_ g4=>?_;refine q4o (b:=(decide (q<(y.2.2.g.aw.length:Int)))) (by (simp only[go_sem];done)) (λJ=>?_) (λJ=>?_)
  .
   replace h:=q2r h J;simp only[bool_to_prop]at J;refine wv ?_;refine y5 (y7 g4 ?_);refine sgW λ_ g5=>?_;refine qk3 λ_ g6=>?_;refine sgW λ_ h6=>?_;refine wv ?_;obtain⟨b3,h7,h⟩:=z8 h;obtain⟨h8,h9,ha⟩:=q8i h7;simp only[go_sem,h8,h9,ha];refine Xc (by omega) ?_;refine y7 h6 ?_;refine sgW λ_ hc=>?_;refine wv ?_;simp only[go_sem];refine y7 hc ?_;refine q4o (b:=(b3.aO==d)) (by (simp only[go_sem];done)) (λL=>?_) (λL=>?_)
   .
    replace h:=q2r h L;simp only[bool_to_prop]at L;refine sgW λ_ he=>?_;refine wv ?_;obtain⟨z,e3,h⟩:=z8 h;simp only[go_sem];refine q5t [0,1,2,3,6] (qb9 n b3.To b3.Port y.1 u z e3) (by simp) rfl ⟨rfl,⟨rfl,⟨rfl,⟨rfl,⟨rfl,trivial⟩⟩⟩⟩⟩ rfl rfl rfl rfl ?_;simp only[go_sem];refine y7 he ?_;refine wv ?_;refine q00 ?_;refine jy5 ?_;obtain⟨bv,e4,h⟩:=z8 h;simp only[go_sem];refine bx (λ_=>(zm6 u bv e4)) (by rfl) (by rfl) ?_;simp only[go_sem];refine q08 g6 (y7 g5 ?_);refine wv ?_;simp only[go_sem];refine u6 e2 (⟨(ft,u,i64.wrap (q+1),(⟨z.g,z.ins,z.ay,z.aE,i64.wrap (z.work+bv),z.aC,z.outs,z.e⟩:a8)),[some 5,some 8],?_,h,Xx _⟩);simp only[go_sem,Le]<;>(repeat' apply Xc)<;>(try with_reducible refine q03 ?_)<;>first|omega|(simp[go_sem];done)
   replace h:=q2s h L;simp only[bool_to_prop]at L;refine wv ?_;refine y5 (q08 g6 (y7 g5 ?_));refine wv ?_;simp only[go_sem];refine u6 e2 (⟨(ft,u,i64.wrap (q+1),n),[some 5,some 6],?_,h,Xx _⟩);simp only[go_sem,Le]<;>(repeat' apply Xc)<;>(try with_reducible refine q03 ?_)<;>first|omega|(simp[go_sem];done)
  replace h:=q2s h J;simp only[bool_to_prop]at J;refine wv ?_;refine q0u (qw3 g4 ?_);refine q0v e2 (q0m h4 (u6 h2 (⟨n,[some 6],?_,h⟩)));simp only[go_sem,Le]<;>(repeat' apply Xc)<;>(try with_reducible refine q03 ?_)<;>first|omega|(simp[go_sem];done)
 rintro o h
 try dsimp only at h
 rw[q5e]at h;refine sgW λ_ g7=>?_;refine sgW λ_ hf=>?_;refine wv ?_;refine q00 ?_;refine jy5 ?_;simp only[go_sem];refine y7 hf ?_;refine q4o (b:=(decide (o.aC<o.work))) (by (simp only[go_sem];done)) (λM=>?_) (λM=>?_)
 .
  replace h:=q2r h M;simp only[bool_to_prop]at M;refine wv ?_;simp only[go_sem];refine y7 g7 ?_;refine sgW λ_ hg=>?_;refine wv ?_;simp only[go_sem];refine y7 hg ?_;refine wv ?_;refine q04 ?_;simp only[go_sem];obtain rfl:=Xa h;refine q27 [some 5] ?_;simp only[go_sem,Le]<;>(repeat' apply Xc)<;>(try with_reducible refine q03 ?_)<;>first|omega|(simp[go_sem];done)
 replace h:=q2s h M;simp only[bool_to_prop]at M;refine wv ?_;refine y5 (y7 g7 ?_);refine sgW λ_ hh=>?_;refine wv ?_;simp only[go_sem];refine y7 hh ?_;refine wv ?_;refine q04 ?_;simp only[go_sem];obtain rfl:=Xa h;refine q27 [some 5] ?_;simp only[go_sem,Le]<;>(repeat' apply Xc)<;>(try with_reducible refine q03 ?_)<;>first|omega|(simp[go_sem];done)
def q6y(a:a8)(b:Int)(c:Int->Option (Bool×a8)):Int->Option (Bool×a8):=
 λd=>
 (if (decide (0<=d))=true then (if (d==b)=true then some (true,a)
 else q9 (idx a.g.ae d) (λe=>
 c e))
 else some (false,a))
def q43(b:a8)(c:Int)(a:Int):Option (Bool×a8):=
 q02 (q6y b a) rounds c
theorem qw0(a:a8)(c:Int)(b:Int)(r:Bool×a8)(h:q43 a c b=some r):bu pp 47 [.ptr 0 0,.v (.int .i64 c),.v (.int .i64 b)] [(0,.box [.sl 1 (enc a.g.ae),.sl 1 (enc a.g.aG),.sl 4 (enc a.g.al),.sl 4 (enc a.g.aw),.mp 1,.mp 2,.mp 3,.v (.int .i64 a.work),.v (.int .i64 a.aC),.osl 4 4 (0) (a.outs.length),.v (.int .i64 a.e)]),(1,.con (p8 pp 116 0 (d9 a.ins.1) (enc a.ins.2) none) []),(2,.con (p8 pp 3 1 (d9 a.ay.1) (enc a.ay.2) none) []),(3,.con (p8 pp 116 2 (d9 a.aE.1) (enc a.aE.2) none) []),(4,.arr 4 (enc a.outs))] 5 (.v (.bool r.1)) [(0,.box [.sl 1 (enc r.2.g.ae),.sl 1 (enc r.2.g.aG),.sl 4 (enc r.2.g.al),.sl 4 (enc r.2.g.aw),.mp 1,.mp 2,.mp 3,.v (.int .i64 r.2.work),.v (.int .i64 r.2.aC),.osl 5 4 (0) (r.2.outs.length),.v (.int .i64 r.2.e)]),(1,.con (p8 pp 116 0 (d9 r.2.ins.1) (enc r.2.ins.2) none) []),(2,.con (p8 pp 3 1 (d9 r.2.ay.1) (enc r.2.ay.2) none) []),(3,.con (p8 pp 116 2 (d9 r.2.aE.1) (enc r.2.aE.2) none) []),(5,.arr 4 (enc r.2.outs))] 6:=by
 refine dtI Tryz.func47 rfl ?_;rw[q43]at h;have F:=trivial;refine sM ?_;refine jg λ_ j=>?_;refine w9 λ_ k=>?_;refine q0e h [0,2] (λd=>([(1,.v (.int .i64 d))],[(0,.box [.sl 1 (enc a.g.ae),.sl 1 (enc a.g.aG),.sl 4 (enc a.g.al),.sl 4 (enc a.g.aw),.mp 1,.mp 2,.mp 3,.v (.int .i64 a.work),.v (.int .i64 a.aC),.osl 4 4 (0) (a.outs.length),.v (.int .i64 a.e)]),(1,.con (p8 pp 116 0 (d9 a.ins.1) (enc a.ins.2) none) []),(2,.con (p8 pp 3 1 (d9 a.ay.1) (enc a.ay.2) none) []),(3,.con (p8 pp 116 2 (d9 a.aE.1) (enc a.aE.2) none) []),(4,.arr 4 (enc a.outs))])) 5 ?_;rintro f d h _ l;rw[q6y]at h;exact au
def q2k(a:Bool)(b:Int)(f:a8)(d:(Bool×Int×a8->Option (Bool×a8)))(e:aN)(g:af):Option (Bool×a8):=
 q9 (q4s f b g) (λc=>
 d ((a||(c.1&&(e.Kind==12))),i64.wrap (b+1),c.2))
def q55(f:af)(a:Bool)(d:Int)(e:a8)(c:(Bool×Int×a8->Option (Bool×a8)))(b:aN):Option (Bool×a8):=
 (if (b.Kind==10)=true then q9 (q8u f) (λg=>
 q2k a d e c b g.1)
 else q2k a d e c b f)
def q77(self:a8->Int->Int->Int->af->Option (Bool×a8))(b:Bool)(m:Int)(d:(Bool×Int×a8->Option (Bool×a8)))(j:aN)(a:Int)(k:Int)(l:Int×a8×af->Option (Bool×a8)):Int×a8×af->Option (Bool×a8):=
 λ(c,f,g)=>
 (if (decide (c<k))=true then q9 (self f m a j.Scope g) (λe=>
 (if (!e.1)=true then d (b,a,e.2)
 else q9 (qb5 g) (λn=>
 l (i64.wrap (c+1),e.2,n.1))))
 else d (b,a,f))
def q2j(l:af)(self:a8->Int->Int->Int->af->Option (Bool×a8))(a:Bool)(j:Int)(e:(Bool×Int×a8->Option (Bool×a8)))(b:aN)(c:Int)(d:a8):Option (Bool×a8):=
 q9 (q8v l) (λk=>
 q9 (idx d.g.aG b.Scope) (λf=>
 q02 (q77 self a j e b c f) rounds (0,d,k.1)))
def q76(k:Int)(n:af)(self:a8->Int->Int->Int->af->Option (Bool×a8))(b:Bool)(j:Int)(d:(Bool×Int×a8->Option (Bool×a8)))(c:aN)(l:Int×a8->Option (Bool×a8)):Int×a8->Option (Bool×a8):=
 λ(a,e)=>
 (if (decide (a<k))=true then q9 (idx e.g.al a) (λm=>
 q9 (q43 e m.Scope c.Scope) (λf=>
 (if f.1=true then l (i64.wrap (a+1),f.2)
 else q2j n self b j d c a f.2)))
 else q2j n self b j d c a e)
def q2l(e:Int)(f:Int)(k:af)(self:a8->Int->Int->Int->af->Option (Bool×a8))(j:Bool×Int×a8->Option (Bool×a8)):Bool×Int×a8->Option (Bool×a8):=
 λ(a,b,d)=>
 (if (decide (b<e))=true then q9 (idx d.g.al b) (λc=>
 (if (!(c.Scope==f))=true then q02 (q76 e k self a b j c) rounds (b,d)
 else q55 k a b d j c))
 else some (a,d))
def q3q(self:a8->Int->Int->Int->af->Option (Bool×a8))(d:a8)(a:Int)(c:Int)(b:Int)(e:af):Option (Bool×a8):=
 q02 (q2l c b e self) rounds (false,a,d)
def q1k:Nat->a8->Int->Int->Int->af->Option (Bool×a8)
 |0=>λ_ _ _ _ _=>none
 |n+1=>q3q (q1k n)
def qg1(d:a8)(a:Int)(c:Int)(b:Int)(e:af):Option (Bool×a8):=q1k rounds d a c b e
theorem qt0(self:a8->Int->Int->Int->af->Option (Bool×a8))(y:∀(a:a8) (m:Int) (k:Int) (c:Int) (l:af) (r:Bool×a8),self a m k c l=some r->bu pp 23 [.ptr 0 0,.v (.int .i64 m),.v (.int .i64 k),.v (.int .i64 c),.agg (Row.row l)] [(0,.box [.sl 1 (enc a.g.ae),.sl 1 (enc a.g.aG),.sl 4 (enc a.g.al),.sl 4 (enc a.g.aw),.mp 1,.mp 2,.mp 3,.v (.int .i64 a.work),.v (.int .i64 a.aC),.osl 4 4 (0) (a.outs.length),.v (.int .i64 a.e)]),(1,.con (p8 pp 116 0 (d9 a.ins.1) (enc a.ins.2) none) []),(2,.con (p8 pp 3 1 (d9 a.ay.1) (enc a.ay.2) none) []),(3,.con (p8 pp 116 2 (d9 a.aE.1) (enc a.aE.2) none) []),(4,.arr 4 (enc a.outs))] 5 (.v (.bool r.1)) [(0,.box [.sl 1 (enc r.2.g.ae),.sl 1 (enc r.2.g.aG),.sl 4 (enc r.2.g.al),.sl 4 (enc r.2.g.aw),.mp 1,.mp 2,.mp 3,.v (.int .i64 r.2.work),.v (.int .i64 r.2.aC),.osl 5 4 (0) (r.2.outs.length),.v (.int .i64 r.2.e)]),(1,.con (p8 pp 116 0 (d9 r.2.ins.1) (enc r.2.ins.2) none) []),(2,.con (p8 pp 3 1 (d9 r.2.ay.1) (enc r.2.ay.2) none) []),(3,.con (p8 pp 116 2 (d9 r.2.aE.1) (enc r.2.aE.2) none) []),(5,.arr 4 (enc r.2.outs))] 6)(a:a8)(m:Int)(k:Int)(c:Int)(l:af)(r:Bool×a8)(h:q3q self a m k c l=some r):bu pp 23 [.ptr 0 0,.v (.int .i64 m),.v (.int .i64 k),.v (.int .i64 c),.agg (Row.row l)] [(0,.box [.sl 1 (enc a.g.ae),.sl 1 (enc a.g.aG),.sl 4 (enc a.g.al),.sl 4 (enc a.g.aw),.mp 1,.mp 2,.mp 3,.v (.int .i64 a.work),.v (.int .i64 a.aC),.osl 4 4 (0) (a.outs.length),.v (.int .i64 a.e)]),(1,.con (p8 pp 116 0 (d9 a.ins.1) (enc a.ins.2) none) []),(2,.con (p8 pp 3 1 (d9 a.ay.1) (enc a.ay.2) none) []),(3,.con (p8 pp 116 2 (d9 a.aE.1) (enc a.aE.2) none) []),(4,.arr 4 (enc a.outs))] 5 (.v (.bool r.1)) [(0,.box [.sl 1 (enc r.2.g.ae),.sl 1 (enc r.2.g.aG),.sl 4 (enc r.2.g.al),.sl 4 (enc r.2.g.aw),.mp 1,.mp 2,.mp 3,.v (.int .i64 r.2.work),.v (.int .i64 r.2.aC),.osl 5 4 (0) (r.2.outs.length),.v (.int .i64 r.2.e)]),(1,.con (p8 pp 116 0 (d9 r.2.ins.1) (enc r.2.ins.2) none) []),(2,.con (p8 pp 3 1 (d9 r.2.ay.1) (enc r.2.ay.2) none) []),(3,.con (p8 pp 116 2 (d9 r.2.aE.1) (enc r.2.aE.2) none) []),(5,.arr 4 (enc r.2.outs))] 6:=by
 refine dtI Tryz.func23 rfl ?_;rw[q3q]at h;have F:=trivial;refine sM ?_;refine sM ?_;refine jg λ_ Q3=>?_;refine sM ?_;refine w9 λ_ Q5=>?_;refine q0e h [0,2,3,9] (λx=>([(11,.v (.bool x.1)),(12,.v (.int .i64 x.2.1))],[(0,.box [.sl 1 (enc x.2.2.g.ae),.sl 1 (enc x.2.2.g.aG),.sl 4 (enc x.2.2.g.al),.sl 4 (enc x.2.2.g.aw),.mp 1,.mp 2,.mp 3,.v (.int .i64 x.2.2.work),.v (.int .i64 x.2.2.aC),.osl 6 4 (0) (x.2.2.outs.length),.v (.int .i64 x.2.2.e)]),(1,.con (p8 pp 116 0 (d9 x.2.2.ins.1) (enc x.2.2.ins.2) none) []),(2,.con (p8 pp 3 1 (d9 x.2.2.ay.1) (enc x.2.2.ay.2) none) []),(3,.con (p8 pp 116 2 (d9 x.2.2.aE.1) (enc x.2.2.aE.2) none) []),(5,.box (Row.row l)),(6,.arr 4 (enc x.2.2.outs))])) 7 ?_;rintro z ⟨n,q,b⟩ h _ Q6;rw[q2l]at h;refine sg λ_ V=>?_;refine sM ?_;refine sB h (λ_ h=>?_) λ_ h=>?_
 .
  refine y5 (q8 V (w9 λ_ Q9=>?_));refine sg λ_ M=>?_;obtain⟨d,F,h⟩:=bI F h;simp only[go_sem,F];refine ai ?_;refine q8 M (q3e (λ(_:Unit)=>q55 l n q b (q02 (q2l k c l self) z) d=some r) [0,2,3,9,11,12] (λ_=>([(13,.ptr 6 0)],[(0,.box [.sl 1 (enc b.g.ae),.sl 1 (enc b.g.aG),.sl 4 (enc b.g.al),.sl 4 (enc b.g.aw),.mp 1,.mp 2,.mp 3,.v (.int .i64 b.work),.v (.int .i64 b.aC),.osl 7 4 (0) (b.outs.length),.v (.int .i64 b.e)]),(1,.con (p8 pp 116 0 (d9 b.ins.1) (enc b.ins.2) none) []),(2,.con (p8 pp 3 1 (d9 b.ay.1) (enc b.ay.2) none) []),(3,.con (p8 pp 116 2 (d9 b.aE.1) (enc b.aE.2) none) []),(5,.box (Row.row l)),(6,.box (Row.row d)),(7,.arr 4 (enc b.outs))])) 8 ?_ ?_)
  .
   intro _ W;refine sM ?_;refine sB h (λ_ h=>?_) λ_ h=>?_
   .
    refine sM ?_;refine q3e (λ((p,w):Int×a8)=>q2j l self n q (q02 (q2l k c l self) z) d p w=some r) [0,2,3,9,11,12] (λx=>([(13,.ptr 6 0),(14,.v (.int .i64 x.1))],[(0,.box [.sl 1 (enc x.2.g.ae),.sl 1 (enc x.2.g.aG),.sl 4 (enc x.2.g.al),.sl 4 (enc x.2.g.aw),.mp 1,.mp 2,.mp 3,.v (.int .i64 x.2.work),.v (.int .i64 x.2.aC),.osl 7 4 (0) (x.2.outs.length),.v (.int .i64 x.2.e)]),(1,.con (p8 pp 116 0 (d9 x.2.ins.1) (enc x.2.ins.2) none) []),(2,.con (p8 pp 3 1 (d9 x.2.ay.1) (enc x.2.ay.2) none) []),(3,.con (p8 pp 116 2 (d9 x.2.aE.1) (enc x.2.aE.2) none) []),(5,.box (Row.row l)),(6,.box (Row.row d)),(7,.arr 4 (enc x.2.outs))])) 8 ?_ ?_
    .
     intro _ X;refine w9 λ_ Y=>?_;refine q0e h [0,2,3,9,11,12] (λx=>([(13,.ptr 6 0),(14,.v (.int .i64 x.1))],[(0,.box [.sl 1 (enc x.2.g.ae),.sl 1 (enc x.2.g.aG),.sl 4 (enc x.2.g.al),.sl 4 (enc x.2.g.aw),.mp 1,.mp 2,.mp 3,.v (.int .i64 x.2.work),.v (.int .i64 x.2.aC),.osl 7 4 (0) (x.2.outs.length),.v (.int .i64 x.2.e)]),(1,.con (p8 pp 116 0 (d9 x.2.ins.1) (enc x.2.ins.2) none) []),(2,.con (p8 pp 3 1 (d9 x.2.ay.1) (enc x.2.ay.2) none) []),(3,.con (p8 pp 116 2 (d9 x.2.aE.1) (enc x.2.aE.2) none) []),(5,.box (Row.row l)),(6,.box (Row.row d)),(7,.arr 4 (enc x.2.outs))])) 8 ?_;rintro Z ⟨t,E⟩ h _ a6;rw[q76]at h;refine sg λ_ ao=>?_;refine sg λ_ ar=>?_;refine q00 ?_;refine jy5 ?_;simp only[go_sem];rcases o:(decide (t<k))with _|_
     . replace h:=q2s h o;simp only[go_sem,o];exact au
     replace h:=q2r h o;obtain⟨A,F,h⟩:=bI F h;obtain⟨G,B,h⟩:=z8 h;simp only[go_sem,o,F];refine ai ?_;refine q1l [0,1,2,3,7] (qw0 E A.Scope d.Scope G B) ?_;simp only[go_sem];exact au
    rintro⟨p,w⟩ h
    try dsimp only at h
    rw[q2j]at h;refine sg λ_ b0=>?_;simp only[go_sem];refine q5o Tryz.func48 rfl (by kernel_rfl) (by kernel_rfl) ?_;refine sM ?_;refine sg λ_ N=>?_;simp only[go_sem];refine q2b h λU h=>?_;simp only[go_sem];refine q8 N (sg λ_ O=>?_);obtain⟨P,F,h⟩:=bI F h;simp only[go_sem,F];refine ai ?_;refine q8 O (w9 λ_ H=>?_);refine q0e h [0,1,2,3,24] (λx=>([(10,.ptr 8 0),(25,.v (.int .i64 x.1))],[(0,.box [.sl 1 (enc x.2.1.g.ae),.sl 1 (enc x.2.1.g.aG),.sl 4 (enc x.2.1.g.al),.sl 4 (enc x.2.1.g.aw),.mp 1,.mp 2,.mp 3,.v (.int .i64 x.2.1.work),.v (.int .i64 x.2.1.aC),.osl 9 4 (0) (x.2.1.outs.length),.v (.int .i64 x.2.1.e)]),(1,.con (p8 pp 116 0 (d9 x.2.1.ins.1) (enc x.2.1.ins.2) none) []),(2,.con (p8 pp 3 1 (d9 x.2.1.ay.1) (enc x.2.1.ay.2) none) []),(3,.con (p8 pp 116 2 (d9 x.2.1.aE.1) (enc x.2.1.aE.2) none) []),(5,.box (Row.row l)),(6,.box (Row.row d)),(8,.box (Row.row x.2.2)),(9,.arr 4 (enc x.2.1.outs))])) 10 ?_;rintro b1 ⟨L,f,u⟩ h _ I;rw[q77]at h;refine sM ?_;refine sg λ_ J=>?_;refine sB h (λ_ h=>?_) λ_ h=>?_
    .
     refine y5 (q8 J (sg λ_ Q=>?_));refine w9 λ_ R=>?_;refine sg λ_ S=>?_;refine sg λ_ T=>?_;obtain⟨j,C,h⟩:=z8 h;simp only[go_sem];refine q1l [0,1,2,3,9] (y f q p d.Scope u j C) ?_;simp only[go_sem];refine q8 T (sB h (λ_ h=>?_) λ_ h=>?_)
     .
      refine q04 (q18 S (q12 R (q18 Q (q34 I (q12 H ?_)))));simp only[go_sem];refine q1f [some 8,some 10] [(0,.box [.sl 1 (enc j.2.g.ae),.sl 1 (enc j.2.g.aG),.sl 4 (enc j.2.g.al),.sl 4 (enc j.2.g.aw),.mp 1,.mp 2,.mp 3,.v (.int .i64 j.2.work),.v (.int .i64 j.2.aC),.osl 9 4 (0) (j.2.outs.length),.v (.int .i64 j.2.e)]),(1,.con (p8 pp 116 0 (d9 j.2.ins.1) (enc j.2.ins.2) none) []),(2,.con (p8 pp 3 1 (d9 j.2.ay.1) (enc j.2.ay.2) none) []),(3,.con (p8 pp 116 2 (d9 j.2.aE.1) (enc j.2.aE.2) none) []),(5,.box (Row.row l)),(6,.box (Row.row d)),(8,.box (Row.row u)),(9,.arr 4 (enc j.2.outs))] 10 (.tup []) ?_ ?_
      . exact leA
      refine q1v ?_;simp only[go_sem];exact au
     exact au
    refine q0u (q1w J (q0v I (q0m H ?_)));simp only[go_sem];refine q1f [some 8,some 9] [(0,.box [.sl 1 (enc f.g.ae),.sl 1 (enc f.g.aG),.sl 4 (enc f.g.al),.sl 4 (enc f.g.aw),.mp 1,.mp 2,.mp 3,.v (.int .i64 f.work),.v (.int .i64 f.aC),.osl 9 4 (0) (f.outs.length),.v (.int .i64 f.e)]),(1,.con (p8 pp 116 0 (d9 f.ins.1) (enc f.ins.2) none) []),(2,.con (p8 pp 3 1 (d9 f.ay.1) (enc f.ay.2) none) []),(3,.con (p8 pp 116 2 (d9 f.aE.1) (enc f.aE.2) none) []),(5,.box (Row.row l)),(6,.box (Row.row d)),(8,.box (Row.row u)),(9,.arr 4 (enc f.outs))] 10 (.tup []) ?_ ?_
    . exact leA
    refine q1v ?_;simp only[go_sem];exact au
   exact au
  rintro⟨⟩ h
  try dsimp only at h
  rw[q55]at h;refine sM ?_;refine q3e (λ(s:af)=>q2k n q b (q02 (q2l k c l self) z) d s=some r) [0,2,3,9,11,12,13] (λs=>([(15,.ptr 7 0)],[(0,.box [.sl 1 (enc b.g.ae),.sl 1 (enc b.g.aG),.sl 4 (enc b.g.al),.sl 4 (enc b.g.aw),.mp 1,.mp 2,.mp 3,.v (.int .i64 b.work),.v (.int .i64 b.aC),.osl 8 4 (0) (b.outs.length),.v (.int .i64 b.e)]),(1,.con (p8 pp 116 0 (d9 b.ins.1) (enc b.ins.2) none) []),(2,.con (p8 pp 3 1 (d9 b.ay.1) (enc b.ay.2) none) []),(3,.con (p8 pp 116 2 (d9 b.aE.1) (enc b.aE.2) none) []),(5,.box (Row.row l)),(6,.box (Row.row d)),(7,.box (Row.row s)),(8,.arr 4 (enc b.outs))])) 9 ?_ ?_
  . intro _ b2;exact au
  rintro s h
  try dsimp only at h
  rw[q2k]at h;refine sg λ_ b3=>?_;obtain⟨K,D,h⟩:=z8 h;simp only[go_sem];refine q1l [0,1,2,3,8] (qz7 b q s K D) ?_;simp only[go_sem];exact au
 exact au
theorem q90:∀(n:Nat) (a:a8) (b:Int) (d:Int) (c:Int) (f:af) (r:Bool×a8),q1k n a b d c f=some r->bu pp 23 [.ptr 0 0,.v (.int .i64 b),.v (.int .i64 d),.v (.int .i64 c),.agg (Row.row f)] [(0,.box [.sl 1 (enc a.g.ae),.sl 1 (enc a.g.aG),.sl 4 (enc a.g.al),.sl 4 (enc a.g.aw),.mp 1,.mp 2,.mp 3,.v (.int .i64 a.work),.v (.int .i64 a.aC),.osl 4 4 (0) (a.outs.length),.v (.int .i64 a.e)]),(1,.con (p8 pp 116 0 (d9 a.ins.1) (enc a.ins.2) none) []),(2,.con (p8 pp 3 1 (d9 a.ay.1) (enc a.ay.2) none) []),(3,.con (p8 pp 116 2 (d9 a.aE.1) (enc a.aE.2) none) []),(4,.arr 4 (enc a.outs))] 5 (.v (.bool r.1)) [(0,.box [.sl 1 (enc r.2.g.ae),.sl 1 (enc r.2.g.aG),.sl 4 (enc r.2.g.al),.sl 4 (enc r.2.g.aw),.mp 1,.mp 2,.mp 3,.v (.int .i64 r.2.work),.v (.int .i64 r.2.aC),.osl 5 4 (0) (r.2.outs.length),.v (.int .i64 r.2.e)]),(1,.con (p8 pp 116 0 (d9 r.2.ins.1) (enc r.2.ins.2) none) []),(2,.con (p8 pp 3 1 (d9 r.2.ay.1) (enc r.2.ay.2) none) []),(3,.con (p8 pp 116 2 (d9 r.2.aE.1) (enc r.2.aE.2) none) []),(5,.arr 4 (enc r.2.outs))] 6
 |0,a,b,d,c,f,r,h=>by simp[q1k]at h
 |n+1,a,b,d,c,f,r,h=>qt0 (q1k n) (q90 n) a b d c f r h
theorem qx6(a:a8)(b:Int)(d:Int)(c:Int)(f:af)(r:Bool×a8)(h:qg1 a b d c f=some r):bu pp 23 [.ptr 0 0,.v (.int .i64 b),.v (.int .i64 d),.v (.int .i64 c),.agg (Row.row f)] [(0,.box [.sl 1 (enc a.g.ae),.sl 1 (enc a.g.aG),.sl 4 (enc a.g.al),.sl 4 (enc a.g.aw),.mp 1,.mp 2,.mp 3,.v (.int .i64 a.work),.v (.int .i64 a.aC),.osl 4 4 (0) (a.outs.length),.v (.int .i64 a.e)]),(1,.con (p8 pp 116 0 (d9 a.ins.1) (enc a.ins.2) none) []),(2,.con (p8 pp 3 1 (d9 a.ay.1) (enc a.ay.2) none) []),(3,.con (p8 pp 116 2 (d9 a.aE.1) (enc a.aE.2) none) []),(4,.arr 4 (enc a.outs))] 5 (.v (.bool r.1)) [(0,.box [.sl 1 (enc r.2.g.ae),.sl 1 (enc r.2.g.aG),.sl 4 (enc r.2.g.al),.sl 4 (enc r.2.g.aw),.mp 1,.mp 2,.mp 3,.v (.int .i64 r.2.work),.v (.int .i64 r.2.aC),.osl 5 4 (0) (r.2.outs.length),.v (.int .i64 r.2.e)]),(1,.con (p8 pp 116 0 (d9 r.2.ins.1) (enc r.2.ins.2) none) []),(2,.con (p8 pp 3 1 (d9 r.2.ay.1) (enc r.2.ay.2) none) []),(3,.con (p8 pp 116 2 (d9 r.2.aE.1) (enc r.2.aE.2) none) []),(5,.arr 4 (enc r.2.outs))] 6:=q90 rounds a b d c f r h
def q5a(d:Int)(e:Int)(g:Int)(f:Int×(List aB)->Option (List aB)):Int×(List aB)->Option (List aB):=
 λ(a,b)=>
 (if (decide (a<g))=true then q9 (idx b (i64.wrap (e+a))) (λc=>
 q9 (idx b (i64.wrap (d+a))) (λj=>
 q9 (idx (Xb b (Xd (i64.wrap (d+a))) c) (i64.wrap (e+a))) (λk=>
 f (i64.wrap (a+1),(Xb (Xb b (Xd (i64.wrap (d+a))) c) (Xd (i64.wrap (e+a))) j)))))
 else some b)
def q1i(a:List aB)(c:Int)(d:Int)(b:Int)(e:aB->aB->Option Int):Option (List aB):=
 q02 (q5a c d b) rounds (0,a)
theorem q4x(d:List aB)(f:Int)(k:Int)(m:Int)(j:aB->aB->Option Int)(a:FuncId)(b:List AV)(n:q0f b=true)(o:u7 pp a=true)(p:∀(t:aB) (u:aB) (r:Int),j t u=some r->be pp a ([.agg (Row.row t),.agg (Row.row u)]++b) 0 (.v (.int .i64 r)))(r:List aB)(h:q1i d f k m j=some r):bu pp 154 [.osl 0 4 (0) (d.length),.v (.int .i64 f),.v (.int .i64 k),.v (.int .i64 m),.clo a b] [(0,.arr 4 (enc d))] 1 (.tup []) [(0,.arr 4 (enc r))] 1:=by
 refine dtI Tryz.func154 rfl ?_;rw[q1i]at h;have F:=trivial;refine sM ?_;refine w9 λ_ A=>?_;refine q0e h [1,2,3] (λx=>([(0,.osl 0 4 (0) (x.2.length)),(10,.v (.int .i64 x.1))],[(0,.arr 4 (enc x.2))])) 1 ?_;rintro B ⟨g,l⟩ h _ w;rw[q5a]at h;refine sg λ_ y=>?_;refine sM ?_;refine sB h (λ_ h=>?_) λ_ h=>?_
 .
  refine y5 (q8 y (sg λ_ C=>?_));refine w9 λ_ D=>?_;refine q00 ?_;refine q1r 22 0 0 [0,0,0,6,0,0,0,96,0,0,0,1536,3840,7936,0,0,0,98304,245760,507904,1048335,2096911,4194303,8388607] [0] [4,5,6,7] [] [21] [] mixed (by kernel_rfl) (of_decide_eq_true (by kernel_rfl)) (by kernel_rfl) (by kernel_rfl) (by rfl) ?_;obtain⟨c,F,h⟩:=bI F h;obtain⟨e,F,h⟩:=bI F h;have q:(enc l).set (Xd (i64.wrap (f+g))) [.v (.int .i64 c.Node),.v (.int .i64 c.aJ),.v (.int .i64 c.Rec.K),.v (.int .i64 c.Rec.V)]=enc (Xb l (Xd (i64.wrap (f+g))) c):=by exact q6w _ _ _
  obtain⟨z,F,h⟩:=bI F h;have s:(enc (Xb l (Xd (i64.wrap (f+g))) c)).set (Xd (i64.wrap (k+g))) [.v (.int .i64 e.Node),.v (.int .i64 e.aJ),.v (.int .i64 e.Rec.K),.v (.int .i64 e.Rec.V)]=enc (Xb (Xb l (Xd (i64.wrap (f+g))) c) (Xd (i64.wrap (k+g))) e):=by exact q6w _ _ _
  simp only[go_sem,q,s,F];refine ai ?_;refine ai ?_;refine ai ?_;refine ai ?_;refine q08 D (q8 C ?_);simp only[go_sem];refine u6 w ?_;exact nxC _ h [] leA
 refine q0u (q1w y (q0v w (q0m A ?_)));simp only[go_sem];obtain rfl:=Xa h;refine q27 [] ?_;exact leA
def q3x(a:Int)(b:aB->aB->Option Int)(c:Int)(d:List aB):Option (List aB):=
 q9 (q1i d (i64.wrap (a-c)) a c b) (λe=>
 x9 (e.length=d.length) (
 some e))
def q62(b:Int)(c:aB->aB->Option Int)(e:Int×Int×(List aB)->Option (List aB)):Int×Int×(List aB)->Option (List aB):=
 λ(a,d,f)=>
 (if (!(a==d))=true then (if (decide (d<a))=true then q9 (q1i f (i64.wrap (b-a)) b d c) (λg=>
 x9 (g.length=f.length) (
 e (i64.wrap (a-d),d,g)))
 else q9 (q1i f (i64.wrap (b-a)) (i64.wrap ((i64.wrap (b+d))-a)) a c) (λj=>
 x9 (j.length=f.length) (
 e (a,i64.wrap (d-a),j))))
 else q3x b c a f)
def q3a(b:List aB)(d:Int)(a:Int)(e:Int)(c:aB->aB->Option Int):Option (List aB):=
 q02 (q62 a c) rounds (i64.wrap (a-d),i64.wrap (e-a),b)
theorem qq0(j:List aB)(q:Int)(d:Int)(s:Int)(e:aB->aB->Option Int)(b:FuncId)(c:List AV)(a:q0f c=true)(f:u7 pp b=true)(g:∀(D:aB) (E:aB) (r:Int),e D E=some r->be pp b ([.agg (Row.row D),.agg (Row.row E)]++c) 0 (.v (.int .i64 r)))(r:List aB)(h:q3a j q d s e=some r):bu pp 131 [.osl 0 4 (0) (j.length),.v (.int .i64 q),.v (.int .i64 d),.v (.int .i64 s),.clo b c] [(0,.arr 4 (enc j))] 1 (.tup []) [(0,.arr 4 (enc r))] 1:=by
 refine dtI Tryz.func131 rfl ?_;rw[q3a]at h;have F:=trivial;refine sM ?_;refine sM ?_;refine q3e (λ((l,m):Int×(List aB))=>q3x d e l m=some r) [2,4] (λx=>([(0,.osl 0 4 (0) (x.2.length)),(10,.v (.int .i64 x.1))],[(0,.arr 4 (enc x.2))])) 1 ?_ ?_
 .
  intro _ I;refine w9 λ_ J=>?_;refine q0e h [2,4] (λx=>([(0,.osl 0 4 (0) (x.2.2.length)),(10,.v (.int .i64 x.1)),(11,.v (.int .i64 x.2.1))],[(0,.arr 4 (enc x.2.2))])) 1 ?_;rintro K ⟨k,t,n⟩ h _ z;rw[q62]at h;refine sg λ_ G=>?_;refine sM ?_;refine sB h (λ_ h=>?_) λ_ h=>?_
  .
   refine y5 (q8 G (w9 λ_ H=>?_));refine sM ?_;refine sB h (λ_ h=>?_) λ_ h=>?_
   . refine sg λ_ A=>?_;obtain⟨u,o,h⟩:=z8 h;simp only[go_sem];refine q5t [0] (q4x n (i64.wrap (d-k)) d t e b c a f g u o) (by simp) (by simp only[q5y,q2f,q5j a]<;>rfl) ⟨rfl,trivial⟩ (by simp only[ltL,ltA,q6n a]<;>rfl) rfl rfl rfl ?_;obtain⟨F,h⟩:=bG F h;simp only[go_sem,F];refine q8 A ?_;simp only[go_sem];refine q08 H (u6 z ?_);exact nxC _ h [] leA
   refine sg λ_ B=>?_;obtain⟨w,p,h⟩:=z8 h;simp only[go_sem];refine q5t [0] (q4x n (i64.wrap (d-k)) (i64.wrap ((i64.wrap (d+t))-k)) k e b c a f g w p) (by simp) (by simp only[q5y,q2f,q5j a]<;>rfl) ⟨rfl,trivial⟩ (by simp only[ltL,ltA,q6n a]<;>rfl) rfl rfl rfl ?_;obtain⟨F,h⟩:=bG F h;simp only[go_sem,F];refine q8 B ?_;simp only[go_sem];refine q08 H (u6 z ?_);exact nxC _ h [] leA
  refine q0u (q1w G (q0v z (q0m J (u6 I (⟨(k,n),[],?_,h⟩)))));exact leA
 rintro⟨l,m⟩ h
 try dsimp only at h
 rw[q3x]at h;obtain⟨C,y,h⟩:=z8 h;simp only[go_sem];refine q5t [0] (q4x m (i64.wrap (d-l)) d l e b c a f g C y) (by simp) (by simp only[q5y,q2f,q5j a]<;>rfl) ⟨rfl,trivial⟩ (by simp only[ltL,ltA,q6n a]<;>rfl) rfl rfl rfl ?_;obtain⟨F,h⟩:=bG F h;simp only[go_sem,F];obtain rfl:=Xa h;refine q27 [] ?_;exact leA
def q4c(k:Int)(f:aB->aB->Option Int)(j:Int)(d:(Int×(List aB)->Option (List aB)))(g:Int×(List aB)->Option (List aB)):Int×(List aB)->Option (List aB):=
 λ(a,c)=>
 (if (decide (k<a))=true then q9 (idx c a) (λe=>
 q9 (idx c (i64.wrap (a-1))) (λb=>
 q9 (f e b) (λl=>
 (if (decide (l<0))=true then q9 (idx (Xb c (a.toNat) b) (i64.wrap (a-1))) (λm=>
 g (i64.wrap (a-1),(Xb (Xb c (a.toNat) b) (Xd (i64.wrap (a-1))) e)))
 else d (i64.wrap (j+1),c)))))
 else d (i64.wrap (j+1),c))
def q2o(e:Int)(f:Int)(a:aB->aB->Option Int)(b:Int×(List aB)->Option (List aB)):Int×(List aB)->Option (List aB):=
 λ(c,d)=>
 (if (decide (c<f))=true then q02 (q4c e a c b) rounds (c,d)
 else some d)
def q19(a:List aB)(c:Int)(d:Int)(b:aB->aB->Option Int):Option (List aB):=
 q02 (q2o c d b) rounds (i64.wrap (c+1),a)
theorem q6t(e:List aB)(o:Int)(u:Int)(j:aB->aB->Option Int)(c:FuncId)(d:List AV)(k:q0f d=true)(l:u7 pp c=true)(m:∀(E:aB) (G:aB) (r:Int),j E G=some r->be pp c ([.agg (Row.row E),.agg (Row.row G)]++d) 0 (.v (.int .i64 r)))(r:List aB)(h:q19 e o u j=some r):bu pp 85 [.osl 0 4 (0) (e.length),.v (.int .i64 o),.v (.int .i64 u),.clo c d] [(0,.arr 4 (enc e))] 1 (.tup []) [(0,.arr 4 (enc r))] 1:=by
 refine dtI Tryz.func85 rfl ?_;rw[q19]at h;have F:=trivial;refine sM ?_;refine w9 λ_ M=>?_;refine q0e h [1,2,3] (λx=>([(0,.osl 0 4 (0) (x.2.length)),(8,.v (.int .i64 x.1))],[(0,.arr 4 (enc x.2))])) 1 ?_;rintro N ⟨O,P⟩ h _ z;rw[q2o]at h;refine sg λ_ H=>?_;refine sM ?_;refine sB h (λ_ h=>?_) λ_ h=>?_
 .
  refine y5 (q8 H (jg λ_ I=>?_));refine w9 λ_ J=>?_;refine sM ?_;refine w9 λ_ L=>?_;refine q0e h [1,2,3,8] (λx=>([(0,.osl 0 4 (0) (x.2.length)),(9,.v (.int .i64 x.1))],[(0,.arr 4 (enc x.2))])) 1 ?_;rintro Q ⟨g,n⟩ h _ p;rw[q4c]at h;refine sg λ_ q=>?_;refine sg λ_ w=>?_;refine q00 ?_;refine jy5 ?_;simp only[go_sem];rcases f:(decide (o<g))with _|_
  . replace h:=q2s h f;simp only[go_sem,f];refine q8 w (k1x ?_);refine q0u (q1w q (q0v p (q0m L (q08 J (q8 I ?_)))));simp only[go_sem];refine u6 z ?_;exact nxC _ h [] leA
  replace h:=q2r h f;obtain⟨b,F,h⟩:=bI F h;obtain⟨a,F,h⟩:=bI F h;obtain⟨A,y,h⟩:=z8 h;simp only[go_sem,f,l,F];refine ai ?_;refine ai ?_;refine q9s (m b a A y) (by rfl) (by simp[go_sem,q0f,q0n,k]) ?_;simp only[go_sem];refine q8 w (sB h (λ_ h=>?_) λ_ h=>?_)
  .
   refine y5 (q8 q (sg λ_ B=>?_));refine w9 λ_ C=>?_;refine q00 ?_;refine q1r 16 0 0 [0,0,0,0,8,0,0,64,224,480,0,0,3072,7168,16355,32739,65535,131071] [0] [2,3,4] [] [15] [] mixed (by kernel_rfl) (of_decide_eq_true (by kernel_rfl)) (by kernel_rfl) (by kernel_rfl) (by rfl) ?_;have s:(enc n).set (g.toNat) [.v (.int .i64 a.Node),.v (.int .i64 a.aJ),.v (.int .i64 a.Rec.K),.v (.int .i64 a.Rec.V)]=enc (Xb n (g.toNat) a):=by exact q6w _ _ _
   obtain⟨D,F,h⟩:=bI F h;have t:(enc (Xb n (g.toNat) a)).set (Xd (i64.wrap (g-1))) [.v (.int .i64 b.Node),.v (.int .i64 b.aJ),.v (.int .i64 b.Rec.K),.v (.int .i64 b.Rec.V)]=enc (Xb (Xb n (g.toNat) a) (Xd (i64.wrap (g-1))) b):=by exact q6w _ _ _
   simp only[go_sem,s,t,F];refine ai ?_;refine ai ?_;refine ai ?_;refine ai ?_;refine q08 C (q8 B ?_);simp only[go_sem];refine u6 p ?_;exact nxC _ h [] leA
  refine q0u (q1w q (q0v p (q0m L (q08 J (q8 I ?_)))));simp only[go_sem];refine u6 z ?_;exact nxC _ h [] leA
 refine q0u (q1w H (q0v z (q0m M ?_)));simp only[go_sem];obtain rfl:=Xa h;refine q27 [] ?_;exact leA
def q1o(c:Int)(d:Int)(b:Int)(f:aB->aB->Option Int)(self:(List aB)->Int->Int->Int->(aB->aB->Option Int)->Option (List aB))(a:Int)(g:List aB):Option (List aB):=
 (if ((decide ((i64.wrap (q2p .u64 (IntKind.u64.wrap (i64.wrap (c+b))) 1))<(i64.wrap ((i64.wrap ((i64.wrap (q2p .u64 (IntKind.u64.wrap (i64.wrap (c+b))) 1))+d))-a))))&&(decide ((i64.wrap ((i64.wrap ((i64.wrap (q2p .u64 (IntKind.u64.wrap (i64.wrap (c+b))) 1))+d))-a))<b)))=true then q9 (self g (i64.wrap (q2p .u64 (IntKind.u64.wrap (i64.wrap (c+b))) 1)) (i64.wrap ((i64.wrap ((i64.wrap (q2p .u64 (IntKind.u64.wrap (i64.wrap (c+b))) 1))+d))-a)) b f) (λe=>
 x9 (e.length=g.length) (
 some e))
 else some g)
def q1p(c:Int)(e:Int)(d:Int)(b:aB->aB->Option Int)(self:(List aB)->Int->Int->Int->(aB->aB->Option Int)->Option (List aB))(a:Int)(g:List aB):Option (List aB):=
 (if ((decide (c<a))&&(decide (a<(i64.wrap (q2p .u64 (IntKind.u64.wrap (i64.wrap (c+d))) 1)))))=true then q9 (self g c a (i64.wrap (q2p .u64 (IntKind.u64.wrap (i64.wrap (c+d))) 1)) b) (λf=>
 x9 (f.length=g.length) (
 q1o c e d b self a f))
 else q1o c e d b self a g)
def q2e(c:List aB)(e:Int)(b:Int)(f:Int)(d:aB->aB->Option Int)(self:(List aB)->Int->Int->Int->(aB->aB->Option Int)->Option (List aB))(a:Int):Option (List aB):=
 (if ((decide (a<b))&&(decide (b<(i64.wrap ((i64.wrap ((i64.wrap (q2p .u64 (IntKind.u64.wrap (i64.wrap (e+f))) 1))+b))-a)))))=true then q9 (q3a c a b (i64.wrap ((i64.wrap ((i64.wrap (q2p .u64 (IntKind.u64.wrap (i64.wrap (e+f))) 1))+b))-a)) d) (λg=>
 x9 (g.length=c.length) (
 q1p e b f d self a g))
 else q1p e b f d self a c)
def q5l(c:List aB)(k:Int)(f:Int)(l:Int)(d:aB->aB->Option Int)(self:(List aB)->Int->Int->Int->(aB->aB->Option Int)->Option (List aB))(e:Int×Int->Option (List aB)):Int×Int->Option (List aB):=
 λ(a,b)=>
 (if (decide (a<b))=true then q9 (idx c (i64.wrap ((i64.wrap ((i64.wrap ((i64.wrap (q2p .u64 (IntKind.u64.wrap (i64.wrap (k+l))) 1))+f))-1))-(i64.wrap (q2p .u64 (IntKind.u64.wrap (i64.wrap (a+b))) 1))))) (λg=>
 q9 (idx c (i64.wrap (q2p .u64 (IntKind.u64.wrap (i64.wrap (a+b))) 1))) (λj=>
 q9 (d g j) (λm=>
 (if (!(decide (m<0)))=true then e (i64.wrap ((i64.wrap (q2p .u64 (IntKind.u64.wrap (i64.wrap (a+b))) 1))+1),b)
 else e (a,i64.wrap (q2p .u64 (IntKind.u64.wrap (i64.wrap (a+b))) 1))))))
 else q2e c k f l d self a)
def q1q(b:List aB)(f:Int)(d:Int)(g:Int)(c:aB->aB->Option Int)(self:(List aB)->Int->Int->Int->(aB->aB->Option Int)->Option (List aB))(a:Int)(e:Int):Option (List aB):=
 q02 (q5l b f d g c self) rounds (a,e)
def q3j(b:List aB)(c:Int)(a:Int)(d:Int)(e:aB->aB->Option Int)(self:(List aB)->Int->Int->Int->(aB->aB->Option Int)->Option (List aB)):Option (List aB):=
 (if (decide ((i64.wrap (q2p .u64 (IntKind.u64.wrap (i64.wrap (c+d))) 1))<a))=true then q1q b c a d e self (i64.wrap ((i64.wrap ((i64.wrap (q2p .u64 (IntKind.u64.wrap (i64.wrap (c+d))) 1))+a))-d)) (i64.wrap (q2p .u64 (IntKind.u64.wrap (i64.wrap (c+d))) 1))
 else q1q b c a d e self c a)
def q5k(f:Int)(d:Int×(List aB)->Option (List aB)):Int×(List aB)->Option (List aB):=
 λ(a,b)=>
 (if (decide (f<a))=true then q9 (idx b (i64.wrap (a-1))) (λc=>
 q9 (idx b a) (λe=>
 q9 (idx (Xb b (a.toNat) c) (i64.wrap (a-1))) (λg=>
 d (i64.wrap (a-1),(Xb (Xb b (a.toNat) c) (Xd (i64.wrap (a-1))) e)))))
 else some b)
def q3i(a:List aB)(b:Int)(c:Int):Option (List aB):=
 q02 (q5k c) rounds (b,a)
def q59(b:List aB)(e:Int)(f:aB->aB->Option Int)(d:Int×Int->Option (List aB)):Int×Int->Option (List aB):=
 λ(a,c)=>
 (if (decide (a<c))=true then q9 (idx b e) (λg=>
 q9 (idx b (i64.wrap (q2p .u64 (IntKind.u64.wrap (i64.wrap (a+c))) 1))) (λj=>
 q9 (f g j) (λk=>
 (if (!(decide (k<0)))=true then d (i64.wrap ((i64.wrap (q2p .u64 (IntKind.u64.wrap (i64.wrap (a+c))) 1))+1),c)
 else d (a,i64.wrap (q2p .u64 (IntKind.u64.wrap (i64.wrap (a+c))) 1))))))
 else q3i b e a)
def q3k(a:List aB)(d:Int)(b:Int)(e:Int)(c:aB->aB->Option Int)(self:(List aB)->Int->Int->Int->(aB->aB->Option Int)->Option (List aB)):Option (List aB):=
 (if ((i64.wrap (e-b))==1)=true then q02 (q59 a b c) rounds (d,b)
 else q3j a d b e c self)
def q58(f:Int)(d:Int×(List aB)->Option (List aB)):Int×(List aB)->Option (List aB):=
 λ(a,b)=>
 (if (decide (a<(i64.wrap (f-1))))=true then q9 (idx b (i64.wrap (a+1))) (λc=>
 q9 (idx b a) (λe=>
 q9 (idx (Xb b (a.toNat) c) (i64.wrap (a+1))) (λg=>
 d (i64.wrap (a+1),(Xb (Xb b (a.toNat) c) (Xd (i64.wrap (a+1))) e)))))
 else some b)
def q3d(a:List aB)(c:Int)(b:Int):Option (List aB):=
 q02 (q58 b) rounds (c,a)
def q57(b:List aB)(j:Int)(e:aB->aB->Option Int)(d:Int×Int->Option (List aB)):Int×Int->Option (List aB):=
 λ(a,c)=>
 (if (decide (a<c))=true then q9 (idx b (i64.wrap (q2p .u64 (IntKind.u64.wrap (i64.wrap (a+c))) 1))) (λf=>
 q9 (idx b j) (λg=>
 q9 (e f g) (λk=>
 (if (decide (k<0))=true then d (i64.wrap ((i64.wrap (q2p .u64 (IntKind.u64.wrap (i64.wrap (a+c))) 1))+1),c)
 else d (a,i64.wrap (q2p .u64 (IntKind.u64.wrap (i64.wrap (a+c))) 1))))))
 else q3d b j a)
def q2h(self:(List aB)->Int->Int->Int->(aB->aB->Option Int)->Option (List aB))(a:List aB)(d:Int)(b:Int)(e:Int)(c:aB->aB->Option Int):Option (List aB):=
 (if ((i64.wrap (b-d))==1)=true then q02 (q57 a d c) rounds (b,e)
 else q3k a d b e c self)
def q0d:Nat->(List aB)->Int->Int->Int->(aB->aB->Option Int)->Option (List aB)
 |0=>λ_ _ _ _ _=>none
 |n+1=>q2h (q0d n)
def q49(a:List aB)(d:Int)(c:Int)(e:Int)(b:aB->aB->Option Int):Option (List aB):=q0d rounds a d c e b
theorem qj5(self:(List aB)->Int->Int->Int->(aB->aB->Option Int)->Option (List aB))(C:∀(a:List aB) (l:Int) (g:Int) (m:Int) (f:aB->aB->Option Int) (c:FuncId) (d:List AV) (b:q0f d=true) (j:u7 pp c=true) (k:∀(x0:aB) (x1:aB) (r:Int),f x0 x1=some r->be pp c ([.agg (Row.row x0),.agg (Row.row x1)]++d) 0 (.v (.int .i64 r))) (r:List aB),self a l g m f=some r->bu pp 86 [.osl 0 4 (0) (a.length),.v (.int .i64 l),.v (.int .i64 g),.v (.int .i64 m),.clo c d] [(0,.arr 4 (enc a))] 1 (.tup []) [(0,.arr 4 (enc r))] 1)(a:List aB)(l:Int)(g:Int)(m:Int)(f:aB->aB->Option Int)(c:FuncId)(d:List AV)(b:q0f d=true)(j:u7 pp c=true)(k:∀(x0:aB) (x1:aB) (r:Int),f x0 x1=some r->be pp c ([.agg (Row.row x0),.agg (Row.row x1)]++d) 0 (.v (.int .i64 r)))(r:List aB)(h:q2h self a l g m f=some r):bu pp 86 [.osl 0 4 (0) (a.length),.v (.int .i64 l),.v (.int .i64 g),.v (.int .i64 m),.clo c d] [(0,.arr 4 (enc a))] 1 (.tup []) [(0,.arr 4 (enc r))] 1:=by
 refine dtI Tryz.func86 rfl ?_;rw[q2h]at h;have F:=trivial;refine q3e (λ(_:Unit)=>q3k a l g m f self=some r) [0,1,2,3,4] (λ_=>([],[(0,.arr 4 (enc a))])) 1 ?_ ?_
 .
  intro _ b1;refine sM ?_;refine sB h (λ_ h=>?_) λ_ h=>?_
  .
   refine sM ?_;refine sM ?_;refine q3e (λ(u:Int)=>q3d a l u=some r) [0,1] (λu=>([(10,.v (.int .i64 u))],[(0,.arr 4 (enc a))])) 1 ?_ ?_
   .
    intro _ cb;refine w9 λ_ cc=>?_;refine q0e h [0,1,4] (λx=>([(10,.v (.int .i64 x.1)),(11,.v (.int .i64 x.2))],[(0,.arr 4 (enc a))])) 1 ?_;rintro dT ⟨b2,e0⟩ h _ J;rw[q57]at h;refine sg λ_ b3=>?_;refine sM ?_;refine sB h (λ_ h=>?_) λ_ h=>?_
    .
     refine y5 (q8 b3 (w9 λ_ b4=>?_));refine sM ?_;refine sg λ_ cd=>?_;refine q00 ?_;refine jy5 ?_;obtain⟨L,F,h⟩:=bI F h;obtain⟨M,F,h⟩:=bI F h;obtain⟨b5,N,h⟩:=z8 h;simp only[go_sem,j,F];refine ai ?_;refine ai ?_;refine q9s (k L M b5 N) (by rfl) (by simp[go_sem,q0f,q0n,b]) ?_;simp only[go_sem];refine q8 cd (sB h (λ_ h=>?_) λ_ h=>?_)
     . simp only[go_sem];refine q08 b4 (u6 J ?_);exact nxC _ h [] leA
     simp only[go_sem];refine q08 b4 (u6 J ?_);exact nxC _ h [] leA
    refine q0u (q1w b3 (q0v J (q0m cc (u6 cb (⟨b2,[],?_,h⟩)))));exact leA
   rintro u h
   try dsimp only at h
   rw[q3d]at h;refine jg λ_ cp=>?_;refine sM ?_;refine w9 λ_ cs=>?_;refine q0e h [10] (λx=>([(0,.osl 0 4 (0) (x.2.length)),(13,.v (.int .i64 x.1))],[(0,.arr 4 (enc x.2))])) 1 ?_;rintro e1 ⟨z,w⟩ h _ b6;rw[q58]at h;refine sg λ_ bc=>?_;refine sM ?_;refine sB h (λ_ h=>?_) λ_ h=>?_
   .
    refine y5 (q8 bc (sg λ_ cz=>?_));refine w9 λ_ d0=>?_;refine q00 ?_;refine q1r 16 0 0 [0,0,0,0,8,0,0,64,224,480,0,0,3072,7168,16355,32739,65535,131071] [0] [2,3,4] [] [15] [] mixed (by kernel_rfl) (of_decide_eq_true (by kernel_rfl)) (by kernel_rfl) (by kernel_rfl) (by rfl) ?_;obtain⟨n,F,h⟩:=bI F h;obtain⟨p,F,h⟩:=bI F h;have O:(enc w).set (z.toNat) [.v (.int .i64 n.Node),.v (.int .i64 n.aJ),.v (.int .i64 n.Rec.K),.v (.int .i64 n.Rec.V)]=enc (Xb w (z.toNat) n):=by exact q6w _ _ _
    obtain⟨d1,F,h⟩:=bI F h;have P:(enc (Xb w (z.toNat) n)).set (Xd (i64.wrap (z+1))) [.v (.int .i64 p.Node),.v (.int .i64 p.aJ),.v (.int .i64 p.Rec.K),.v (.int .i64 p.Rec.V)]=enc (Xb (Xb w (z.toNat) n) (Xd (i64.wrap (z+1))) p):=by exact q6w _ _ _
    simp only[go_sem,O,P,F];refine ai ?_;refine ai ?_;refine ai ?_;refine ai ?_;refine q08 d0 (q8 cz ?_);simp only[go_sem];refine u6 b6 ?_;exact nxC _ h [] leA
   refine q0u (q1w bc (q0v b6 (q0m cs (q8 cp (q04 (q34 b1 ?_))))));simp only[go_sem];obtain rfl:=Xa h;refine q27 [] ?_;exact leA
  refine y5 (u6 b1 (⟨(),[],?_,h⟩));exact leA
 rintro⟨⟩ h
 try dsimp only at h
 rw[q3k]at h;refine q3e (λ(_:Unit)=>q3j a l g m f self=some r) [0,1,2,3,4] (λ_=>([],[(0,.arr 4 (enc a))])) 1 ?_ ?_
 .
  intro _ bi;refine sM ?_;refine sB h (λ_ h=>?_) λ_ h=>?_
  .
   refine sM ?_;refine sM ?_;refine q3e (λ(y:Int)=>q3i a g y=some r) [0,2] (λy=>([(14,.v (.int .i64 y))],[(0,.arr 4 (enc a))])) 1 ?_ ?_
   .
    intro _ d2;refine w9 λ_ d3=>?_;refine q0e h [0,2,4] (λx=>([(14,.v (.int .i64 x.1)),(15,.v (.int .i64 x.2))],[(0,.arr 4 (enc a))])) 1 ?_;rintro e2 ⟨bk,e3⟩ h _ Q;rw[q59]at h;refine sg λ_ bs=>?_;refine sM ?_;refine sB h (λ_ h=>?_) λ_ h=>?_
    .
     refine y5 (q8 bs (w9 λ_ bv=>?_));refine sM ?_;refine sg λ_ d4=>?_;refine q00 ?_;refine jy5 ?_;obtain⟨R,F,h⟩:=bI F h;obtain⟨S,F,h⟩:=bI F h;obtain⟨c1,T,h⟩:=z8 h;simp only[go_sem,j,F];refine ai ?_;refine ai ?_;refine q9s (k R S c1 T) (by rfl) (by simp[go_sem,q0f,q0n,b]) ?_;simp only[go_sem];refine q8 d4 (sB h (λ_ h=>?_) λ_ h=>?_)
     . simp only[go_sem];refine q08 bv (u6 Q ?_);exact nxC _ h [] leA
     simp only[go_sem];refine q08 bv (u6 Q ?_);exact nxC _ h [] leA
    refine q0u (q1w bs (q0v Q (q0m d3 (u6 d2 (⟨bk,[],?_,h⟩)))));exact leA
   rintro y h
   try dsimp only at h
   rw[q3i]at h;refine jg λ_ d5=>?_;refine sM ?_;refine w9 λ_ d6=>?_;refine q0e h [14] (λx=>([(0,.osl 0 4 (0) (x.2.length)),(17,.v (.int .i64 x.1))],[(0,.arr 4 (enc x.2))])) 1 ?_;rintro e5 ⟨A,E⟩ h _ c2;rw[q5k]at h;refine sg λ_ c4=>?_;refine sM ?_;refine sB h (λ_ h=>?_) λ_ h=>?_
   .
    refine y5 (q8 c4 (sg λ_ d7=>?_));refine w9 λ_ d8=>?_;refine q00 ?_;refine q1r 16 0 0 [0,0,0,0,8,0,0,64,224,480,0,0,3072,7168,16355,32739,65535,131071] [0] [2,3,4] [] [15] [] mixed (by kernel_rfl) (of_decide_eq_true (by kernel_rfl)) (by kernel_rfl) (by kernel_rfl) (by rfl) ?_;obtain⟨o,F,h⟩:=bI F h;obtain⟨q,F,h⟩:=bI F h;have U:(enc E).set (A.toNat) [.v (.int .i64 o.Node),.v (.int .i64 o.aJ),.v (.int .i64 o.Rec.K),.v (.int .i64 o.Rec.V)]=enc (Xb E (A.toNat) o):=by exact q6w _ _ _
    obtain⟨dc,F,h⟩:=bI F h;have W:(enc (Xb E (A.toNat) o)).set (Xd (i64.wrap (A-1))) [.v (.int .i64 q.Node),.v (.int .i64 q.aJ),.v (.int .i64 q.Rec.K),.v (.int .i64 q.Rec.V)]=enc (Xb (Xb E (A.toNat) o) (Xd (i64.wrap (A-1))) q):=by exact q6w _ _ _
    simp only[go_sem,U,W,F];refine ai ?_;refine ai ?_;refine ai ?_;refine ai ?_;refine q08 d8 (q8 d7 ?_);simp only[go_sem];refine u6 c2 ?_;exact nxC _ h [] leA
   refine q0u (q1w c4 (q0v c2 (q0m d6 (q8 d5 (q04 (q34 bi ?_))))));simp only[go_sem];obtain rfl:=Xa h;refine q27 [] ?_;exact leA
  refine y5 (u6 bi (⟨(),[],?_,h⟩));exact leA
 rintro⟨⟩ h
 try dsimp only at h
 rw[q3j]at h;refine sM ?_;refine sM ?_;refine sM ?_;refine q3e (λ((s,G):Int×Int)=>q1q a l g m f self s G=some r) [0,1,2,3,4,18,19] (λx=>([(20,.v (.int .i64 x.1)),(21,.v (.int .i64 x.2))],[(0,.arr 4 (enc a))])) 1 ?_ ?_
 .
  intro _ c5;refine sM ?_;refine sB h (λ_ h=>?_) λ_ h=>?_
  . refine sM ?_;simp only[go_sem];refine u6 c5 (⟨(i64.wrap ((i64.wrap ((i64.wrap (q2p .u64 (IntKind.u64.wrap (i64.wrap (l+m))) 1))+g))-m),i64.wrap (q2p .u64 (IntKind.u64.wrap (i64.wrap (l+m))) 1)),[],?_,h⟩);exact leA
  refine sM ?_;simp only[go_sem];refine u6 c5 (⟨(l,g),[],?_,h⟩);exact leA
 rintro⟨s,G⟩ h
 try dsimp only at h
 rw[q1q]at h;refine sM ?_;refine q3e (λ(e:Int)=>q2e a l g m f self e=some r) [0,1,2,3,4,18,19] (λe=>([(20,.v (.int .i64 e))],[(0,.arr 4 (enc a))])) 1 ?_ ?_
 .
  intro _ dd;refine w9 λ_ dk=>?_;refine q0e h [0,1,2,3,4,18,19,22] (λx=>([(20,.v (.int .i64 x.1)),(21,.v (.int .i64 x.2))],[(0,.arr 4 (enc a))])) 1 ?_;rintro e6 ⟨D,e4⟩ h _ X;rw[q5l]at h;refine sg λ_ c6=>?_;refine sM ?_;refine sB h (λ_ h=>?_) λ_ h=>?_
  .
   refine y5 (q8 c6 (w9 λ_ c7=>?_));refine sM ?_;refine sg λ_ ds=>?_;refine q00 ?_;refine jy5 ?_;obtain⟨Y,F,h⟩:=bI F h;obtain⟨Z,F,h⟩:=bI F h;obtain⟨c8,a6,h⟩:=z8 h;simp only[go_sem,j,F];refine ai ?_;refine ai ?_;refine q9s (k Y Z c8 a6) (by rfl) (by simp[go_sem,q0f,q0n,b]) ?_;simp only[go_sem];refine q8 ds (sB h (λ_ h=>?_) λ_ h=>?_)
   . simp only[go_sem];refine q08 c7 (u6 X ?_);exact nxC _ h [] leA
   simp only[go_sem];refine q08 c7 (u6 X ?_);exact nxC _ h [] leA
  refine q0u (q1w c6 (q0v X (q0m dk (u6 dd (⟨D,[],?_,h⟩)))));exact leA
 rintro e h
 try dsimp only at h
 rw[q2e]at h;refine sM ?_;refine q3e (λ(t:(List aB))=>q1p l g m f self e t=some r) [1,3,4,18,20,24] (λt=>([(0,.osl 0 4 (0) (t.length))],[(0,.arr 4 (enc t))])) 1 ?_ ?_
 .
  intro _ Q9;refine sM ?_;refine sB h (λ_ h=>?_) λ_ h=>?_
  . obtain⟨H,ao,h⟩:=z8 h;simp only[go_sem];refine q5t [0] (qq0 a e g (i64.wrap ((i64.wrap ((i64.wrap (q2p .u64 (IntKind.u64.wrap (i64.wrap (l+m))) 1))+g))-e)) f c d b j k H ao) (by simp) (by simp only[q5y,q2f,q5j b]<;>rfl) ⟨rfl,trivial⟩ (by simp only[ltL,ltA,q6n b]<;>rfl) rfl rfl rfl ?_;obtain⟨F,h⟩:=bG F h;simp only[go_sem,F];refine u6 Q9 (⟨H,[],?_,h⟩);exact leA
  refine y5 (u6 Q9 (⟨a,[],?_,h⟩));exact leA
 rintro t h
 try dsimp only at h
 rw[q1p]at h;refine q3e (λ(B:(List aB))=>q1o l g m f self e B=some r) [3,4,18,24] (λB=>([(0,.osl 0 4 (0) (B.length))],[(0,.arr 4 (enc B))])) 1 ?_ ?_
 .
  intro _ Q7;refine sM ?_;refine sB h (λ_ h=>?_) λ_ h=>?_
  . obtain⟨I,ar,h⟩:=z8 h;simp only[go_sem];refine q5t [0] (C t l e (i64.wrap (q2p .u64 (IntKind.u64.wrap (i64.wrap (l+m))) 1)) f c d b j k I ar) (by simp) (by simp only[q5y,q2f,q5j b]<;>rfl) ⟨rfl,trivial⟩ (by simp only[ltL,ltA,q6n b]<;>rfl) rfl rfl rfl ?_;obtain⟨F,h⟩:=bG F h;simp only[go_sem,F];refine u6 Q7 (⟨I,[],?_,h⟩);exact leA
  refine y5 (u6 Q7 (⟨t,[],?_,h⟩));exact leA
 rintro B h
 try dsimp only at h
 rw[q1o]at h;refine sM ?_;refine sB h (λ_ h=>?_) λ_ h=>?_
 . obtain⟨c9,b0,h⟩:=z8 h;simp only[go_sem];refine q5t [0] (C B (i64.wrap (q2p .u64 (IntKind.u64.wrap (i64.wrap (l+m))) 1)) (i64.wrap ((i64.wrap ((i64.wrap (q2p .u64 (IntKind.u64.wrap (i64.wrap (l+m))) 1))+g))-e)) m f c d b j k c9 b0) (by simp) (by simp only[q5y,q2f,q5j b]<;>rfl) ⟨rfl,trivial⟩ (by simp only[ltL,ltA,q6n b]<;>rfl) rfl rfl rfl ?_;obtain⟨F,h⟩:=bG F h;simp only[go_sem,F];obtain rfl:=Xa h;refine q27 [] ?_;exact leA
 refine y5 ?_;simp only[go_sem];obtain rfl:=Xa h;refine q27 [] ?_;exact leA
theorem q7c:∀(n:Nat) (c:List aB) (k:Int) (j:Int) (l:Int) (d:aB->aB->Option Int) (a:FuncId) (b:List AV) (e:q0f b=true) (f:u7 pp a=true) (g:∀(m:aB) (o:aB) (r:Int),d m o=some r->be pp a ([.agg (Row.row m),.agg (Row.row o)]++b) 0 (.v (.int .i64 r))) (r:List aB),q0d n c k j l d=some r->bu pp 86 [.osl 0 4 (0) (c.length),.v (.int .i64 k),.v (.int .i64 j),.v (.int .i64 l),.clo a b] [(0,.arr 4 (enc c))] 1 (.tup []) [(0,.arr 4 (enc r))] 1
 |0,c,k,j,l,d,a,b,e,f,g,r,h=>by simp[q0d]at h
 |n+1,c,k,j,l,d,a,b,e,f,g,r,h=>qj5 (q0d n) (q7c n) c k j l d a b e f g r h
theorem q7r(c:List aB)(k:Int)(e:Int)(l:Int)(d:aB->aB->Option Int)(a:FuncId)(b:List AV)(f:q0f b=true)(g:u7 pp a=true)(j:∀(m:aB) (n:aB) (r:Int),d m n=some r->be pp a ([.agg (Row.row m),.agg (Row.row n)]++b) 0 (.v (.int .i64 r)))(r:List aB)(h:q49 c k e l d=some r):bu pp 86 [.osl 0 4 (0) (c.length),.v (.int .i64 k),.v (.int .i64 e),.v (.int .i64 l),.clo a b] [(0,.arr 4 (enc c))] 1 (.tup []) [(0,.arr 4 (enc r))] 1:=q7c rounds c k e l d a b f g j r h
def q3u(e:Int)(g:aB->aB->Option Int)(a:Int)(b:(Int×(List aB)->Option (List aB)))(c:Int)(d:List aB):Option (List aB):=
 (if (decide ((i64.wrap (c+a))<e))=true then q9 (q49 d c (i64.wrap (c+a)) e g) (λf=>
 x9 (f.length=d.length) (
 b (i64.wrap (a*2),f)))
 else b (i64.wrap (a*2),d))
def q61(f:Int)(c:aB->aB->Option Int)(a:Int)(j:(Int×(List aB)->Option (List aB)))(k:Int×Int×(List aB)->Option (List aB)):Int×Int×(List aB)->Option (List aB):=
 λ(d,b,e)=>
 (if (decide (b<=f))=true then q9 (q49 e d (i64.wrap (d+a)) b c) (λg=>
 x9 (g.length=e.length) (
 k (b,i64.wrap (b+(i64.wrap (2*a))),g)))
 else q3u f c a j d e)
def q3w(b:Int)(d:aB->aB->Option Int)(e:Int×(List aB)->Option (List aB)):Int×(List aB)->Option (List aB):=
 λ(a,c)=>
 (if (decide (a<b))=true then q02 (q61 b d a e) rounds (0,i64.wrap (2*a),c)
 else some c)
def q3v(b:Int)(a:aB->aB->Option Int)(e:Int)(c:List aB):Option (List aB):=
 q9 (q19 c e b a) (λd=>
 x9 (d.length=c.length) (
 q02 (q3w b a) rounds (20,d)))
def q60(d:Int)(b:aB->aB->Option Int)(g:Int×Int×(List aB)->Option (List aB)):Int×Int×(List aB)->Option (List aB):=
 λ(e,a,c)=>
 (if (decide (a<=d))=true then q9 (q19 c e a b) (λf=>
 x9 (f.length=c.length) (
 g (a,i64.wrap (a+20),f)))
 else q3v d b e c)
def q4t(a:List aB)(c:Int)(b:aB->aB->Option Int):Option (List aB):=
 q02 (q60 c b) rounds (0,20,a)
theorem qp9(k:List aB)(j:Int)(d:aB->aB->Option Int)(b:FuncId)(c:List AV)(a:q0f c=true)(f:u7 pp b=true)(g:∀(W:aB) (X:aB) (r:Int),d W X=some r->be pp b ([.agg (Row.row W),.agg (Row.row X)]++c) 0 (.v (.int .i64 r)))(r:List aB)(h:q4t k j d=some r):bu pp 42 [.osl 0 4 (0) (k.length),.v (.int .i64 j),.clo b c] [(0,.arr 4 (enc k))] 1 (.tup []) [(0,.arr 4 (enc r))] 1:=by
 refine dtI Tryz.func42 rfl ?_;rw[q4t]at h;have F:=trivial;refine sM ?_;refine sM ?_;refine q3e (λ((s,t):Int×(List aB))=>q3v j d s t=some r) [1,2,6] (λx=>([(0,.osl 0 4 (0) (x.2.length)),(7,.v (.int .i64 x.1))],[(0,.arr 4 (enc x.2))])) 1 ?_ ?_
 .
  intro _ L;refine w9 λ_ M=>?_;refine q0e h [1,2,6] (λx=>([(0,.osl 0 4 (0) (x.2.2.length)),(7,.v (.int .i64 x.1)),(8,.v (.int .i64 x.2.1))],[(0,.arr 4 (enc x.2.2))])) 1 ?_;rintro a6 ⟨o,z,p⟩ h _ A;rw[q60]at h;refine sg λ_ B=>?_;refine sM ?_;refine sB h (λ_ h=>?_) λ_ h=>?_
  . refine y5 (q8 B (w9 λ_ N=>?_));refine sg λ_ O=>?_;obtain⟨C,u,h⟩:=z8 h;simp only[go_sem];refine q5t [0] (q6t p o z d b c a f g C u) (by simp) (by simp only[q5y,q2f,q5j a]<;>rfl) ⟨rfl,trivial⟩ (by simp only[ltL,ltA,q6n a]<;>rfl) rfl rfl rfl ?_;obtain⟨F,h⟩:=bG F h;simp only[go_sem,F];refine q8 O (sM ?_);simp only[go_sem];refine q08 N (u6 A ?_);exact nxC _ h [] leA
  refine q0u (q1w B (q0v A (q0m M (u6 L (⟨(o,p),[],?_,h⟩)))));exact leA
 rintro⟨s,t⟩ h
 try dsimp only at h
 rw[q3v]at h;refine sg λ_ Q3=>?_;obtain⟨P,D,h⟩:=z8 h;simp only[go_sem];refine q5t [0] (q6t t s j d b c a f g P D) (by simp) (by simp only[q5y,q2f,q5j a]<;>rfl) ⟨rfl,trivial⟩ (by simp only[ltL,ltA,q6n a]<;>rfl) rfl rfl rfl ?_;obtain⟨F,h⟩:=bG F h;simp only[go_sem,F];refine q8 Q3 (w9 λ_ Q4=>?_);refine q0e h [1,2] (λx=>([(0,.osl 0 4 (0) (x.2.length)),(6,.v (.int .i64 x.1))],[(0,.arr 4 (enc x.2))])) 1 ?_;rintro Q ⟨e,Y⟩ h _ R;rw[q3w]at h;refine sg λ_ Z=>?_;refine sM ?_;refine sB h (λ_ h=>?_) λ_ h=>?_
 .
  refine y5 (q8 Z (w9 λ_ Q8=>?_));refine sM ?_;refine q3e (λ((l,m):Int×(List aB))=>q3u j d e (q02 (q3w j d) Q) l m=some r) [1,2,6] (λx=>([(0,.osl 0 4 (0) (x.2.length)),(7,.v (.int .i64 x.1))],[(0,.arr 4 (enc x.2))])) 1 ?_ ?_
  .
   intro _ S;refine w9 λ_ T=>?_;refine q0e h [1,2,6] (λx=>([(0,.osl 0 4 (0) (x.2.2.length)),(7,.v (.int .i64 x.1)),(8,.v (.int .i64 x.2.1))],[(0,.arr 4 (enc x.2.2))])) 1 ?_;rintro ao ⟨n,E,q⟩ h _ G;rw[q61]at h;refine sg λ_ H=>?_;refine sM ?_;refine sB h (λ_ h=>?_) λ_ h=>?_
   . refine y5 (q8 H (w9 λ_ U=>?_));refine sg λ_ V=>?_;obtain⟨I,w,h⟩:=z8 h;simp only[go_sem];refine q5t [0] (q7r q n (i64.wrap (n+e)) E d b c a f g I w) (by simp) (by simp only[q5y,q2f,q5j a]<;>rfl) ⟨rfl,trivial⟩ (by simp only[ltL,ltA,q6n a]<;>rfl) rfl rfl rfl ?_;obtain⟨F,h⟩:=bG F h;simp only[go_sem,F];refine q8 V (sM ?_);simp only[go_sem];refine q08 U (u6 G ?_);exact nxC _ h [] leA
   refine q0u (q1w H (q0v G (q0m T (u6 S (⟨(n,q),[],?_,h⟩)))));exact leA
  rintro⟨l,m⟩ h
  try dsimp only at h
  rw[q3u]at h;refine jg λ_ J=>?_;refine sM ?_;refine sM ?_;refine sB h (λ_ h=>?_) λ_ h=>?_
  . obtain⟨K,y,h⟩:=z8 h;simp only[go_sem];refine q5t [0] (q7r m l (i64.wrap (l+e)) j d b c a f g K y) (by simp) (by simp only[q5y,q2f,q5j a]<;>rfl) ⟨rfl,trivial⟩ (by simp only[ltL,ltA,q6n a]<;>rfl) rfl rfl rfl ?_;obtain⟨F,h⟩:=bG F h;simp only[go_sem,F];refine q8 J ?_;simp only[go_sem];refine q08 Q8 (u6 R ?_);exact nxC _ h [] leA
  refine y5 (q8 J ?_);simp only[go_sem];refine q08 Q8 (u6 R ?_);exact nxC _ h [] leA
 refine q0u (q1w Z (q0v R (q0m Q4 ?_)));simp only[go_sem];obtain rfl:=Xa h;refine q27 [] ?_;exact leA
def q0o(a:List aB)(b:aB->aB->Option Int):Option (List aB):=
 q9 (q4t a (a.length:Int) b) (λc=>
 x9 (c.length=a.length) (
 some c))
theorem q83(d:List aB)(e:aB->aB->Option Int)(a:FuncId)(b:List AV)(c:q0f b=true)(f:u7 pp a=true)(g:∀(l:aB) (m:aB) (r:Int),e l m=some r->be pp a ([.agg (Row.row l),.agg (Row.row m)]++b) 0 (.v (.int .i64 r)))(r:List aB)(h:q0o d e=some r):bu pp 15 [.osl 0 4 (0) (d.length),.clo a b] [(0,.arr 4 (enc d))] 1 (.tup []) [(0,.arr 4 (enc r))] 1:=by
 refine dtI Tryz.func15 rfl ?_;rw[q0o]at h;have F:=trivial;obtain⟨k,j,h⟩:=z8 h;simp only[go_sem];refine q5t [0] (qp9 d (d.length:Int) e a b c f g k j) (by simp) (by simp only[q5y,q2f,q5j c]<;>rfl) ⟨rfl,trivial⟩ (by simp only[ltL,ltA,q6n c]<;>rfl) rfl rfl rfl ?_;obtain⟨F,h⟩:=bG F h;simp only[go_sem,F];obtain rfl:=Xa h;refine q27 [] ?_;exact leA
def q8c(a:Int):Option Bool:=
 some (!(a==a))
instance j78(a:Int):Ct pp 43 (q8c a) [.v (.int .i64 a)] λr=>(.v (.bool r)):=ctI Tryz.func43 rfl (by rw[q8c];exact au1)
def q38(a:Int)(b:Int):Option Int:=
 q9 (q8c a) (λd=>
 q9 (q8c b) (λc=>
 (if d=true then (if c=true then some 0
 else some (-1))
 else (if c=true then some 1
 else (if (decide (a<b))=true then some (-1)
 else (if (decide (b<a))=true then some 1
 else some 0))))))
instance z6x(a:Int)(b:Int):Ct pp 18 (q38 a b) [.v (.int .i64 a),.v (.int .i64 b)] λr=>(.v (.int .i64 r)):=ctI Tryz.func18 rfl (by rw[q38];exact au1)
def qj7(c:List aT)(e:aT->Option Bool)(b:Int->Option Int):Int->Option Int:=
 λa=>
 (if (decide (a<(c.length:Int)))=true then q9 (idx c a) (λd=>
 q9 (e d) (λf=>
 (if f=true then some a
 else b (i64.wrap (a+1)))))
 else some (-1))
def q9w(a:List aT)(b:aT->Option Bool):Option Int:=
 q02 (qj7 a b) rounds 0
theorem z1l(g:List aT)(j:aT->Option Bool)(a:FuncId)(b:List AV)(d:q0f b=true)(e:u7 pp a=true)(f:∀(p:aT) (r:Bool),j p=some r->be pp a ([.agg (Row.row p)]++b) 0 (.v (.bool r)))(r:Int)(h:q9w g j=some r):be pp 56 [.sl 4 (enc g),.clo a b] 0 (.v (.int .i64 r)):=by
 refine ptI Tryz.func56 rfl ?_;rw[q9w]at h;have F:=trivial;refine sM ?_;refine jg λ_ q=>?_;refine sM ?_;refine w9 λ_ s=>?_;refine q0e h [0,1,7] (λc=>([(8,.v (.int .i64 c))],[])) 0 ?_;rintro y c h _ m;rw[qj7]at h;refine sM ?_;refine sg λ_ t=>?_;refine sB h (λ_ h=>?_) λ_ h=>?_
 .
  refine y5 (q8 t (sg λ_ u=>?_));refine w9 λ_ w=>?_;refine sM ?_;refine sg λ_ n=>?_;obtain⟨k,F,h⟩:=bI F h;obtain⟨o,l,h⟩:=z8 h;simp only[go_sem,e,F];refine ai ?_;refine q9s (f k o l) (by rfl) (by simp[go_sem,q0f,q0n,d]) ?_;simp only[go_sem];refine q8 n (sB h (λ_ h=>?_) λ_ h=>?_)
  . refine sM ?_;refine q04 (q12 w (q18 u (q34 m (q12 s (q18 q ?_)))));simp only[go_sem];obtain rfl:=Xa h;refine q5h rfl ?_;exact leA
  refine y5 (q08 w (q8 u ?_));simp only[go_sem];refine u6 m ?_;exact nxC _ h [] leA
 refine q0u (q1w t (q0v m (q0m s (q8 q (sM ?_)))));refine q04 ?_;simp only[go_sem];obtain rfl:=Xa h;refine q5h rfl ?_;exact leA
def q4r(a:List aT)(b:aT->Option Bool):Option Bool:=
 q9 (q9w a b) (λc=>
 some (decide (0<=c)))
theorem qe0(d:List aT)(e:aT->Option Bool)(a:FuncId)(b:List AV)(c:q0f b=true)(f:u7 pp a=true)(g:∀(l:aT) (r:Bool),e l=some r->be pp a ([.agg (Row.row l)]++b) 0 (.v (.bool r)))(r:Bool)(h:q4r d e=some r):be pp 26 [.sl 4 (enc d),.clo a b] 0 (.v (.bool r)):=by
 refine ptI Tryz.func26 rfl ?_;rw[q4r]at h;have F:=trivial;refine sM ?_;refine sg λ_ m=>?_;obtain⟨k,j,h⟩:=z8 h;simp only[go_sem];refine q9s (z1l d e a b c f g k j) (by rfl) (by simp[go_sem,q0f,q0n,c]) ?_;simp only[go_sem];refine q8 m (q04 ?_);simp only[go_sem];obtain rfl:=Xa h;refine q5h rfl ?_;exact leA
def qf3(a:aT)(b:aa):Option Bool:=
 (if ((decide (a.Node<0))||(decide ((b.al.length:Int)<=a.Node)))=true then some true
 else q9 (idx b.al a.Node) (λc=>
 some (((!(c.Kind==1))||(decide (a.aJ<0)))||(decide (1048576<a.aJ)))))
instance z9s(b:aT)(a:aa):Ct pp 44 (qf3 b a) [.agg (Row.row b),.el 4 [(Row.row a)] 0 0] λr=>(.v (.bool r)):=ctI Tryz.func44 rfl (by rw[qf3];exact au1)
def qo4(c:aa)(b:List aT)(a:Int):Option Bool:=
 q9 (q8j c) (λd=>
 (if (((!(d.1==0))||(decide (a<0)))||(decide (1048576<a)))=true then some false
 else q9 (q4r b (λe=>qf3 e c)) (λf=>
 some (!f))))
instance zi1(c:aa)(a:List aT)(b:Int):Ct pp 19 (qo4 c a b) [.agg (Row.row c),.sl 4 (enc a),.v (.int .i64 b)] λr=>(.v (.bool r)):=ctK Tryz.func19 rfl (by rw[qo4]) (by
 intro r h F;refine sM ?_;refine sg λ_ g=>?_;refine sg λ_ j=>?_;simp only[go_sem];refine q2b h λk h=>?_;simp only[go_sem];refine q8 j (sM ?_);refine sB h (λ_ h=>?_) λ_ h=>?_
 . exact au
 refine y5 (q8 g (sg λ_ o=>?_));obtain⟨e,d,h⟩:=z8 h;simp only[go_sem];refine qo8 (qe0 a (λf=>qf3 f c) 44 [.el 4 [(Row.row c)] 0 0] (by rfl) (by kernel_rfl) (λl m n=>z9s l c m n) e d) ?_;simp only[go_sem];exact au)
def j6s:Go.Shelf.Ren:=⟨λ|189=>21|125=>46|257=>45|128=>96|129=>97|294=>87|295=>88|296=>89|297=>90|298=>91|299=>92|216=>93|300=>94|301=>95|328=>132|329=>133|330=>134|331=>135|332=>136|215=>43|343=>155|n=>n,λ|28=>22|3=>3|46=>120|0=>0|51=>166|53=>168|4=>4|183=>159|182=>158|131=>163|5=>5|9=>9|218=>199|222=>203|228=>222|229=>223|n=>n,λ|n=>n⟩
theorem jd0:Go.Proofs.Lays.n189 pp j6s:={
 mixed:=by kernel_rfl
 f125:=Tryz.func46.trans (congrArg some (by kernel_rfl))
 f128:=Tryz.func96.trans (congrArg some (by kernel_rfl))
 f129:=Tryz.func97.trans (congrArg some (by kernel_rfl))
 f189:=Tryz.func21.trans (congrArg some (by kernel_rfl))
 f215:=Tryz.func43.trans (congrArg some (by kernel_rfl))
 f216:=Tryz.func93.trans (congrArg some (by kernel_rfl))
 f257:=Tryz.func45.trans (congrArg some (by kernel_rfl))
 f294:=Tryz.func87.trans (congrArg some (by kernel_rfl))
 f295:=Tryz.func88.trans (congrArg some (by kernel_rfl))
 f296:=Tryz.func89.trans (congrArg some (by kernel_rfl))
 f297:=Tryz.func90.trans (congrArg some (by kernel_rfl))
 f298:=Tryz.func91.trans (congrArg some (by kernel_rfl))
 f299:=Tryz.func92.trans (congrArg some (by kernel_rfl))
 f300:=Tryz.func94.trans (congrArg some (by kernel_rfl))
 f301:=Tryz.func95.trans (congrArg some (by kernel_rfl))
 f328:=Tryz.func132.trans (congrArg some (by kernel_rfl))
 f329:=Tryz.func133.trans (congrArg some (by kernel_rfl))
 f330:=Tryz.func134.trans (congrArg some (by kernel_rfl))
 f331:=Tryz.func135.trans (congrArg some (by kernel_rfl))
 f332:=Tryz.func136.trans (congrArg some (by kernel_rfl))
 f343:=Tryz.func155.trans (congrArg some (by kernel_rfl))
 t0:=Tryz.underlying0
 a0:=Tryz.isAgg0
 z0:=Tryz.sizeOf0
 v0:=Tryz.zeroValue0
 t3:=Tryz.underlying3
 a3:=Tryz.isAgg3
 z3:=Tryz.sizeOf3
 v3:=Tryz.zeroValue3
 t4:=Tryz.underlying4
 a4:=Tryz.isAgg4
 z4:=Tryz.sizeOf4
 v4:=Tryz.zeroValue4
 t5:=Tryz.underlying5
 a5:=Tryz.isAgg5
 z5:=Tryz.sizeOf5
 v5:=Tryz.zeroValue5
 t9:=Tryz.underlying9
 a9:=Tryz.isAgg9
 z9:=Tryz.sizeOf9
 v9:=Tryz.zeroValue9
 t28:=Tryz.underlying22
 a28:=Tryz.isAgg22
 z28:=Tryz.sizeOf22
 v28:=Tryz.zeroValue22
 t46:=Tryz.underlying120
 a46:=Tryz.isAgg120
 z46:=Tryz.sizeOf120
 v46:=Tryz.zeroValue120
 t51:=Tryz.underlying166
 a51:=Tryz.isAgg166
 z51:=Tryz.sizeOf166
 v51:=Tryz.zeroValue166
 t53:=Tryz.underlying168
 a53:=Tryz.isAgg168
 z53:=Tryz.sizeOf168
 v53:=Tryz.zeroValue168
 t131:=Tryz.underlying163
 a131:=Tryz.isAgg163
 z131:=Tryz.sizeOf163
 v131:=Tryz.zeroValue163
 t182:=Tryz.underlying158
 a182:=Tryz.isAgg158
 z182:=Tryz.sizeOf158
 v182:=Tryz.zeroValue158
 t183:=Tryz.underlying159
 a183:=Tryz.isAgg159
 z183:=Tryz.sizeOf159
 v183:=Tryz.zeroValue159
 t218:=Tryz.underlying199
 a218:=Tryz.isAgg199
 z218:=Tryz.sizeOf199
 v218:=Tryz.zeroValue199
 t222:=Tryz.underlying203
 a222:=Tryz.isAgg203
 z222:=Tryz.sizeOf203
 v222:=Tryz.zeroValue203
 t228:=Tryz.underlying222
 a228:=Tryz.isAgg222
 z228:=Tryz.sizeOf222
 v228:=Tryz.zeroValue222
 t229:=Tryz.underlying223
 a229:=Tryz.isAgg223
 z229:=Tryz.sizeOf223
 v229:=Tryz.zeroValue223}
def qd3(a:List Int):Option (List Int):=j3i a
theorem z1j(a:List Int)(r:List Int)(h:qd3 a=some r):bu pp 21 [.osl 0 1 0 (a.length)] [(0,.arr 1 (enc a))] 1 (.tup []) [(0,.arr 1 (enc r))] 1:=
 zw1 jd0 (by kernel_rfl) (λw=>Any.slices_Sort_int_none jd0 none 0 w) h
def j6r:Go.Shelf.Ren:=⟨λ|20=>22|n=>n,λ|22=>22|3=>3|4=>4|0=>0|n=>n,λ|n=>n⟩
theorem jx5:Go.Proofs.Lays2.n20 pp j6r:={
 mixed:=by kernel_rfl
 f20:=Tryz.func22.trans (congrArg some (by kernel_rfl))
 t0:=Tryz.underlying0
 a0:=Tryz.isAgg0
 z0:=Tryz.sizeOf0
 v0:=Tryz.zeroValue0
 t3:=Tryz.underlying3
 a3:=Tryz.isAgg3
 z3:=Tryz.sizeOf3
 v3:=Tryz.zeroValue3
 t4:=Tryz.underlying4
 a4:=Tryz.isAgg4
 z4:=Tryz.sizeOf4
 v4:=Tryz.zeroValue4
 t22:=Tryz.underlying22
 a22:=Tryz.isAgg22
 z22:=Tryz.sizeOf22
 v22:=Tryz.zeroValue22
 i3:=by kernel_rfl}
def q8x(a:List Int):Option (List Int):=zd6 a
theorem z08(a:List Int)(r:List Int)(h:q8x a=some r):bu pp 22 [.osl 0 1 0 (a.length)] [(0,.arr 1 (enc a))] 1 (.osl 0 1 0 (r.length)) [(0,.arr 1 (enc r))] 1:=
 zj0 jx5 (by kernel_rfl) h
def q6f(a:aB)(b:aB):Option Int:=
 q9 (q38 a.Node b.Node) (λc=>
 some c)
instance zi2(a:aB)(b:aB):Ct pp 24 (q6f a b) [.agg (Row.row a),.agg (Row.row b)] λr=>(.v (.int .i64 r)):=ctI Tryz.func24 rfl (by rw[q6f];exact au1)
end Go.Proofs.YtdcdfkdhomekeaaGreat

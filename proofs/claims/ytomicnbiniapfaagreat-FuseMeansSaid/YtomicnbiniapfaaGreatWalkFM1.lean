/-
  What functions of the program compute, each told as a plain function that may give nothing, with the proof that the code does so. No condition beyond those that each theorem names.
-/
import Derived.Test.YtomicnbiniapfaaGreatWalkFM0
import Derived.Test.YtomicnbiniapfaaGreatLibI
import Derived.Test.YtomicnbiniapfaaGreatLibD
set_option linter.unusedSimpArgs false
set_option linter.unusedVariables false
set_option linter.unusedSectionVars false
set_option maxHeartbeats 2000000
set_option maxRecDepth 100000
open Int renaming toNat->Xa,toNat_natCast->Xy,reduceToNat->Xz
open List renaming take->Xb,length_cons->Xf,length_nil->Xg,set->Xh,length->Xi,getD_eq_getElem?_getD->Xj,eraseIdx->Xk,nil_append->Xo,cons_append->Xp,drop->Xq,append_nil->Xr,length_append->Xv,map_cons->Xw,map_nil->Xx,replicate->X0,drop_succ_cons->X5,mapIdx_cons->X6,mapIdx_nil->X7
open And renaming intro->Xc
open Nat renaming zero_add->Xd,reduceAdd->Xl,mul_one->Xs,add_zero->X3,lt_succ_self->X4,add_assoc->X8
open Option renaming some.inj->Xe,getD_some->Xt,map_some->Xu
open Prod renaming mk->Xm
namespace Go.Proofs.YtomicnbiniapfaaGreat
open Go Go.RowKit
open Go.IntKind (i64)
def qw9(W:List a8)(I:Int->Option Bool):Int->Option Bool:=
 fun G=>
 (if (decide (G<(W.length:Int)))=true then q9 (idx W G) (fun T=>
 (if (T.N==0)=true then some false
 else q9 (qu2 T.N) (fun a6=>
 (if a6=true then (if (decide (0<G))=true then q9 (idx W (i64.wrap (G-1))) (fun Z=>
 q9 (z1a Z.Rec T.Rec) (fun aj=>
 (if (!aj)=true then some false
 else I (i64.wrap (G+1)))))
 else I (i64.wrap (G+1)))
 else some false))))
 else some true)
def q9s(G:List a8):Option Bool:=
 d9 (qw9 G) rounds 0
instance js6(I:List a8):Ct pp 104 (q9s I) [.sl 3 (enc I)] fun r=>(.v (.bool r)):=ctK Tryz.func104 rfl (by rw[q9s]) (by
 intro r h F;refine sM ?_;refine jg fun _ W=>?_;refine sM ?_;refine z8 fun _ Z=>?_;refine q0e h [0,5,6] (fun G=>([(7,.v (.int .i64 G))],[])) 0 ?_;rintro T G h _ Q5;rw[qw9]at h;exact au)
def q4j(T:List a8)(G:aP)(W:a8->aP->Option Int)(I:Int):Option (Int×Bool):=
 (if (decide (I<(T.length:Int)))=true then q9 (idx T I) (fun Z=>
 q9 (W Z G) (fun a6=>
 some (I,(a6==0))))
 else some (I,false))
def q7l(a6:List a8)(G:aP)(T:a8->aP->Option Int)(W:Int×Int->Option (Int×Bool)):Int×Int->Option (Int×Bool):=
 fun (I,Z)=>
 (if (decide (I<Z))=true then q9 (idx a6 (i64.wrap (q2e .u64 (IntKind.u64.wrap (i64.wrap (I+Z))) 1))) (fun aj=>
 q9 (T aj G) (fun ak=>
 (if (decide (ak<0))=true then W (i64.wrap ((i64.wrap (q2e .u64 (IntKind.u64.wrap (i64.wrap (I+Z))) 1))+1),Z)
 else W (I,i64.wrap (q2e .u64 (IntKind.u64.wrap (i64.wrap (I+Z))) 1)))))
 else q4j a6 G T I)
def q3s(I:List a8)(G:aP)(T:a8->aP->Option Int):Option (Int×Bool):=
 d9 (q7l I G T) rounds (0,(I.length:Int))
theorem z05(ak:List a8)(G:aP)(aj:a8->aP->Option Int)(I:FuncId)(T:List AV)(W:q0j T=true)(Z:q02 pp I=true)(a6:∀(x0:a8) (x1:aP) (r:Int),aj x0 x1=some r->aZ pp I ([.agg (Row.row x0),.agg (Row.row x1)]++T) 0 (.v (.int .i64 r)))(r:Int×Bool)(h:q3s ak G aj=some r):aZ pp 126 [.sl 3 (enc ak),.agg (Row.row G),.clo I T] 0 (.tup [.v (.int .i64 r.1),.v (.bool r.2)]):=by
 refine ptI Tryz.func126 rfl ?_;rw[q3s]at h;have F:=trivial;refine sM ?_;refine sM ?_;refine sM ?_;refine q30 (fun (ao:Int)=>q4j ak G aj ao=some r) [0,2,4,8] (fun ao=>([(9,.v (.int .i64 ao))],[(0,.box (Row.row G))])) 1 ?_ ?_
 .
  intro _ Q5;refine z8 fun _ Q6=>?_;refine q0e h [0,2,4,8] (fun x=>([(9,.v (.int .i64 x.1)),(10,.v (.int .i64 x.2))],[(0,.box (Row.row G))])) 1 ?_;rintro bs ⟨b4,bv⟩ h _ Q7;rw[q7l]at h;refine sg fun _ Q8=>?_;refine sM ?_;refine sB h (fun _ h=>?_) fun _ h=>?_
  .
   refine y7 (q8 Q8 (z8 fun _ aq=>?_));refine sM ?_;refine sg fun _ b5=>?_;refine q07 ?_;refine k1d ?_;obtain⟨ar,F,h⟩:=bI F h;obtain⟨b6,b1,h⟩:=w9 h;simp only[go_sem,Z,F];refine ai ?_;refine qk7 (a6 ar G b6 b1) (by rfl) (by simp[go_sem,q0j,q0q,W]) ?_;simp only[go_sem];refine q8 b5 (sB h (fun _ h=>?_) fun _ h=>?_)
   . simp only[go_sem];refine q08 aq (p8 Q7 ?_);exact nxC _ h [some 0] leA
   simp only[go_sem];refine q08 aq (p8 Q7 ?_);exact nxC _ h [some 0] leA
  refine q0n (q1f Q8 (q0o Q7 (q0h Q6 (p8 Q5 (⟨b4,[some 0],?_,h⟩)))));exact leA
 rintro ao h
 try dsimp only at h
 rw[q4j]at h;refine sg fun _ Q4=>?_;refine q07 ?_;refine k1d ?_;simp only[go_sem];rcases an:(decide (ao<(ak.length:Int)))with _|_
 . replace h:=q1l h an;simp only[go_sem,an];refine q8 Q4 (q03 ?_);simp only[go_sem];obtain rfl:=Xe h;refine q8q rfl ?_;exact leA
 replace h:=q1k h an;obtain⟨b2,F,h⟩:=bI F h;obtain⟨bi,b3,h⟩:=w9 h;simp only[go_sem,an,Z,F];refine ai ?_;refine ai ?_;refine br (fun _=>(a6 b2 G bi b3)) (by rfl) (by simp[go_sem,q0j,q0q,W]) ?_;simp only[go_sem];refine q8 Q4 (q03 ?_);simp only[go_sem];obtain rfl:=Xe h;refine q8q rfl ?_;exact leA
def qj8(G:a8)(I:aP):Option Int:=
 q9 (qq8 G.Rec I) (fun T=>
 some T)
instance zt5(G:a8)(I:aP):Ct pp 127 (qj8 G I) [.agg (Row.row G),.agg (Row.row I)] fun r=>(.v (.int .i64 r)):=ctI Tryz.func127 rfl (by rw[qj8];exact au1)
def q72(G:List a8):Option (List a8):=
 u7 ((Xi ([]:List a8)+G.length)*24<=140737488355328) (
 some (([]:List a8)++G))
theorem qx6(G:List a8)(r:List a8)(h:q72 G=some r):ba pp 103 [.sl 3 (enc G)] [] 0 (.osl 0 3 (0) (r.length)) [(0,.arr 3 (enc r))] 1:=by
 refine dtI Tryz.func103 rfl ?_;rw[q72]at h;have F:=trivial;refine sM ?_;refine sg fun _ Q2=>?_;refine sg fun _ Q3=>?_;simp only[go_sem];intro Z T;rcases Z with _|_
 .
  refine q8 Q3 (k3c ?_);refine y7 (q8 Q2 (sg fun _ Q4=>?_));obtain⟨W,h⟩:=q06 h;have F:=Xc F W;simp only[Xf,Xg,Xd,Xv]at W;have a6:enc ([]:List a8)++enc G=enc (([]:List a8)++G):=by exact (q2x ([]:List a8) G).symm
  simp only[go_sem,W,a6];exact au
 have I:G=[]:=by cases hq:(G)with|nil=>rfl|cons y ys=>exact absurd (T (by rw[hq];simp[enc])) (by simp)
 simp only[I]at h;exact au
def q5a(G:List a8)(I:Int)(T:List a8):Option (List a8):=zs6 24 G I T
theorem qx9:cg pp (j97 129 145 146 0 3 4 75 76) 3 24 (.agg #[.int .i64 0,.int .i64 0,.int .i64 0]:Value):={mixed:=by kernel_rfl,t0:=Tryz.underlying0,a0:=Tryz.isAgg0,z0:=Tryz.sizeOf0,v0:=Tryz.zeroValue0,t3:=Tryz.underlying3,a3:=Tryz.isAgg3,z3:=Tryz.sizeOf3,v3:=Tryz.zeroValue3,t4:=Tryz.underlying4,a4:=Tryz.isAgg4,z4:=Tryz.sizeOf4,v4:=Tryz.zeroValue4,t24:=Tryz.underlying76,a24:=Tryz.isAgg76,z24:=Tryz.sizeOf76,v24:=Tryz.zeroValue76,z9:=Tryz.sizeOf75,i9:=j4y (by kernel_rfl),f22:=⟨"slices.Insert[[]backwash/api.Item,backwash/api.Item]",by decide,by kernel_rfl⟩,ov:=⟨_,Tryz.func145,by kernel_rfl,by kernel_rfl,by kernel_rfl,by kernel_rfl⟩}
theorem qy0(G:List a8)(T:Int)(I:List a8)(r:List a8)(h:q5a G T I=some r):ba pp 129 [.osl 0 3 0 (G.length),.v (.int .i64 T),.osl 1 3 0 (I.length)] [(0,.arr 3 (enc G)),(1,.arr 3 (enc I))] 2 (.osl 2 3 0 (r.length)) [(2,.arr 3 (enc r))] 3:=
 j6v qx9 (by kernel_rfl) (by kernel_rfl) (by decide) (by rfl) (by decide) rfl (fun _=>rfl) h
def qc9(G:List a8)(I:Int)(T:Int):Option (List a8):=zt9 G I T
theorem z1e:cn pp (j97 130 0 0 0 3 4 75 76) 3 (.agg #[.int .i64 0,.int .i64 0,.int .i64 0]:Value):={mixed:=by kernel_rfl,t0:=Tryz.underlying0,a0:=Tryz.isAgg0,z0:=Tryz.sizeOf0,v0:=Tryz.zeroValue0,t3:=Tryz.underlying3,a3:=Tryz.isAgg3,z3:=Tryz.sizeOf3,v3:=Tryz.zeroValue3,t4:=Tryz.underlying4,a4:=Tryz.isAgg4,z4:=Tryz.sizeOf4,v4:=Tryz.zeroValue4,t24:=Tryz.underlying76,a24:=Tryz.isAgg76,z24:=Tryz.sizeOf76,v24:=Tryz.zeroValue76,z9:=Tryz.sizeOf75,v9:=Tryz.zeroValue75,i9:=jg2 (b:=24) (by kernel_rfl),f24:=⟨"slices.Delete[[]backwash/api.Item,backwash/api.Item]",by decide,by kernel_rfl⟩}
theorem z1f(G:List a8)(I:Int)(T:Int)(r:List a8)(h:qc9 G I T=some r):ba pp 130 [.osl 0 3 0 (G.length),.v (.int .i64 I),.v (.int .i64 T)] [(0,.arr 3 (enc G))] 1 (.osl 1 3 0 (r.length)) [(1,.arr 3 (enc r))] 2:=
 j79 z1e (by kernel_rfl) (by decide) (by rfl) (by rfl) (fun _=>rfl) h
def q9d(I:List a8)(Z:aP)(G:Int):Option (List a8):=
 q9 (q3s I Z (fun a6 aj=>qj8 a6 aj)) (fun W=>
 (if (G==0)=true then some I
 else q9 (qu2 G) (fun ak=>
 (if (!ak)=true then some I
 else (if (!W.2)=true then q9 (q5a I W.1 ([(⟨Z,G⟩:a8)]:List a8)) (fun an=>
 some an)
 else q9 (idx I W.1) (fun T=>
 (if ((i64.wrap (T.N+G))==0)=true then q9 (qc9 I W.1 (i64.wrap (W.1+1))) (fun ao=>
 some ao)
 else q9 (qu2 (i64.wrap (T.N+G))) (fun aq=>
 (if aq=true then some (Xh I (W.1.toNat) (⟨T.Rec,i64.wrap (T.N+G)⟩:a8))
 else some I)))))))))
theorem z2y(T:List a8)(G:aP)(I:Int)(r:List a8)(h:q9d T G I=some r):ba pp 105 [.osl 0 3 (0) (T.length),.agg (Row.row G),.v (.int .i64 I)] [(0,.arr 3 (enc T))] 1 (.osl 1 3 (0) (r.length)) [(1,.arr 3 (enc r))] 2:=by
 refine dtI Tryz.func105 rfl ?_;rw[q9d]at h;have F:=trivial;refine sM ?_;refine sg fun _ Q2=>?_;obtain⟨Z,ak,h⟩:=w9 h;simp only[go_sem];refine z1c (z05 T G (fun ar b1=>qj8 ar b1) 127 [] (by rfl) (by kernel_rfl) (fun y0 y1 r_ e_=>zt5 y0 y1 r_ e_) Z ak) ?_;simp only[go_sem];refine q8 Q2 (jg fun _ Q3=>?_);refine z8 fun _ Q4=>?_;refine sg fun _ Q5=>?_;simp only[go_sem];rcases W:(I==0)with _|_
 .
  replace h:=q1l h W;simp only[go_sem,W];refine q4n h fun b5 h=>?_;simp only[go_sem];refine q8 Q5 (sB h (fun _ h=>?_) fun _ h=>?_)
  . exact au
  refine sM ?_;refine sB h (fun _ h=>?_) fun _ h=>?_
  .
   refine sg fun _ Q8=>?_;have an:[[.v (.int .i64 G.K),.v (.int .i64 G.V),.v (.int .i64 I)]]=enc ([(⟨G,I⟩:a8)]:List a8):=by rfl
   obtain⟨b2,ao,h⟩:=w9 h;simp only[go_sem];simp only[an];refine q18 [0,2] (qy0 T Z.1 ([(⟨G,I⟩:a8)]:List a8) b2 ao) ?_;simp only[go_sem];exact au
  refine sg fun _ Q9=>?_;obtain⟨a6,F,h⟩:=bI F h;simp only[go_sem,F];refine ai ?_;refine q8 Q9 (sB h (fun _ h=>?_) fun _ h=>?_)
  . refine sg fun _ b6=>?_;obtain⟨b3,aq,h⟩:=w9 h;simp only[go_sem];refine q18 [0] (z1f T Z.1 (i64.wrap (Z.1+1)) b3 aq) ?_;simp only[go_sem];exact au
  refine sg fun _ b4=>?_;simp only[go_sem,F];refine ai ?_;refine q4n h fun bi h=>?_;simp only[go_sem];refine q8 b4 (sB h (fun _ h=>?_) fun _ h=>?_)
  . have aj:=q4y T (Z.1.toNat) (⟨a6.Rec,i64.wrap (a6.N+I)⟩:a8);simp only[j8b]at aj;simp only[go_sem,aj,F];refine ai ?_;refine ai ?_;exact au
  exact au
 replace h:=q1k h W;simp only[go_sem,W];exact au
def qw7(G:List a8)(I:List a8):Option (List a8):=
 q9 (q9s G) (fun T=>
 (if (!T)=true then some ([]:List a8)
 else some I))
def qw8(Z:List a8)(I:Int×(List a8)->Option (List a8)):Int×(List a8)->Option (List a8):=
 fun (G,W)=>
 (if (decide (G<(Z.length:Int)))=true then q9 (idx Z G) (fun T=>
 (if (decide (0<T.N))=true then u7 ((W.length+Xi ([T]:List a8))*24<=140737488355328) (
 I (i64.wrap (G+1),(W++([T]:List a8))))
 else I (i64.wrap (G+1),W)))
 else qw7 Z W)
def qq9(G:List a8):Option (List a8):=
 d9 (qw8 G) rounds (0,[])
theorem z6p(T:List a8)(r:List a8)(h:qq9 T=some r):ba pp 114 [.sl 3 (enc T)] [] 0 (.osl 0 3 (0) (r.length)) [(0,.arr 3 (enc r))] 1:=by
 refine dtI Tryz.func114 rfl ?_;rw[qq9]at h;have F:=trivial;refine sM ?_;refine sM ?_;refine q30 (fun (I:(List a8))=>qw7 T I=some r) [0] (fun I=>([(3,.osl 0 3 (0) (I.length))],[(0,.arr 3 (enc I))])) 1 ?_ ?_
 .
  intro _ Q7;refine sM ?_;refine z8 fun _ Q9=>?_;refine q0e h [0,6,7] (fun x=>([(3,.osl 0 3 (0) (x.2.length)),(8,.v (.int .i64 x.1))],[(0,.arr 3 (enc x.2))])) 1 ?_;rintro aq ⟨ao,W⟩ h _ ar;rw[qw8]at h;refine sM ?_;refine sg fun _ ak=>?_;refine sB h (fun _ h=>?_) fun _ h=>?_
  .
   refine y7 (q8 ak (jg fun _ b1=>?_));refine z8 fun _ b2=>?_;refine sg fun _ an=>?_;obtain⟨G,F,h⟩:=bI F h;simp only[go_sem,F];refine ai ?_;refine q8 an (sM ?_);refine sB h (fun _ h=>?_) fun _ h=>?_
   .
    have a6:[[.v (.int .i64 G.Rec.K),.v (.int .i64 G.Rec.V),.v (.int .i64 G.N)]]=enc ([G]:List a8):=by rfl
    obtain⟨Z,h⟩:=q06 h;have F:=Xc F Z;simp only[Xf,Xg,Xd,Xv]at Z;have aj:enc W++[[.v (.int .i64 G.Rec.K),.v (.int .i64 G.Rec.V),.v (.int .i64 G.N)]]=enc (W++([G]:List a8)):=by exact (q2x W ([G]:List a8)).symm
    simp only[go_sem,Z,aj];simp only[a6];exact au
   exact au
  exact au
 rintro I h
 try dsimp only at h
 rw[qw7]at h;exact au
def z2z(G:List a8)(I:aP)(T:Int):Option (List a8):=
 q9 (q72 G) (fun W=>
 q9 (q9s G) (fun Z=>
 (if (!Z)=true then some W
 else q9 (q9d W I T) (fun a6=>
 some a6))))
theorem zz7(T:List a8)(G:aP)(I:Int)(r:List a8)(h:z2z T G I=some r):ba pp 140 [.sl 3 (enc T),.agg (Row.row G),.v (.int .i64 I)] [] 0 (.osl 0 3 (0) (r.length)) [(0,.arr 3 (enc r))] 1:=by
 refine dtI Tryz.func140 rfl ?_;rw[z2z]at h;have F:=trivial;refine sM ?_;refine sg fun _ Q2=>?_;obtain⟨W,Z,h⟩:=w9 h;simp only[go_sem];refine q18 [] (qx6 T W Z) ?_;simp only[go_sem];refine q8 Q2 (sg fun _ Q3=>?_);refine sg fun _ Q4=>?_;simp only[go_sem];refine q4n h fun ak h=>?_;simp only[go_sem];refine q8 Q4 (sB h (fun _ h=>?_) fun _ h=>?_)
 . exact au
 refine y7 (q8 Q3 (sg fun _ Q6=>?_));obtain⟨aj,a6,h⟩:=w9 h;simp only[go_sem];refine q18 [1] (z2y W G I aj a6) ?_;simp only[go_sem];exact au
def qr4(Z:List a8)(I:Int)(W:Int×(List a8)->Option (List a8)):Int×(List a8)->Option (List a8):=
 fun (G,a6)=>
 (if (decide (G<(Z.length:Int)))=true then q9 (idx Z G) (fun T=>
 q9 (q9d a6 T.Rec (i64.wrap (I*T.N))) (fun aj=>
 W (i64.wrap (G+1),aj)))
 else some a6)
def z18(T:List a8)(W:List a8)(G:Int):Option (List a8):=
 q9 (q72 T) (fun I=>
 q9 (q9s T) (fun Z=>
 (if Z=true then q9 (q9s W) (fun a6=>
 (if (!a6)=true then some I
 else d9 (qr4 W G) rounds (0,I)))
 else some I)))
theorem zj3(W:List a8)(Z:List a8)(G:Int)(r:List a8)(h:z18 W Z G=some r):ba pp 75 [.sl 3 (enc W),.sl 3 (enc Z),.v (.int .i64 G)] [] 0 (.osl 0 3 (0) (r.length)) [(0,.arr 3 (enc r))] 1:=by
 refine dtI Tryz.func75 rfl ?_;rw[z18]at h;have F:=trivial;refine sM ?_;refine sg fun _ Q2=>?_;obtain⟨ak,a6,h⟩:=w9 h;simp only[go_sem];refine q18 [] (qx6 W ak a6) ?_;simp only[go_sem];refine q8 Q2 (sg fun _ Q3=>?_);refine sg fun _ Q4=>?_;simp only[go_sem];refine q4n h fun an h=>?_;simp only[go_sem];rcases I:an with _|_
 . replace h:=q1l h I;simp only[go_sem,I];exact au
 replace h:=q1k h I;simp only[go_sem,I];refine q4n h fun b3 h=>?_;simp only[go_sem];refine q8 Q4 (sB h (fun _ h=>?_) fun _ h=>?_)
 . exact au
 refine y7 (q8 Q3 (jg fun _ Q7=>?_));refine sM ?_;refine z8 fun _ Q9=>?_;refine q0e h [2,21,22] (fun x=>([(7,.osl 0 3 (0) (x.2.length)),(23,.v (.int .i64 x.1))],[(0,.arr 3 (enc x.2))])) 1 ?_;rintro b4 ⟨ao,aq⟩ h _ b5;rw[qr4]at h;refine sM ?_;refine sg fun _ ar=>?_;refine sB h (fun _ h=>?_) fun _ h=>?_
 . refine y7 (q8 ar (sg fun _ b6=>?_));refine z8 fun _ bi=>?_;refine sg fun _ b1=>?_;obtain⟨T,F,h⟩:=bI F h;simp only[go_sem,F];refine ai ?_;refine q8 b1 ?_;obtain⟨b2,aj,h⟩:=w9 h;simp only[go_sem];refine q18 [0] (z2y aq T.Rec (i64.wrap (G*T.N)) b2 aj) ?_;simp only[go_sem];exact au
 exact au
def q5g(G:List a8)(I:List a8):Option (List a8):=
 q9 (z18 G I 1) (fun T=>
 some T)
theorem z1y(G:List a8)(I:List a8)(r:List a8)(h:q5g G I=some r):ba pp 50 [.sl 3 (enc G),.sl 3 (enc I)] [] 0 (.osl 0 3 (0) (r.length)) [(0,.arr 3 (enc r))] 1:=by
 refine dtI Tryz.func50 rfl ?_;rw[q5g]at h;have F:=trivial;refine sM ?_;refine sg fun _ Z=>?_;obtain⟨W,T,h⟩:=w9 h;simp only[go_sem];refine q18 [] (zj3 G I 1 W T) ?_;simp only[go_sem];exact au
instance z9r(G:List a8)(I:List a8):Ct pp 50 (q5g G I) [.sl 3 (enc G),.sl 3 (enc I)] fun r=>(.sl 3 (enc r)):=⟨fun r h=>(z1y G I r h).pure leA⟩
def q05(G:aA)(I:Int):Option aA:=
 (if ((G.stack.length:Int)==8)=true then some (⟨G.r,G.stack,G.out,G.at_,1⟩:aA)
 else u7 ((G.stack.length+Xi ([I]:List Int))*8<=140737488355328) (
 some (⟨G.r,(G.stack++([I]:List Int)),G.out,G.at_,G.bad⟩:aA)))
theorem q0v(G:aA)(I:Int)(r:aA)(h:q05 G I=some r):ba pp 161 [.ptr 0 0,.v (.int .i64 I)] [(0,.box [.v (.int .i64 G.r.K),.v (.int .i64 G.r.V),.osl 1 1 (0) (G.stack.length),.osl 2 2 (0) (G.out.length),.v (.int .i64 G.at_),.v (.int .i64 G.bad)]),(1,.arr 1 (enc G.stack)),(2,.arr 2 (enc G.out))] 3 (.tup []) [(0,.box [.v (.int .i64 r.r.K),.v (.int .i64 r.r.V),.osl 3 1 (0) (r.stack.length),.osl 4 2 (0) (r.out.length),.v (.int .i64 r.at_),.v (.int .i64 r.bad)]),(3,.arr 1 (enc r.stack)),(4,.arr 2 (enc r.out))] 5:=by
 refine dtI Tryz.func161 rfl ?_;rw[q05]at h;have F:=trivial;refine sg fun _ Q1=>?_;refine sM ?_;refine sB h (fun _ h=>?_) fun _ h=>?_
 . exact au
 refine y7 (q8 Q1 ?_);have W:[[.v (.int .i64 I)]]=enc ([I]:List Int):=by rfl
 obtain⟨T,h⟩:=q06 h;have F:=Xc F T;simp only[Xf,Xg,Xd,Xv]at T;have Z:enc G.stack++[[.v (.int .i64 I)]]=enc (G.stack++([I]:List Int)):=by exact (q2x G.stack ([I]:List Int)).symm
 simp only[go_sem,T,Z];simp only[W];obtain rfl:=Xe h;refine q2b [some 4,some 2] ?_;exact leA
def q1e(G:aA)(I:bg):Option (Bool×aA):=
 (if (I.Op==1)=true then q9 (q05 G I.N) (fun a6=>
 some (true,a6))
 else (if (I.Op==2)=true then q9 (q05 G G.r.K) (fun aj=>
 some (true,aj))
 else (if (I.Op==3)=true then q9 (q05 G G.r.V) (fun ak=>
 some (true,ak))
 else (if (I.Op==11)=true then (if (decide ((i64.wrap ((G.stack.length:Int)-1))<0))=true then some (true,(⟨G.r,G.stack,G.out,G.at_,1⟩:aA))
 else u7 (0<=i64.wrap ((G.stack.length:Int)-1)/\i64.wrap ((G.stack.length:Int)-1)<=(G.stack.length:Int)/\(G.stack.length:Int)<=(G.stack.length:Int)/\(G.stack.length:Int)<=(G.stack.length:Int)) (
 u7 (0<=0/\0<=i64.wrap ((G.stack.length:Int)-1)/\i64.wrap ((G.stack.length:Int)-1)<=(G.stack.length:Int)) (
 u7 (0<Xa (G.stack.length:Int)-Xa (i64.wrap ((G.stack.length:Int)-1))) (
 q9 (idx (Xb (Xa (G.stack.length:Int)-Xa (i64.wrap ((G.stack.length:Int)-1))) (Xq (Xa (i64.wrap ((G.stack.length:Int)-1))) G.stack)) 0) (fun T=>
 q9 (q05 (⟨G.r,(Xb (Xa (i64.wrap ((G.stack.length:Int)-1))) G.stack),G.out,G.at_,G.bad⟩:aA) T) (fun an=>
 q9 (q05 an T) (fun ao=>
 some (true,ao))))))))
 else (if (I.Op==12)=true then (if (decide ((i64.wrap ((G.stack.length:Int)-2))<0))=true then some (true,(⟨G.r,G.stack,G.out,G.at_,1⟩:aA))
 else u7 (0<=i64.wrap ((G.stack.length:Int)-2)/\i64.wrap ((G.stack.length:Int)-2)<=(G.stack.length:Int)/\(G.stack.length:Int)<=(G.stack.length:Int)/\(G.stack.length:Int)<=(G.stack.length:Int)) (
 u7 (0<=0/\0<=i64.wrap ((G.stack.length:Int)-2)/\i64.wrap ((G.stack.length:Int)-2)<=(G.stack.length:Int)) (
 u7 (0<Xa (G.stack.length:Int)-Xa (i64.wrap ((G.stack.length:Int)-2))) (
 q9 (idx (Xb (Xa (G.stack.length:Int)-Xa (i64.wrap ((G.stack.length:Int)-2))) (Xq (Xa (i64.wrap ((G.stack.length:Int)-2))) G.stack)) 0) (fun W=>
 q9 (idx (Xb (Xa (G.stack.length:Int)-Xa (i64.wrap ((G.stack.length:Int)-2))) (Xq (Xa (i64.wrap ((G.stack.length:Int)-2))) G.stack)) 1) (fun Z=>
 q9 (q05 (⟨G.r,(Xb (Xa (i64.wrap ((G.stack.length:Int)-2))) G.stack),G.out,G.at_,G.bad⟩:aA) Z) (fun aq=>
 q9 (q05 aq W) (fun ar=>
 some (true,ar)))))))))
 else (if (I.Op==13)=true then (if (decide ((i64.wrap ((G.stack.length:Int)-1))<0))=true then some (true,(⟨G.r,G.stack,G.out,G.at_,1⟩:aA))
 else u7 (0<=i64.wrap ((G.stack.length:Int)-1)/\i64.wrap ((G.stack.length:Int)-1)<=(G.stack.length:Int)/\(G.stack.length:Int)<=(G.stack.length:Int)/\(G.stack.length:Int)<=(G.stack.length:Int)) (
 u7 (0<=0/\0<=i64.wrap ((G.stack.length:Int)-1)/\i64.wrap ((G.stack.length:Int)-1)<=(G.stack.length:Int)) (
 some (true,(⟨G.r,(Xb (Xa (i64.wrap ((G.stack.length:Int)-1))) G.stack),G.out,G.at_,G.bad⟩:aA)))))
 else some (false,G)))))))
theorem qr5(G:aA)(I:bg)(r:Bool×aA)(h:q1e G I=some r):ba pp 158 [.ptr 0 0,.agg (Row.row I)] [(0,.box [.v (.int .i64 G.r.K),.v (.int .i64 G.r.V),.osl 1 1 (0) (G.stack.length),.osl 2 2 (0) (G.out.length),.v (.int .i64 G.at_),.v (.int .i64 G.bad)]),(1,.arr 1 (enc G.stack)),(2,.arr 2 (enc G.out))] 3 (.v (.bool r.1)) [(0,.box [.v (.int .i64 r.2.r.K),.v (.int .i64 r.2.r.V),.osl 3 1 (0) (r.2.stack.length),.osl 4 2 (0) (r.2.out.length),.v (.int .i64 r.2.at_),.v (.int .i64 r.2.bad)]),(3,.arr 1 (enc r.2.stack)),(4,.arr 2 (enc r.2.out))] 5:=by
 refine dtI Tryz.func158 rfl ?_;rw[q1e]at h;have F:=trivial;refine sM ?_;refine jg fun _ Q2=>?_;refine sM ?_;refine z8 fun _ Q4=>?_;refine sM ?_;refine sB h (fun _ h=>?_) fun _ h=>?_
 . obtain⟨c2,ak,h⟩:=w9 h;simp only[go_sem];refine q18 [0,1,2] (q0v G I.N c2 ak) ?_;simp only[go_sem];exact au
 refine sM ?_;refine sB h (fun _ h=>?_) fun _ h=>?_
 . obtain⟨c3,an,h⟩:=w9 h;simp only[go_sem];refine q18 [0,1,2] (q0v G G.r.K c3 an) ?_;simp only[go_sem];exact au
 refine sM ?_;refine sB h (fun _ h=>?_) fun _ h=>?_
 . obtain⟨c4,ao,h⟩:=w9 h;simp only[go_sem];refine q18 [0,1,2] (q0v G G.r.V c4 ao) ?_;simp only[go_sem];exact au
 refine sM ?_;refine sB h (fun _ h=>?_) fun _ h=>?_
 .
  refine sg fun _ c5=>?_;simp only[go_sem];refine q51 Tryz.func159 rfl (by kernel_rfl) (by kernel_rfl) ?_;refine sM ?_;refine sM ?_;refine sg fun _ aq=>?_;refine sM ?_;refine sB h (fun _ h=>?_) fun _ h=>?_
  .
   refine sM ?_;refine sM ?_;refine q03 (q0y aq ?_);simp only[go_sem];refine q0s [] [(0,.box [.v (.int .i64 G.r.K),.v (.int .i64 G.r.V),.osl 1 1 (0) (G.stack.length),.osl 2 2 (0) (G.out.length),.v (.int .i64 G.at_),.v (.int .i64 1)]),(1,.arr 1 (enc G.stack)),(2,.arr 2 (enc G.out)),(3,.box (Row.row I))] 4 (.v (.slice none 0 0)) ?_ ?_
   . exact leA
   refine q13 ?_;simp only[go_sem];exact au
  refine y7 (q8 aq (sg fun _ c6=>?_));refine q07 ?_;refine k1d ?_;obtain⟨F,h⟩:=bG F h;simp only[go_sem,F];refine q8 c6 (sg fun _ c7=>?_);obtain⟨F,h⟩:=bG F h;simp only[go_sem,F];refine q8 c7 (sM ?_);refine q03 ?_;simp only[go_sem];refine q0s [] [(0,.box [.v (.int .i64 G.r.K),.v (.int .i64 G.r.V),.osl 1 1 (0) (Xa (i64.wrap ((G.stack.length:Int)-1))),.osl 2 2 (0) (G.out.length),.v (.int .i64 G.at_),.v (.int .i64 G.bad)]),(1,.arr 1 (enc G.stack)),(2,.arr 2 (enc G.out)),(3,.box (Row.row I))] 4 (.osl 1 1 (Xa (i64.wrap ((G.stack.length:Int)-1))) (Xa (G.stack.length:Int)-Xa (i64.wrap ((G.stack.length:Int)-1)))) ?_ ?_
  . exact leA
  refine q13 ?_;simp only[go_sem];refine q8 c5 (sg fun _ c8=>?_);obtain⟨F,h⟩:=bG F h;simp only[go_sem,F];refine ai ?_;refine q8 c8 (k3b ?_);refine sg fun _ c9=>?_;obtain⟨a6,cb,h⟩:=w9 h;obtain⟨cc,cd,ar,T⟩:=qs8 cb;simp only[Xy,Xz,Xd,X3]at ar T;simp only[go_sem,cc,cd,ar,T];refine ai ?_;refine q8 c9 (sg fun _ cl=>?_);obtain⟨b1,b2,h⟩:=w9 h;simp only[go_sem];refine qm5 [0,6] ([],[(0,.box [.v (.int .i64 G.r.K),.v (.int .i64 G.r.V),.osl 1 1 (0) (Xi (Xb (Xa (i64.wrap ((G.stack.length:Int)-1))) G.stack)),.osl 2 2 (0) (G.out.length),.v (.int .i64 G.at_),.v (.int .i64 G.bad)]),(1,.arr 1 (enc (Xb (Xa (i64.wrap ((G.stack.length:Int)-1))) G.stack))),(2,.arr 2 (enc G.out)),(3,.box (Row.row I))]) 4 [some 3] [.ptr 0 0,.v (.int .i64 a6)] ?_;refine q18 [0,1,2] (q0v (⟨G.r,(Xb (Xa (i64.wrap ((G.stack.length:Int)-1))) G.stack),G.out,G.at_,G.bad⟩:aA) a6 b1 b2) ?_;simp only[go_sem];refine q8 cl ?_;obtain⟨cp,b3,h⟩:=w9 h;simp only[go_sem];refine q18 [0,4,5] (q0v b1 a6 cp b3) ?_;simp only[go_sem];exact au
 refine sM ?_;refine sB h (fun _ h=>?_) fun _ h=>?_
 .
  refine sg fun _ d0=>?_;simp only[go_sem];refine q51 Tryz.func159 rfl (by kernel_rfl) (by kernel_rfl) ?_;refine sM ?_;refine sM ?_;refine sg fun _ b4=>?_;refine sM ?_;refine sB h (fun _ h=>?_) fun _ h=>?_
  .
   refine sM ?_;refine sM ?_;refine q03 (q0y b4 ?_);simp only[go_sem];refine q0s [] [(0,.box [.v (.int .i64 G.r.K),.v (.int .i64 G.r.V),.osl 1 1 (0) (G.stack.length),.osl 2 2 (0) (G.out.length),.v (.int .i64 G.at_),.v (.int .i64 1)]),(1,.arr 1 (enc G.stack)),(2,.arr 2 (enc G.out)),(3,.box (Row.row I))] 4 (.v (.slice none 0 0)) ?_ ?_
   . exact leA
   refine q13 ?_;simp only[go_sem];exact au
  refine y7 (q8 b4 (sg fun _ d1=>?_));refine q07 ?_;refine k1d ?_;obtain⟨F,h⟩:=bG F h;simp only[go_sem,F];refine q8 d1 (sg fun _ d2=>?_);obtain⟨F,h⟩:=bG F h;simp only[go_sem,F];refine q8 d2 (sM ?_);refine q03 ?_;simp only[go_sem];refine q0s [] [(0,.box [.v (.int .i64 G.r.K),.v (.int .i64 G.r.V),.osl 1 1 (0) (Xa (i64.wrap ((G.stack.length:Int)-2))),.osl 2 2 (0) (G.out.length),.v (.int .i64 G.at_),.v (.int .i64 G.bad)]),(1,.arr 1 (enc G.stack)),(2,.arr 2 (enc G.out)),(3,.box (Row.row I))] 4 (.osl 1 1 (Xa (i64.wrap ((G.stack.length:Int)-2))) (Xa (G.stack.length:Int)-Xa (i64.wrap ((G.stack.length:Int)-2)))) ?_ ?_
  . exact leA
  refine q13 ?_;simp only[go_sem];refine q8 d0 (sg fun _ d3=>?_);obtain⟨F,h⟩:=bG F h;simp only[go_sem,F];refine ai ?_;refine q8 d3 (k3b ?_);refine sg fun _ d4=>?_;refine q07 ?_;refine k1d ?_;obtain⟨b5,d5,h⟩:=w9 h;obtain⟨d6,d7,b6,W⟩:=qs8 d5;simp only[Xy,Xz,Xd,X3]at b6 W;obtain⟨aj,d8,h⟩:=w9 h;obtain⟨dc,dd,bi,Z⟩:=qs8 d8;simp only[Xy,Xz,Xd,X3]at bi Z;simp only[go_sem,d6,d7,b6,W,dc,dd,bi,Z];refine ai ?_;refine ai ?_;refine q8 d4 (sg fun _ dk=>?_);obtain⟨bs,bv,h⟩:=w9 h;simp only[go_sem];refine qm5 [0,8] ([],[(0,.box [.v (.int .i64 G.r.K),.v (.int .i64 G.r.V),.osl 1 1 (0) (Xi (Xb (Xa (i64.wrap ((G.stack.length:Int)-2))) G.stack)),.osl 2 2 (0) (G.out.length),.v (.int .i64 G.at_),.v (.int .i64 G.bad)]),(1,.arr 1 (enc (Xb (Xa (i64.wrap ((G.stack.length:Int)-2))) G.stack))),(2,.arr 2 (enc G.out)),(3,.box (Row.row I))]) 4 [some 3] [.ptr 0 0,.v (.int .i64 aj)] ?_;refine q18 [0,1,2] (q0v (⟨G.r,(Xb (Xa (i64.wrap ((G.stack.length:Int)-2))) G.stack),G.out,G.at_,G.bad⟩:aA) aj bs bv) ?_;simp only[go_sem];refine q8 dk ?_;obtain⟨ds,c0,h⟩:=w9 h;simp only[go_sem];refine q18 [0,4,5] (q0v bs b5 ds c0) ?_;simp only[go_sem];exact au
 refine sM ?_;refine sB h (fun _ h=>?_) fun _ h=>?_
 .
  simp only[go_sem];refine q51 Tryz.func159 rfl (by kernel_rfl) (by kernel_rfl) ?_;refine sM ?_;refine sM ?_;refine sg fun _ c1=>?_;refine sM ?_;refine sB h (fun _ h=>?_) fun _ h=>?_
  .
   refine sM ?_;refine sM ?_;refine q03 (q0y c1 ?_);simp only[go_sem];refine q0s [] [(0,.box [.v (.int .i64 G.r.K),.v (.int .i64 G.r.V),.osl 1 1 (0) (G.stack.length),.osl 2 2 (0) (G.out.length),.v (.int .i64 G.at_),.v (.int .i64 1)]),(1,.arr 1 (enc G.stack)),(2,.arr 2 (enc G.out)),(3,.box (Row.row I))] 4 (.v (.slice none 0 0)) ?_ ?_
   . exact leA
   refine q13 ?_;simp only[go_sem];exact au
  refine y7 (q8 c1 (sg fun _ dI=>?_));refine q07 ?_;refine k1d ?_;obtain⟨F,h⟩:=bG F h;simp only[go_sem,F];refine q8 dI (sg fun _ dJ=>?_);obtain⟨F,h⟩:=bG F h;simp only[go_sem,F];refine q8 dJ (sM ?_);refine q03 ?_;simp only[go_sem];refine q0s [] [(0,.box [.v (.int .i64 G.r.K),.v (.int .i64 G.r.V),.osl 1 1 (0) (Xa (i64.wrap ((G.stack.length:Int)-1))),.osl 2 2 (0) (G.out.length),.v (.int .i64 G.at_),.v (.int .i64 G.bad)]),(1,.arr 1 (enc G.stack)),(2,.arr 2 (enc G.out)),(3,.box (Row.row I))] 4 (.osl 1 1 (Xa (i64.wrap ((G.stack.length:Int)-1))) (Xa (G.stack.length:Int)-Xa (i64.wrap ((G.stack.length:Int)-1)))) ?_ ?_
  . exact leA
  refine q13 ?_;simp only[go_sem];exact au
 exact au
def qd9(G:Int):Option Int:=
 (if (decide (G<0))=true then some (IntKind.u64.wrap (0-(IntKind.u64.wrap G)))
 else some (IntKind.u64.wrap G))
instance ja9(G:Int):Ct pp 164 (qd9 G) [.v (.int .i64 G)] fun r=>(.v (.int .u64 r)):=ctI Tryz.func164 rfl (by rw[qd9];exact au1)
def q2w(G:Int)(I:Int):Option (Int×Int):=
 some (IntKind.u64.wrap ((IntKind.u64.wrap ((IntKind.u64.wrap ((q2e .u64 G 32)*(q2e .u64 I 32)))+(q2e .u64 (IntKind.u64.wrap ((IntKind.u64.wrap ((q2e .u64 G 32)*(qu8 .u64 I 4294967295)))+(q2e .u64 (IntKind.u64.wrap ((qu8 .u64 G 4294967295)*(qu8 .u64 I 4294967295))) 32))) 32)))+(q2e .u64 (IntKind.u64.wrap ((qu8 .u64 (IntKind.u64.wrap ((IntKind.u64.wrap ((q2e .u64 G 32)*(qu8 .u64 I 4294967295)))+(q2e .u64 (IntKind.u64.wrap ((qu8 .u64 G 4294967295)*(qu8 .u64 I 4294967295))) 32))) 4294967295)+(IntKind.u64.wrap ((qu8 .u64 G 4294967295)*(q2e .u64 I 32))))) 32)),IntKind.u64.wrap (G*I))
instance j72(G:Int)(I:Int):Ct pp 151 (q2w G I) [.v (.int .u64 G),.v (.int .u64 I)] fun r=>(.tup [.v (.int .u64 r.1),.v (.int .u64 r.2)]):=ctI Tryz.func151 rfl (by rw[q2w];exact au1)
def qf1(I:Int)(T:Int):Option (Int×Bool):=
 q9 (qd9 I) (fun W=>
 q9 (qd9 T) (fun Z=>
 q9 (q2w W Z) (fun G=>
 (if (!((decide (I<0))==(decide (T<0))))=true then some (i64.wrap (0-(i64.wrap G.2)),((G.1==0)&&(decide (G.2<=9223372036854775808))))
 else some (i64.wrap G.2,((G.1==0)&&(decide (G.2<9223372036854775808))))))))
instance jl4(G:Int)(I:Int):Ct pp 162 (qf1 G I) [.v (.int .i64 G),.v (.int .i64 I)] fun r=>(.tup [.v (.int .i64 r.1),.v (.bool r.2)]):=ctI Tryz.func162 rfl (by rw[qf1];exact au1)
def qa0(G:Bool):Option Int:=
 (if G=true then some 1
 else some 0)
instance jl3(G:Bool):Ct pp 163 (qa0 G) [.v (.bool G)] fun r=>(.v (.int .i64 r)):=ctI Tryz.func163 rfl (by rw[qa0];exact au1)
def q2d(G:Int)(I:Bool):Option (Int×Int):=
 (if (!I)=true then some (0,2)
 else some (G,0))
def q8t(I:Int)(T:Int)(G:Int)(W:Bool):Option (Int×Int):=
 (if W=true then (if (G==0)=true then some (0,3)
 else (if ((G==(-1))&&(I==8))=true then q2d 0 true
 else (if (G==(-1))=true then q2d (i64.wrap (0-T)) (!(T==(-9223372036854775808)))
 else (if (I==7)=true then u7 (G≠0) (
 q2d (i64.wrap (Int.tdiv T G)) true)
 else u7 (G≠0) (
 q2d (Int.tmod T G) true)))))
 else (if (I==9)=true then q9 (qa0 (decide (T<G))) (fun Z=>
 q2d Z true)
 else (if (I==10)=true then q9 (qa0 (T==G)) (fun a6=>
 q2d a6 true)
 else q2d 0 true)))
def qn8(G:Int)(I:Int)(T:Int):Option (Int×Int):=
 (if (G==4)=true then q2d (i64.wrap (I+T)) ((!((decide (I<0))==(decide (T<0))))||((decide ((i64.wrap (I+T))<0))==(decide (I<0))))
 else (if (G==5)=true then q2d (i64.wrap (I-T)) (((decide (I<0))==(decide (T<0)))||((decide ((i64.wrap (I-T))<0))==(decide (I<0))))
 else (if (G==6)=true then q9 (qf1 I T) (fun W=>
 q2d W.1 W.2)
 else (if (G==7)=true then q8t G I T (G==7)
 else q8t G I T (G==8)))))
instance zz4(I:Int)(Z:Int)(a6:Int):Ct pp 160 (qn8 I Z a6) [.v (.int .i64 I),.v (.int .i64 Z),.v (.int .i64 a6)] fun r=>(.tup [.v (.int .i64 r.1),.v (.int .i64 r.2)]):=ctK Tryz.func160 rfl (by rw[qn8]) (by
 intro r h F;refine sM ?_;refine sM ?_;refine q30 (fun ((T,W):Int×Bool)=>q2d T W=some r) [] (fun x=>([(8,.v (.int .i64 x.1)),(9,.v (.bool x.2))],[])) 0 ?_ ?_
 .
  intro _ Q7;refine sM ?_;refine z8 fun _ Q9=>?_;refine sM ?_;refine sB h (fun _ h=>?_) fun _ h=>?_
  . exact au
  refine sM ?_;refine sB h (fun _ h=>?_) fun _ h=>?_
  . exact au
  refine sM ?_;refine sB h (fun _ h=>?_) fun _ h=>?_
  . exact au
  refine q30 (fun (G:Bool)=>q8t I Z a6 G=some r) [0,1,2,8,9,10] (fun G=>([(53,.v (.bool G))],[])) 0 ?_ ?_
  . intro _ aj;exact au
  rintro G h
  try dsimp only at h
  rw[q8t]at h;exact au
 rintro⟨T,W⟩ h
 try dsimp only at h
 rw[q2d]at h;exact au)
def q1h(T:aA)(I:bg):Option aA:=
 q9 (q1e (⟨T.r,T.stack,T.out,i64.wrap (T.at_+1),T.bad⟩:aA) I) (fun G=>
 (if G.1=true then some G.2
 else (if (I.Op==14)=true then some (⟨G.2.r,G.2.stack,G.2.out,I.N,G.2.bad⟩:aA)
 else (if (I.Op==15)=true then (if (decide ((i64.wrap ((G.2.stack.length:Int)-1))<0))=true then some (⟨G.2.r,G.2.stack,G.2.out,G.2.at_,1⟩:aA)
 else u7 (0<=i64.wrap ((G.2.stack.length:Int)-1)/\i64.wrap ((G.2.stack.length:Int)-1)<=(G.2.stack.length:Int)/\(G.2.stack.length:Int)<=(G.2.stack.length:Int)/\(G.2.stack.length:Int)<=(G.2.stack.length:Int)) (
 u7 (0<=0/\0<=i64.wrap ((G.2.stack.length:Int)-1)/\i64.wrap ((G.2.stack.length:Int)-1)<=(G.2.stack.length:Int)) (
 u7 (0<Xa (G.2.stack.length:Int)-Xa (i64.wrap ((G.2.stack.length:Int)-1))) (
 q9 (idx (Xb (Xa (G.2.stack.length:Int)-Xa (i64.wrap ((G.2.stack.length:Int)-1))) (Xq (Xa (i64.wrap ((G.2.stack.length:Int)-1))) G.2.stack)) 0) (fun a6=>
 (if (a6==0)=true then some (⟨G.2.r,(Xb (Xa (i64.wrap ((G.2.stack.length:Int)-1))) G.2.stack),G.2.out,I.N,G.2.bad⟩:aA)
 else some (⟨G.2.r,(Xb (Xa (i64.wrap ((G.2.stack.length:Int)-1))) G.2.stack),G.2.out,G.2.at_,G.2.bad⟩:aA)))))))
 else (if (I.Op==16)=true then (if (decide ((i64.wrap ((G.2.stack.length:Int)-2))<0))=true then some (⟨G.2.r,G.2.stack,G.2.out,G.2.at_,1⟩:aA)
 else u7 (0<=i64.wrap ((G.2.stack.length:Int)-2)/\i64.wrap ((G.2.stack.length:Int)-2)<=(G.2.stack.length:Int)/\(G.2.stack.length:Int)<=(G.2.stack.length:Int)/\(G.2.stack.length:Int)<=(G.2.stack.length:Int)) (
 u7 (0<=0/\0<=i64.wrap ((G.2.stack.length:Int)-2)/\i64.wrap ((G.2.stack.length:Int)-2)<=(G.2.stack.length:Int)) (
 u7 (0<Xa (G.2.stack.length:Int)-Xa (i64.wrap ((G.2.stack.length:Int)-2))) (
 (if ((G.2.out.length:Int)==8)=true then some (⟨G.2.r,(Xb (Xa (i64.wrap ((G.2.stack.length:Int)-2))) G.2.stack),G.2.out,G.2.at_,5⟩:aA)
 else q9 (idx (Xb (Xa (G.2.stack.length:Int)-Xa (i64.wrap ((G.2.stack.length:Int)-2))) (Xq (Xa (i64.wrap ((G.2.stack.length:Int)-2))) G.2.stack)) 0) (fun W=>
 q9 (idx (Xb (Xa (G.2.stack.length:Int)-Xa (i64.wrap ((G.2.stack.length:Int)-2))) (Xq (Xa (i64.wrap ((G.2.stack.length:Int)-2))) G.2.stack)) 1) (fun Z=>
 u7 ((G.2.out.length+Xi ([(⟨W,Z⟩:aP)]:List aP))*16<=140737488355328) (
 some (⟨G.2.r,(Xb (Xa (i64.wrap ((G.2.stack.length:Int)-2))) G.2.stack),(G.2.out++([(⟨W,Z⟩:aP)]:List aP)),G.2.at_,G.2.bad⟩:aA)))))))))
 else (if (decide ((i64.wrap ((G.2.stack.length:Int)-2))<0))=true then some (⟨G.2.r,G.2.stack,G.2.out,G.2.at_,1⟩:aA)
 else u7 (0<=i64.wrap ((G.2.stack.length:Int)-2)/\i64.wrap ((G.2.stack.length:Int)-2)<=(G.2.stack.length:Int)/\(G.2.stack.length:Int)<=(G.2.stack.length:Int)/\(G.2.stack.length:Int)<=(G.2.stack.length:Int)) (
 u7 (0<=0/\0<=i64.wrap ((G.2.stack.length:Int)-2)/\i64.wrap ((G.2.stack.length:Int)-2)<=(G.2.stack.length:Int)) (
 u7 (0<Xa (G.2.stack.length:Int)-Xa (i64.wrap ((G.2.stack.length:Int)-2))) (
 q9 (idx (Xb (Xa (G.2.stack.length:Int)-Xa (i64.wrap ((G.2.stack.length:Int)-2))) (Xq (Xa (i64.wrap ((G.2.stack.length:Int)-2))) G.2.stack)) 0) (fun aj=>
 q9 (idx (Xb (Xa (G.2.stack.length:Int)-Xa (i64.wrap ((G.2.stack.length:Int)-2))) (Xq (Xa (i64.wrap ((G.2.stack.length:Int)-2))) G.2.stack)) 1) (fun ak=>
 q9 (qn8 I.Op aj ak) (fun an=>
 q9 (q05 (⟨G.2.r,(Xb (Xa (i64.wrap ((G.2.stack.length:Int)-2))) G.2.stack),G.2.out,G.2.at_,an.2⟩:aA) an.1) (fun ao=>
 some ao)))))))))))))
theorem qt7(I:aA)(T:bg)(r:aA)(h:q1h I T=some r):ba pp 154 [.ptr 0 0,.agg (Row.row T)] [(0,.box [.v (.int .i64 I.r.K),.v (.int .i64 I.r.V),.osl 1 1 (0) (I.stack.length),.osl 2 2 (0) (I.out.length),.v (.int .i64 I.at_),.v (.int .i64 I.bad)]),(1,.arr 1 (enc I.stack)),(2,.arr 2 (enc I.out))] 3 (.tup []) [(0,.box [.v (.int .i64 r.r.K),.v (.int .i64 r.r.V),.osl 3 1 (0) (r.stack.length),.osl 4 2 (0) (r.out.length),.v (.int .i64 r.at_),.v (.int .i64 r.bad)]),(3,.arr 1 (enc r.stack)),(4,.arr 2 (enc r.out))] 5:=by
 refine dtI Tryz.func154 rfl ?_;rw[q1h]at h;have F:=trivial;refine sM ?_;refine sM ?_;refine sg fun _ Q3=>?_;refine sg fun _ Q4=>?_;obtain⟨G,b1,h⟩:=w9 h;simp only[go_sem];refine q18 [0,1,2] (qr5 (⟨I.r,I.stack,I.out,i64.wrap (I.at_+1),I.bad⟩:aA) T G b1) ?_;simp only[go_sem];refine q8 Q4 (sB h (fun _ h=>?_) fun _ h=>?_)
 . exact au
 refine y7 (q8 Q3 (sM ?_));refine z8 fun _ Q6=>?_;refine sM ?_;refine sB h (fun _ h=>?_) fun _ h=>?_
 . exact au
 refine sM ?_;refine sB h (fun _ h=>?_) fun _ h=>?_
 .
  refine sg fun _ Q9=>?_;simp only[go_sem];refine q51 Tryz.func159 rfl (by kernel_rfl) (by kernel_rfl) ?_;refine sM ?_;refine sM ?_;refine sg fun _ b2=>?_;refine sM ?_;refine sB h (fun _ h=>?_) fun _ h=>?_
  .
   refine sM ?_;refine sM ?_;refine q03 (q0y b2 ?_);simp only[go_sem];refine q0s [] [(0,.box [.v (.int .i64 G.2.r.K),.v (.int .i64 G.2.r.V),.osl 4 1 (0) (G.2.stack.length),.osl 5 2 (0) (G.2.out.length),.v (.int .i64 G.2.at_),.v (.int .i64 1)]),(3,.box (Row.row T)),(4,.arr 1 (enc G.2.stack)),(5,.arr 2 (enc G.2.out))] 6 (.v (.slice none 0 0)) ?_ ?_
   . exact leA
   refine q13 ?_;simp only[go_sem];exact au
  refine y7 (q8 b2 (sg fun _ c6=>?_));refine q07 ?_;refine k1d ?_;obtain⟨F,h⟩:=bG F h;simp only[go_sem,F];refine q8 c6 (sg fun _ c7=>?_);obtain⟨F,h⟩:=bG F h;simp only[go_sem,F];refine q8 c7 (sM ?_);refine q03 ?_;simp only[go_sem];refine q0s [] [(0,.box [.v (.int .i64 G.2.r.K),.v (.int .i64 G.2.r.V),.osl 4 1 (0) (Xa (i64.wrap ((G.2.stack.length:Int)-1))),.osl 5 2 (0) (G.2.out.length),.v (.int .i64 G.2.at_),.v (.int .i64 G.2.bad)]),(3,.box (Row.row T)),(4,.arr 1 (enc G.2.stack)),(5,.arr 2 (enc G.2.out))] 6 (.osl 4 1 (Xa (i64.wrap ((G.2.stack.length:Int)-1))) (Xa (G.2.stack.length:Int)-Xa (i64.wrap ((G.2.stack.length:Int)-1)))) ?_ ?_
  . exact leA
  refine q13 ?_;simp only[go_sem];refine q8 Q9 (sg fun _ dO=>?_);obtain⟨F,h⟩:=bG F h;obtain⟨dN,c8,h⟩:=w9 h;obtain⟨c9,cb,b3,a6⟩:=qs8 c8;simp only[Xy,Xz,Xd,X3]at b3 a6;simp only[go_sem,c9,cb,b3,a6,F];refine ai ?_;refine ai ?_;exact au
 refine sM ?_;refine sB h (fun _ h=>?_) fun _ h=>?_
 .
  refine sg fun _ cc=>?_;simp only[go_sem];refine q51 Tryz.func159 rfl (by kernel_rfl) (by kernel_rfl) ?_;refine sM ?_;refine sM ?_;refine sg fun _ b4=>?_;refine sM ?_;refine sB h (fun _ h=>?_) fun _ h=>?_
  .
   refine sM ?_;refine sM ?_;refine q03 (q0y b4 ?_);simp only[go_sem];refine q0s [] [(0,.box [.v (.int .i64 G.2.r.K),.v (.int .i64 G.2.r.V),.osl 4 1 (0) (G.2.stack.length),.osl 5 2 (0) (G.2.out.length),.v (.int .i64 G.2.at_),.v (.int .i64 1)]),(3,.box (Row.row T)),(4,.arr 1 (enc G.2.stack)),(5,.arr 2 (enc G.2.out))] 6 (.v (.slice none 0 0)) ?_ ?_
   . exact leA
   refine q13 ?_;simp only[go_sem];exact au
  refine y7 (q8 b4 (sg fun _ cd=>?_));refine q07 ?_;refine k1d ?_;obtain⟨F,h⟩:=bG F h;simp only[go_sem,F];refine q8 cd (sg fun _ cl=>?_);obtain⟨F,h⟩:=bG F h;simp only[go_sem,F];refine q8 cl (sM ?_);refine q03 ?_;simp only[go_sem];refine q0s [] [(0,.box [.v (.int .i64 G.2.r.K),.v (.int .i64 G.2.r.V),.osl 4 1 (0) (Xa (i64.wrap ((G.2.stack.length:Int)-2))),.osl 5 2 (0) (G.2.out.length),.v (.int .i64 G.2.at_),.v (.int .i64 G.2.bad)]),(3,.box (Row.row T)),(4,.arr 1 (enc G.2.stack)),(5,.arr 2 (enc G.2.out))] 6 (.osl 4 1 (Xa (i64.wrap ((G.2.stack.length:Int)-2))) (Xa (G.2.stack.length:Int)-Xa (i64.wrap ((G.2.stack.length:Int)-2)))) ?_ ?_
  . exact leA
  refine q13 ?_;simp only[go_sem];refine q8 cc (z8 fun _ dP=>?_);refine sg fun _ cp=>?_;obtain⟨F,h⟩:=bG F h;simp only[go_sem,F];refine ai ?_;refine q8 cp (k3c ?_);refine sM ?_;refine sB h (fun _ h=>?_) fun _ h=>?_
  . exact au
  refine q07 ?_;refine q2g 14 0 0 [0,0,2,6,14,0,32,96,0,256,768,2016,4064,8190,16383,32767,65535] [5,6] [0] [] [13] [] mixed (by kernel_rfl) (of_decide_eq_true (by kernel_rfl)) (by kernel_rfl) (by kernel_rfl) (by rfl) ?_;obtain⟨W,d0,h⟩:=w9 h;obtain⟨d1,d2,b5,aj⟩:=qs8 d0;simp only[Xy,Xz,Xd,X3]at b5 aj;obtain⟨Z,d3,h⟩:=w9 h;obtain⟨d4,d5,b6,ak⟩:=qs8 d3;simp only[Xy,Xz,Xd,X3]at b6 ak;have bi:[[.v (.int .i64 W),.v (.int .i64 Z)]]=enc ([(⟨W,Z⟩:aP)]:List aP):=by rfl
  obtain⟨ar,h⟩:=q06 h;have F:=Xc F ar;simp only[Xf,Xg,Xd,Xv]at ar;have bs:enc G.2.out++[[.v (.int .i64 W),.v (.int .i64 Z)]]=enc (G.2.out++([(⟨W,Z⟩:aP)]:List aP)):=by exact (q2x G.2.out ([(⟨W,Z⟩:aP)]:List aP)).symm
  simp only[go_sem,d1,d2,b5,aj,d4,d5,b6,ak,ar,bs];refine ai ?_;refine ai ?_;simp only[bi];exact au
 refine sg fun _ d6=>?_;simp only[go_sem];refine q51 Tryz.func159 rfl (by kernel_rfl) (by kernel_rfl) ?_;refine sM ?_;refine sM ?_;refine sg fun _ bv=>?_;refine sM ?_;refine sB h (fun _ h=>?_) fun _ h=>?_
 .
  refine sM ?_;refine sM ?_;refine q03 (q0y bv ?_);simp only[go_sem];refine q0s [] [(0,.box [.v (.int .i64 G.2.r.K),.v (.int .i64 G.2.r.V),.osl 4 1 (0) (G.2.stack.length),.osl 5 2 (0) (G.2.out.length),.v (.int .i64 G.2.at_),.v (.int .i64 1)]),(3,.box (Row.row T)),(4,.arr 1 (enc G.2.stack)),(5,.arr 2 (enc G.2.out))] 6 (.v (.slice none 0 0)) ?_ ?_
  . exact leA
  refine q13 ?_;simp only[go_sem];exact au
 refine y7 (q8 bv (sg fun _ d7=>?_));refine q07 ?_;refine k1d ?_;obtain⟨F,h⟩:=bG F h;simp only[go_sem,F];refine q8 d7 (sg fun _ d8=>?_);obtain⟨F,h⟩:=bG F h;simp only[go_sem,F];refine q8 d8 (sM ?_);refine q03 ?_;simp only[go_sem];refine q0s [] [(0,.box [.v (.int .i64 G.2.r.K),.v (.int .i64 G.2.r.V),.osl 4 1 (0) (Xa (i64.wrap ((G.2.stack.length:Int)-2))),.osl 5 2 (0) (G.2.out.length),.v (.int .i64 G.2.at_),.v (.int .i64 G.2.bad)]),(3,.box (Row.row T)),(4,.arr 1 (enc G.2.stack)),(5,.arr 2 (enc G.2.out))] 6 (.osl 4 1 (Xa (i64.wrap ((G.2.stack.length:Int)-2))) (Xa (G.2.stack.length:Int)-Xa (i64.wrap ((G.2.stack.length:Int)-2)))) ?_ ?_
 . exact leA
 refine q13 ?_;simp only[go_sem];refine q8 d6 (sg fun _ dc=>?_);obtain⟨F,h⟩:=bG F h;simp only[go_sem,F];refine ai ?_;refine q8 dc (k3b ?_);refine sg fun _ dd=>?_;refine q07 ?_;refine k1d ?_;obtain⟨c0,dk,h⟩:=w9 h;obtain⟨ds,dI,c1,an⟩:=qs8 dk;simp only[Xy,Xz,Xd,X3]at c1 an;obtain⟨c2,dJ,h⟩:=w9 h;obtain⟨dK,dL,c3,ao⟩:=qs8 dJ;simp only[Xy,Xz,Xd,X3]at c3 ao;obtain⟨aq,c4,h⟩:=w9 h;simp only[go_sem,ds,dI,c1,an,dK,dL,c3,ao];refine ai ?_;refine ai ?_;refine br (fun _=>(zz4 T.Op c0 c2 aq c4)) (by rfl) (by rfl) ?_;simp only[go_sem];refine q8 dd (sM ?_);obtain⟨dM,c5,h⟩:=w9 h;simp only[go_sem];refine qm5 [] ([],[(0,.box [.v (.int .i64 G.2.r.K),.v (.int .i64 G.2.r.V),.osl 4 1 (0) (Xi (Xb (Xa (i64.wrap ((G.2.stack.length:Int)-2))) G.2.stack)),.osl 5 2 (0) (G.2.out.length),.v (.int .i64 G.2.at_),.v (.int .i64 aq.2)]),(3,.box (Row.row T)),(4,.arr 1 (enc (Xb (Xa (i64.wrap ((G.2.stack.length:Int)-2))) G.2.stack))),(5,.arr 2 (enc G.2.out))]) 6 [some 3,some 4,some 5] [.ptr 0 0,.v (.int .i64 aq.1)] ?_;refine q18 [0,4,5] (q0v (⟨G.2.r,(Xb (Xa (i64.wrap ((G.2.stack.length:Int)-2))) G.2.stack),G.2.out,G.2.at_,aq.2⟩:aA) aq.1 dM c5) ?_;simp only[go_sem];exact au
def q8u(I:aP)(Z:Int)(a6:Int)(W:Int)(G:Int)(aj:List Int)(T:List aP):Option ((List aP)×Int):=
 (if (!(G==0))=true then some (([(⟨I.K,i64.wrap ((-9223372036854775808)+G)⟩:aP)]:List aP),G)
 else some (T,0))
def qp8(aq:List bg)(aj:aP)(ak:Int×Int×Int×Int×Int×(List Int)×(List aP)->Option ((List aP)×Int)):Int×Int×Int×Int×Int×(List Int)×(List aP)->Option ((List aP)×Int):=
 fun (I,W,Z,G,a6,an,ao)=>
 (if ((decide (G<(aq.length:Int)))&&(a6==0))=true then (if (I==0)=true then q8u aj W Z G 4 an ao
 else q9 (idx aq G) (fun ar=>
 q9 (q1h (⟨(⟨W,Z⟩:aP),an,ao,G,a6⟩:aA) ar) (fun T=>
 ak (i64.wrap (I-1),T.r.K,T.r.V,T.at_,T.bad,T.stack,T.out))))
 else q8u aj W Z G a6 an ao)
def qn9(I:List bg)(G:aP):Option ((List aP)×Int):=
 q9 (qa1 I) (fun T=>
 (if (!T)=true then some (([]:List aP),0)
 else d9 (qp8 I G) rounds (256,G.K,G.V,0,0,[],[])))
instance jv5(W:List bg)(G:aP):Ct pp 147 (qn9 W G) [.sl 2 (enc W),.agg (Row.row G)] fun r=>(.tup [.sl 2 (enc r.1),.v (.int .i64 r.2)]):=ctK Tryz.func147 rfl (by rw[qn9]) (by
 intro r h F;refine sM ?_;refine sg fun _ Q2=>?_;refine sg fun _ Q3=>?_;simp only[go_sem];refine q4n h fun c0 h=>?_;simp only[go_sem];refine q8 Q3 (sB h (fun _ h=>?_) fun _ h=>?_)
 . exact au
 refine y7 (q8 Q2 (sM ?_));refine q30 (fun ((Z,a6,T,I,aj,ak):Int×Int×Int×Int×(List Int)×(List aP))=>q8u G Z a6 T I aj ak=some r) [3,6] (fun x=>([],[(0,.box (Row.row G)),(1,.box [.v (.int .i64 x.1),.v (.int .i64 x.2.1),.osl 2 1 (0) (x.2.2.2.2.1.length),.osl 3 2 (0) (x.2.2.2.2.2.length),.v (.int .i64 x.2.2.1),.v (.int .i64 x.2.2.2.1)]),(2,.arr 1 (enc x.2.2.2.2.1)),(3,.arr 2 (enc x.2.2.2.2.2))])) 4 ?_ ?_
 .
  intro _ c1;refine sM ?_;refine z8 fun _ c2=>?_;refine q0e h [0,3,6] (fun x=>([(7,.v (.int .i64 x.1))],[(0,.box (Row.row G)),(1,.box [.v (.int .i64 x.2.1),.v (.int .i64 x.2.2.1),.osl 2 1 (0) (x.2.2.2.2.2.1.length),.osl 3 2 (0) (x.2.2.2.2.2.2.length),.v (.int .i64 x.2.2.2.1),.v (.int .i64 x.2.2.2.2.1)]),(2,.arr 1 (enc x.2.2.2.2.2.1)),(3,.arr 2 (enc x.2.2.2.2.2.2))])) 4 ?_;rintro c3 ⟨b4,an,ao,aq,ar,b5,b6⟩ h _ c4;rw[qp8]at h;refine sg fun _ bi=>?_;refine sM ?_;refine sB h (fun _ h=>?_) fun _ h=>?_
  .
   refine y7 (q8 bi (sg fun _ c5=>?_));refine z8 fun _ c6=>?_;refine sg fun _ bs=>?_;refine sM ?_;refine sB h (fun _ h=>?_) fun _ h=>?_
   . exact au
   refine y7 (q8 bs ?_);obtain⟨b1,F,h⟩:=bI F h;obtain⟨bv,b2,h⟩:=w9 h;simp only[go_sem,F];refine ai ?_;refine q18 [1,2,3] (qt7 (⟨(⟨an,ao⟩:aP),b5,b6,aq,ar⟩:aA) b1 bv b2) ?_;simp only[go_sem];exact au
  exact au
 rintro⟨Z,a6,T,I,aj,ak⟩ h
 try dsimp only at h
 rw[q8u]at h;refine sg fun _ Q6=>?_;refine sM ?_;refine sB h (fun _ h=>?_) fun _ h=>?_
 .
  refine sg fun _ Q8=>?_;refine q07 ?_;refine k1d ?_;have b3:[[.v (.int .i64 G.K),.v (.int .i64 (i64.wrap ((-9223372036854775808)+I)))]]=enc ([(⟨G.K,i64.wrap ((-9223372036854775808)+I)⟩:aP)]:List aP):=by rfl
  simp only[go_sem];simp only[b3];exact au
 exact au)
def qd4(G:Int):Option aP:=
 some (⟨G,-9223372036854775806⟩:aP)
instance js4(G:Int):Ct pp 148 (qd4 G) [.v (.int .i64 G)] fun r=>(.agg (Row.row r)):=ctI Tryz.func148 rfl (by rw[qd4];exact au1)
def q7f(T:Int)(G:Int)(I:Int):Option aP:=
 (if (((decide (G<0))==(decide (I<0)))&&(!((decide ((i64.wrap (G+I))<0))==(decide (G<0)))))=true then q9 (qd4 T) (fun W=>
 some W)
 else some (⟨T,i64.wrap (G+I)⟩:aP))
instance zz5(G:Int)(I:Int)(T:Int):Ct pp 136 (q7f G I T) [.v (.int .i64 G),.v (.int .i64 I),.v (.int .i64 T)] fun r=>(.agg (Row.row r)):=ctI Tryz.func136 rfl (by rw[q7f];exact au1)
def q77(G:aH)(I:aP):Option (List aP):=
 (if (G.Kind==2)=true then q9 (qn9 G.Prog I) (fun T=>
 some T.1)
 else (if (G.Kind==3)=true then q9 (q7f I.K I.V G.Arg) (fun W=>
 some ([W]:List aP))
 else (if (G.Kind==4)=true then (if (decide (G.Arg<1))=true then some ([]:List aP)
 else u7 (G.Arg≠0) (
 (if (!((Int.tmod I.V G.Arg)==0))=true then some ([]:List aP)
 else some ([I]:List aP))))
 else some ([I]:List aP))))
instance jl7(T:aH)(G:aP):Ct pp 133 (q77 T G) [.agg (Row.row T),.agg (Row.row G)] fun r=>(.sl 2 (enc r)):=ctK Tryz.func133 rfl (by rw[q77]) (by
 intro r h F;refine sM ?_;refine jg fun _ Q2=>?_;refine sM ?_;refine z8 fun _ Q4=>?_;refine sM ?_;refine sB h (fun _ h=>?_) fun _ h=>?_
 . exact au
 refine sM ?_;refine sB h (fun _ h=>?_) fun _ h=>?_
 .
  refine sg fun _ Q9=>?_;simp only[go_sem];refine q4n h fun W h=>?_;have Z:[[.v (.int .i64 W.K),.v (.int .i64 W.V)]]=enc ([W]:List aP):=by rfl
  simp only[go_sem];simp only[Z];exact au
 refine sM ?_;refine sB h (fun _ h=>?_) fun _ h=>?_
 .
  refine sg fun _ ak=>?_;simp only[go_sem];rcases I:(decide (T.Arg<1))with _|_
  .
   replace h:=q1l h I;obtain⟨F,h⟩:=bG F h;simp only[go_sem,I,F];refine q8 ak (sB h (fun _ h=>?_) fun _ h=>?_)
   . exact au
   refine y7 (q08 Q4 (q8 Q2 (sg fun _ an=>?_)));have a6:[[.v (.int .i64 G.K),.v (.int .i64 G.V)]]=enc ([G]:List aP):=by rfl
   simp only[go_sem];simp only[a6];exact au
  replace h:=q1k h I;simp only[go_sem,I];exact au
 refine y7 (q08 Q4 (q8 Q2 (sg fun _ ao=>?_)));have aj:[[.v (.int .i64 G.K),.v (.int .i64 G.V)]]=enc ([G]:List aP):=by rfl
 simp only[go_sem];simp only[aj];exact au)
def q1b(G:ax)(T:aP)(I:Int):Option (Bool×ax):=
 (if (decide ((i64.wrap (65536-G.many))<I))=true then some (false,G)
 else u7 ((G.out.length+Xi ([(⟨T,I⟩:a8)]:List a8))*24<=140737488355328) (
 some (true,(⟨(G.out++([(⟨T,I⟩:a8)]:List a8)),i64.wrap (G.many+I)⟩:ax))))
theorem q3a(I:ax)(G:aP)(T:Int)(r:Bool×ax)(h:q1b I G T=some r):ba pp 117 [.ptr 0 0,.agg (Row.row G),.v (.int .i64 T)] [(0,.box [.osl 1 3 (0) (I.out.length),.v (.int .i64 I.many)]),(1,.arr 3 (enc I.out))] 2 (.v (.bool r.1)) [(0,.box [.osl 2 3 (0) (r.2.out.length),.v (.int .i64 r.2.many)]),(2,.arr 3 (enc r.2.out))] 3:=by
 refine dtI Tryz.func117 rfl ?_;rw[q1b]at h;have F:=trivial;refine sM ?_;refine sg fun _ Q2=>?_;refine sM ?_;refine sB h (fun _ h=>?_) fun _ h=>?_
 . exact au
 refine y7 (q8 Q2 (sM ?_));refine sg fun _ Q6=>?_;refine q07 ?_;refine q2g 10 0 0 [0,0,2,6,14,0,0,96,224,510,1023,2047,4095] [1,3] [0] [] [9] [] mixed (by kernel_rfl) (of_decide_eq_true (by kernel_rfl)) (by kernel_rfl) (by kernel_rfl) (by rfl) ?_;have Z:[[.v (.int .i64 G.K),.v (.int .i64 G.V),.v (.int .i64 T)]]=enc ([(⟨G,T⟩:a8)]:List a8):=by rfl
 obtain⟨W,h⟩:=q06 h;have F:=Xc F W;simp only[Xf,Xg,Xd,Xv]at W;have a6:enc I.out++[[.v (.int .i64 G.K),.v (.int .i64 G.V),.v (.int .i64 T)]]=enc (I.out++([(⟨G,T⟩:a8)]:List a8)):=by exact (q2x I.out ([(⟨G,T⟩:a8)]:List a8)).symm
 simp only[go_sem,W,a6];simp only[Z];exact au
def q5q(T:Int)(W:(Int×Int×(List a8)->Option (Bool×ax)))(aj:a8)(ak:List aP)(Z:Int×Int×(List a8)->Option (Bool×ax)):Int×Int×(List a8)->Option (Bool×ax):=
 fun (G,an,ao)=>
 (if (decide (G<(ak.length:Int)))=true then q9 (idx ak G) (fun a6=>
 q9 (q1b (⟨ao,an⟩:ax) a6 aj.N) (fun I=>
 (if (!I.1)=true then some (false,I.2)
 else Z (i64.wrap (G+1),I.2.many,I.2.out))))
 else W (i64.wrap (T+1),an,ao))
def q5r(W:aH)(Z:List a8)(T:Int×Int×(List a8)->Option (Bool×ax)):Int×Int×(List a8)->Option (Bool×ax):=
 fun (G,a6,aj)=>
 (if (decide (G<(Z.length:Int)))=true then q9 (idx Z G) (fun I=>
 q9 (q77 W I.Rec) (fun ak=>
 d9 (q5q G T I ak) rounds (0,a6,aj)))
 else some (true,(⟨aj,a6⟩:ax)))
def q2s(G:ax)(I:aH)(T:List a8):Option (Bool×ax):=
 d9 (q5r I T) rounds (0,G.many,G.out)
theorem q85(G:ax)(I:aH)(a6:List a8)(r:Bool×ax)(h:q2s G I a6=some r):ba pp 115 [.ptr 0 0,.agg (Row.row I),.sl 3 (enc a6)] [(0,.box [.osl 1 3 (0) (G.out.length),.v (.int .i64 G.many)]),(1,.arr 3 (enc G.out))] 2 (.v (.bool r.1)) [(0,.box [.osl 2 3 (0) (r.2.out.length),.v (.int .i64 r.2.many)]),(2,.arr 3 (enc r.2.out))] 3:=by
 refine dtI Tryz.func115 rfl ?_;rw[q2s]at h;have F:=trivial;refine sM ?_;refine jg fun _ Q2=>?_;refine sM ?_;refine z8 fun _ Q4=>?_;refine q0e h [0,4,11,12] (fun x=>([(13,.v (.int .i64 x.1))],[(0,.box [.osl 3 3 (0) (x.2.2.length),.v (.int .i64 x.2.1)]),(2,.box (Row.row I)),(3,.arr 3 (enc x.2.2))])) 4 ?_;rintro b4 ⟨ak,b5,b6⟩ h _ Q5;rw[q5r]at h;refine sM ?_;refine sg fun _ Q7=>?_;refine sB h (fun _ h=>?_) fun _ h=>?_
 .
  refine y7 (q8 Q7 (jg fun _ Q8=>?_));refine z8 fun _ Q9=>?_;refine sg fun _ an=>?_;obtain⟨T,F,h⟩:=bI F h;simp only[go_sem,F];refine ai ?_;refine q8 an (sg fun _ ao=>?_);simp only[go_sem];refine q4n h fun bi h=>?_;simp only[go_sem];refine q8 ao (z8 fun _ bs=>?_);refine q0e h [0,4,11,12,13,20,21] (fun x=>([(8,.ptr 3 0),(22,.v (.int .i64 x.1))],[(0,.box [.osl 4 3 (0) (x.2.2.length),.v (.int .i64 x.2.1)]),(2,.box (Row.row I)),(3,.box (Row.row T)),(4,.arr 3 (enc x.2.2))])) 5 ?_;rintro bv ⟨aq,ar,b1⟩ h _ c0;rw[q5q]at h;refine sM ?_;refine sg fun _ b2=>?_;refine sB h (fun _ h=>?_) fun _ h=>?_
  . refine y7 (q8 b2 (sg fun _ c1=>?_));refine z8 fun _ c2=>?_;refine sg fun _ b3=>?_;obtain⟨W,F,h⟩:=bI F h;simp only[go_sem,F];refine ai ?_;refine q8 b3 (sg fun _ c3=>?_);obtain⟨aj,Z,h⟩:=w9 h;simp only[go_sem];refine q18 [0,4] (q3a (⟨b1,ar⟩:ax) W T.N aj Z) ?_;simp only[go_sem];exact au
  exact au
 exact au
def q70(I:ax)(W:Int×(List a8)->Option ((List a8)×ax)):Int×(List a8)->Option ((List a8)×ax):=
 fun (G,Z)=>
 (if (decide (G<(I.out.length:Int)))=true then q9 (idx I.out G) (fun T=>
 q9 (z2z Z T.Rec T.N) (fun a6=>
 W (i64.wrap (G+1),a6)))
 else some (Z,I))
def q64(G:ax):Option ((List a8)×ax):=
 d9 (q70 G) rounds (0,[])
theorem z1u(G:ax)(r:(List a8)×ax)(h:q64 G=some r):ba pp 120 [.ptr 0 0] [(0,.box [.osl 1 3 (0) (G.out.length),.v (.int .i64 G.many)]),(1,.arr 3 (enc G.out))] 2 (.osl 2 3 (0) (r.1.length)) [(0,.box [.osl 3 3 (0) (r.2.out.length),.v (.int .i64 r.2.many)]),(2,.arr 3 (enc r.1)),(3,.arr 3 (enc r.2.out))] 4:=by
 refine dtI Tryz.func120 rfl ?_;rw[q64]at h;have F:=trivial;refine sM ?_;refine sM ?_;refine jg fun _ Q3=>?_;refine sM ?_;refine z8 fun _ Q5=>?_;refine q0e h [9,10] (fun x=>([(3,.osl 2 3 (0) (x.2.length)),(11,.v (.int .i64 x.1))],[(0,.box [.osl 1 3 (0) (G.out.length),.v (.int .i64 G.many)]),(1,.arr 3 (enc G.out)),(2,.arr 3 (enc x.2))])) 3 ?_;rintro ak ⟨Z,T⟩ h _ Q6;rw[q70]at h;refine sM ?_;refine sg fun _ Q8=>?_;refine sB h (fun _ h=>?_) fun _ h=>?_
 . refine y7 (q8 Q8 (sg fun _ Q9=>?_));refine z8 fun _ an=>?_;refine sg fun _ a6=>?_;obtain⟨I,F,h⟩:=bI F h;simp only[go_sem,F];refine ai ?_;refine q8 a6 ?_;obtain⟨aj,W,h⟩:=w9 h;simp only[go_sem];refine qm5 [9,10,11] ([(3,.sl 3 (enc T))],[(0,.box [.osl 1 3 (0) (G.out.length),.v (.int .i64 G.many)]),(1,.arr 3 (enc G.out)),(2,.box (Row.row I))]) 3 [some 3] [.sl 3 (enc T),.agg (Row.row I.Rec),.v (.int .i64 I.N)] ?_;refine q18 [] (zz7 T I.Rec I.N aj W) ?_;simp only[go_sem];exact au
 exact au
def qk5(G:Int)(I:Int)(T:Int):Option (Int×Int):=zk8 G I T
theorem z98(G:Int)(I:Int)(T:Int)(r:Int×Int)(h:qk5 G I T=some r):aZ pp 155 [.v (.int .u64 G),.v (.int .u64 I),.v (.int .u64 T)] 0 (.tup [.v (.int .u64 r.1),.v (.int .u64 r.2)]):=
 j5k Tryz.func155 (by kernel_rfl) (by kernel_rfl) (by kernel_rfl) (by kernel_rfl) h
def qk6(G:Int)(I:Int)(T:Int):Option (Int×Int):=zq3 G I T
theorem z99(G:Int)(I:Int)(T:Int)(r:Int×Int)(h:qk6 G I T=some r):aZ pp 156 [.v (.int .u64 G),.v (.int .u64 I),.v (.int .u64 T)] 0 (.tup [.v (.int .u64 r.1),.v (.int .u64 r.2)]):=
 j7i Tryz.func156 (by kernel_rfl) (by kernel_rfl) (by kernel_rfl) (by kernel_rfl) h
def q50(G:aT)(aj:Int)(W:Int)(I:Int):Option aT:=
 q9 (q2w I (IntKind.u64.wrap W)) (fun T=>
 (if (decide (aj<0))=true then q9 (qk5 G.lo.n T.2 0) (fun Z=>
 some (⟨i64.wrap (G.hi-(i64.wrap ((i64.wrap T.1)+(i64.wrap Z.2)))),(⟨Z.1⟩:dm)⟩:aT))
 else q9 (qk6 G.lo.n T.2 0) (fun a6=>
 some (⟨i64.wrap (G.hi+(i64.wrap ((i64.wrap T.1)+(i64.wrap a6.2)))),(⟨a6.1⟩:dm)⟩:aT))))
def q9b(T:aT)(G:Int)(I:Int):Option aT:=
 (if (decide (G<0))=true then q50 T G I (IntKind.u64.wrap (0-(IntKind.u64.wrap G)))
 else q50 T G I (IntKind.u64.wrap G))
instance jb0(I:aT)(W:Int)(T:Int):Ct pp 149 (q9b I W T) [.agg (Row.row I),.v (.int .i64 W),.v (.int .i64 T)] fun r=>(.agg (Row.row r)):=ctK Tryz.func149 rfl (by rw[q9b]) (by
 intro r h F;refine sM ?_;refine sM ?_;refine q30 (fun (G:Int)=>q50 I W T G=some r) [1,2,3,6] (fun G=>([(7,.v (.int .u64 G))],[(0,.box (Row.row I)),(1,.box [.v (.int .i64 0),.v (.int .u64 0)])])) 2 ?_ ?_
 . intro _ ao;exact au
 rintro G h
 try dsimp only at h
 rw[q50]at h;refine sg fun _ Q3=>?_;simp only[go_sem];refine q4n h fun Z h=>?_;simp only[go_sem];refine q8 Q3 (sM ?_);refine sg fun _ Q5=>?_;refine sM ?_;refine sB h (fun _ h=>?_) fun _ h=>?_
 . refine sg fun _ Q7=>?_;obtain⟨ak,a6,h⟩:=w9 h;simp only[go_sem];refine qk7 (z98 I.lo.n Z.2 0 ak a6) (by rfl) (by rfl) ?_;simp only[go_sem];exact au
 refine y7 (q8 Q5 (sg fun _ aq=>?_));obtain⟨an,aj,h⟩:=w9 h;simp only[go_sem];refine qk7 (z99 I.lo.n Z.2 0 an aj) (by rfl) (by rfl) ?_;simp only[go_sem];exact au)
def qt9(W:List a8)(T:Int×aT->Option aT):Int×aT->Option aT:=
 fun (G,Z)=>
 (if (decide (G<(W.length:Int)))=true then q9 (idx W G) (fun I=>
 q9 (q9b Z I.Rec.V I.N) (fun a6=>
 T (i64.wrap (G+1),a6)))
 else some Z)
def qd5(G:List a8):Option aT:=
 d9 (qt9 G) rounds (0,(⟨0,(⟨0⟩:dm)⟩:aT))
instance zb7(G:List a8):Ct pp 138 (qd5 G) [.sl 3 (enc G)] fun r=>(.agg (Row.row r)):=ctK Tryz.func138 rfl (by rw[qd5]) (by
 intro r h F;refine sM ?_;refine sM ?_;refine jg fun _ Z=>?_;refine sM ?_;refine z8 fun _ Q5=>?_;refine q0e h [2,3,6,7] (fun x=>([(8,.v (.int .i64 x.1))],[(0,.box [.v (.int .i64 0),.v (.int .u64 0)]),(1,.box (Row.row x.2))])) 2 ?_;rintro T ⟨I,W⟩ h _ Q6;rw[qt9]at h;exact au)
def q2v(G:aT)(I:Int):Option aP:=
 (if (((G.hi==0)&&(decide (0<=(i64.wrap G.lo.n))))||((G.hi==(-1))&&(decide ((i64.wrap G.lo.n)<0))))=true then some (⟨I,i64.wrap G.lo.n⟩:aP)
 else q9 (qd4 I) (fun T=>
 some T))
instance z14(G:aT)(I:Int):Ct pp 139 (q2v G I) [.agg (Row.row G),.v (.int .i64 I)] fun r=>(.agg (Row.row r)):=ctI Tryz.func139 rfl (by rw[q2v];exact au1)
def q5c(an:Int)(Z:List a8)(T:(Int×Int×(List a8)->Option (Bool×ax)))(I:Int)(W:a8)(a6:List a8):Option (Bool×ax):=
 q9 (qd5 a6) (fun aj=>
 q9 (q2v aj W.Rec.K) (fun ak=>
 q9 (q1b (⟨Z,an⟩:ax) ak 1) (fun G=>
 (if (!G.1)=true then some (false,G.2)
 else T (I,G.2.many,G.2.out)))))
def q5e(ak:List a8)(ao:Int)(an:List a8)(aj:(Int×Int×(List a8)->Option (Bool×ax)))(a6:Int)(W:a8)(Z:Int×(List a8)->Option (Bool×ax)):Int×(List a8)->Option (Bool×ax):=
 fun (G,T)=>
 (if (decide (G<(ak.length:Int)))=true then q9 (idx ak G) (fun I=>
 (if (I.Rec.K==W.Rec.K)=true then u7 ((T.length+Xi ([I]:List a8))*24<=140737488355328) (
 Z (i64.wrap (G+1),(T++([I]:List a8))))
 else Z (i64.wrap (G+1),T)))
 else q5c ao an aj a6 W T)
def q5d(Z:List a8)(a6:Int)(W:List a8)(I:(Int×Int×(List a8)->Option (Bool×ax)))(G:Int)(T:a8):Option (Bool×ax):=
 d9 (q5e Z a6 W I G T) rounds (0,[])
def q5b(aj:Int)(a6:List a8)(T:(Int×Int×(List a8)->Option (Bool×ax)))(I:Int)(W:a8)(Z:Int):Option (Bool×ax):=
 q9 (q1b (⟨a6,aj⟩:ax) (⟨W.Rec.K,Z⟩:aP) 1) (fun G=>
 (if (!G.1)=true then some (false,G.2)
 else T (I,G.2.many,G.2.out)))
def q86(an:List a8)(T:Int)(aq:Int)(ao:List a8)(Z:(Int×Int×(List a8)->Option (Bool×ax)))(G:Int)(a6:a8)(aj:Int×Int->Option (Bool×ax)):Int×Int->Option (Bool×ax):=
 fun (W,I)=>
 (if (decide (I<(Xi (Xq (T.toNat) (Xb (G.toNat) an)):Int)))=true then q9 (idx (Xq (T.toNat) (Xb (G.toNat) an)) I) (fun ak=>
 aj (i64.wrap (W+ak.N),i64.wrap (I+1)))
 else q5b aq ao Z G a6 W)
def q2n(Z:Int)(ak:List a8)(ar:List a8)(G:Int)(an:Int)(aj:List a8)(T:(Int×Int×(List a8)->Option (Bool×ax)))(I:Int):Option (Bool×ax):=
 q9 (idx ak G) (fun W=>
 u7 (0<=G/\G<=I/\I<=(ak.length:Int)) (
 (if (Z==7)=true then d9 (q86 ak G an aj T I W) rounds (0,0)
 else (if (Z==6)=true then q9 (qd5 (Xq (G.toNat) (Xb (I.toNat) ak))) (fun ao=>
 q9 (q2v ao W.Rec.K) (fun aq=>
 q9 (q1b (⟨aj,an⟩:ax) aq 1) (fun a6=>
 (if (!a6.1)=true then some (false,a6.2)
 else T (I,a6.2.many,a6.2.out)))))
 else q5d ar an aj T I W))))
def qi3(T:Int)(W:List a8)(ao:List a8)(I:Int)(aq:Int)(a6:List a8)(Z:(Int×Int×(List a8)->Option (Bool×ax)))(aj:Int->Option (Bool×ax)):Int->Option (Bool×ax):=
 fun G=>
 (if (decide (G<(W.length:Int)))=true then q9 (idx W G) (fun ak=>
 q9 (idx W I) (fun an=>
 (if (ak.Rec.K==an.Rec.K)=true then aj (i64.wrap (G+1))
 else q2n T W ao I aq a6 Z G)))
 else q2n T W ao I aq a6 Z G)
def q1u(I:Int)(Z:List a8)(aj:List a8)(W:Int×Int×(List a8)->Option (Bool×ax)):Int×Int×(List a8)->Option (Bool×ax):=
 fun (G,a6,T)=>
 (if (decide (G<(Z.length:Int)))=true then d9 (qi3 I Z aj G a6 T W) rounds G
 else some (true,(⟨T,a6⟩:ax)))
def q4d(I:ax)(G:Int)(T:List a8)(W:List a8):Option (Bool×ax):=
 d9 (q1u G T W) rounds (0,I.many,I.out)
theorem z0n(b5:ax)(G:Int)(b2:List a8)(T:List a8)(r:Bool×ax)(h:q4d b5 G b2 T=some r):ba pp 119 [.ptr 0 0,.v (.int .i64 G),.sl 3 (enc b2),.sl 3 (enc T)] [(0,.box [.osl 1 3 (0) (b5.out.length),.v (.int .i64 b5.many)]),(1,.arr 3 (enc b5.out))] 2 (.v (.bool r.1)) [(0,.box [.osl 2 3 (0) (r.2.out.length),.v (.int .i64 r.2.many)]),(2,.arr 3 (enc r.2.out))] 3:=by
 refine dtI Tryz.func119 rfl ?_;rw[q4d]at h;have F:=trivial;refine sM ?_;refine sg fun _ Q2=>?_;simp only[go_sem];refine q51 Tryz.func134 rfl (by kernel_rfl) (by kernel_rfl) ?_;refine sM ?_;refine jg fun _ Q4=>?_;refine sM ?_;refine z8 fun _ Q6=>?_;refine q0e h [0,1] (fun x=>([(5,.v (.int .i64 x.1))],[(0,.box [.osl 5 3 (0) (x.2.2.length),.v (.int .i64 x.2.1)]),(2,.box [.ptr 0 0]),(3,.box [.v (.int .i64 G)]),(4,.box [.sl 3 (enc T)]),(5,.arr 3 (enc x.2.2))])) 6 ?_;rintro bs ⟨b4,a6,I⟩ h _ Q7;rw[q1u]at h;refine sg fun _ Q8=>?_;refine sM ?_;refine sB h (fun _ h=>?_) fun _ h=>?_
 .
  refine y7 (q8 Q8 (z8 fun _ c3=>?_));refine sM ?_;refine q30 (fun (W:Int)=>q2n G b2 T b4 a6 I (d9 (q1u G b2 T) bs) W=some r) [0,1,5] (fun W=>([(6,.v (.int .i64 W))],[(0,.box [.osl 5 3 (0) (I.length),.v (.int .i64 a6)]),(2,.box [.ptr 0 0]),(3,.box [.v (.int .i64 G)]),(4,.box [.sl 3 (enc T)]),(5,.arr 3 (enc I))])) 6 ?_ ?_
  .
   intro _ ds;refine z8 fun _ dI=>?_;refine q0e h [0,1,5] (fun b3=>([(6,.v (.int .i64 b3))],[(0,.box [.osl 5 3 (0) (I.length),.v (.int .i64 a6)]),(2,.box [.ptr 0 0]),(3,.box [.v (.int .i64 G)]),(4,.box [.sl 3 (enc T)]),(5,.arr 3 (enc I))])) 6 ?_;rintro dJ b3 h _ dK;rw[qi3]at h;refine sg fun _ dL=>?_;refine sg fun _ dM=>?_;refine q07 ?_;refine k1d ?_;simp only[go_sem];rcases aq:(decide (b3<(b2.length:Int)))with _|_
   . replace h:=q1l h aq;simp only[go_sem,aq];exact au
   replace h:=q1k h aq;obtain⟨d4,F,h⟩:=bI F h;obtain⟨d5,F,h⟩:=bI F h;simp only[go_sem,aq,F];refine ai ?_;refine ai ?_;exact au
  rintro W h
  try dsimp only at h
  rw[q2n]at h;refine sg fun _ c4=>?_;refine sg fun _ c5=>?_;refine q07 ?_;refine k1d ?_;obtain⟨aj,F,h⟩:=bI F h;obtain⟨F,h⟩:=bG F h;simp only[go_sem,F];refine ai ?_;refine q51 Tryz.func137 rfl (by kernel_rfl) (by kernel_rfl) ?_;refine sM ?_;refine q30 (fun (_:Unit)=>q5d T a6 I (d9 (q1u G b2 T) bs) W aj=some r) [0,3,4] (fun _=>([],[(0,.box [.osl 5 3 (0) (I.length),.v (.int .i64 a6)]),(2,.box [.ptr 0 0]),(3,.box [.v (.int .i64 G)]),(4,.box [.sl 3 (enc T)]),(5,.arr 3 (enc I))])) 6 ?_ ?_
  .
   intro _ d0;refine sM ?_;refine z8 fun _ d1=>?_;refine sM ?_;refine sB h (fun _ h=>?_) fun _ h=>?_
   .
    refine sM ?_;refine q30 (fun (ar:Int)=>q5b a6 I (d9 (q1u G b2 T) bs) W aj ar=some r) [0,3] (fun ar=>([(8,.v (.int .i64 ar))],[(0,.box [.osl 5 3 (0) (I.length),.v (.int .i64 a6)]),(2,.box [.ptr 0 0]),(3,.box [.v (.int .i64 G)]),(4,.box [.sl 3 (enc T)]),(5,.arr 3 (enc I))])) 6 ?_ ?_
    . intro _ dN;refine sM ?_;refine z8 fun _ dO=>?_;refine q0e h [0,3,17,18] (fun x=>([(8,.v (.int .i64 x.1)),(19,.v (.int .i64 x.2))],[(0,.box [.osl 5 3 (0) (I.length),.v (.int .i64 a6)]),(2,.box [.ptr 0 0]),(3,.box [.v (.int .i64 G)]),(4,.box [.sl 3 (enc T)]),(5,.arr 3 (enc I))])) 6 ?_;rintro dP ⟨d6,d2⟩ h _ dQ;rw[q86]at h;exact au
    rintro ar h
    try dsimp only at h
    rw[q5b]at h;refine sg fun _ d7=>?_;obtain⟨ak,c6,h⟩:=w9 h;simp only[go_sem];refine q18 [0,5] (q3a (⟨I,a6⟩:ax) (⟨aj.Rec.K,ar⟩:aP) 1 ak c6) ?_;simp only[go_sem];refine q8 d7 (q03 (q0r d1 (q31 d0 ?_)));simp only[go_sem];refine q0s [some 6] [(0,.box [.osl 6 3 (0) (ak.2.out.length),.v (.int .i64 ak.2.many)]),(2,.box [.ptr 0 0]),(3,.box [.v (.int .i64 G)]),(4,.box [.sl 3 (enc T)]),(6,.arr 3 (enc ak.2.out))] 7 (.v (.bool ak.1)) ?_ ?_
    . exact leA
    refine q13 ?_;simp only[go_sem];refine q8 c5 (sB h (fun _ h=>?_) fun _ h=>?_)
    .
     refine sM ?_;refine q03 (q0y c4 (q0r c3 (q31 Q7 (q0r Q6 (q0y Q4 ?_)))));simp only[go_sem];refine q0s [some 6] [(0,.box [.osl 5 3 (0) (ak.2.out.length),.v (.int .i64 ak.2.many)]),(2,.box [.ptr 0 0]),(3,.box [.v (.int .i64 G)]),(4,.box [.sl 3 (enc T)]),(5,.arr 3 (enc ak.2.out))] 6 (.v (.bool false)) ?_ ?_
     . exact leA
     refine q13 ?_;simp only[go_sem];exact au
    exact au
   refine sM ?_;refine sB h (fun _ h=>?_) fun _ h=>?_
   .
    refine sg fun _ d8=>?_;refine q07 ?_;refine k1d ?_;obtain⟨bv,c7,h⟩:=w9 h;simp only[go_sem];refine br (fun _=>(zb7 (Xq (b4.toNat) (Xb (W.toNat) b2)) bv c7)) (by rfl) (by rfl) ?_;obtain⟨c0,c8,h⟩:=w9 h;simp only[go_sem];refine br (fun _=>(z14 bv aj.Rec.K c0 c8)) (by rfl) (by rfl) ?_;obtain⟨an,c9,h⟩:=w9 h;simp only[go_sem];refine q18 [0,5] (q3a (⟨I,a6⟩:ax) c0 1 an c9) ?_;simp only[go_sem];refine q8 d8 (q03 (q0r d1 (q31 d0 ?_)));simp only[go_sem];refine q0s [some 6] [(0,.box [.osl 6 3 (0) (an.2.out.length),.v (.int .i64 an.2.many)]),(2,.box [.ptr 0 0]),(3,.box [.v (.int .i64 G)]),(4,.box [.sl 3 (enc T)]),(6,.arr 3 (enc an.2.out))] 7 (.v (.bool an.1)) ?_ ?_
    . exact leA
    refine q13 ?_;simp only[go_sem];refine q8 c5 (sB h (fun _ h=>?_) fun _ h=>?_)
    .
     refine sM ?_;refine q03 (q0y c4 (q0r c3 (q31 Q7 (q0r Q6 (q0y Q4 ?_)))));simp only[go_sem];refine q0s [some 6] [(0,.box [.osl 5 3 (0) (an.2.out.length),.v (.int .i64 an.2.many)]),(2,.box [.ptr 0 0]),(3,.box [.v (.int .i64 G)]),(4,.box [.sl 3 (enc T)]),(5,.arr 3 (enc an.2.out))] 6 (.v (.bool false)) ?_ ?_
     . exact leA
     refine q13 ?_;simp only[go_sem];exact au
    exact au
   exact au
  rintro⟨⟩ h
  try dsimp only at h
  rw[q5d]at h;refine sM ?_;refine q30 (fun (b1:(List a8))=>q5c a6 I (d9 (q1u G b2 T) bs) W aj b1=some r) [0,3] (fun b1=>([(11,.osl 6 3 (0) (b1.length))],[(0,.box [.osl 5 3 (0) (I.length),.v (.int .i64 a6)]),(2,.box [.ptr 0 0]),(3,.box [.v (.int .i64 G)]),(4,.box [.sl 3 (enc T)]),(5,.arr 3 (enc I)),(6,.arr 3 (enc b1))])) 7 ?_ ?_
  .
   intro _ dR;refine sM ?_;refine z8 fun _ dS=>?_;refine q0e h [0,3,41,42] (fun x=>([(11,.osl 6 3 (0) (x.2.length)),(43,.v (.int .i64 x.1))],[(0,.box [.osl 5 3 (0) (I.length),.v (.int .i64 a6)]),(2,.box [.ptr 0 0]),(3,.box [.v (.int .i64 G)]),(4,.box [.sl 3 (enc T)]),(5,.arr 3 (enc I)),(6,.arr 3 (enc x.2))])) 7 ?_;rintro dT ⟨d3,b6⟩ h _ dU;rw[q5e]at h;refine sM ?_;refine sg fun _ dc=>?_;refine sB h (fun _ h=>?_) fun _ h=>?_
   .
    refine y7 (q8 dc (jg fun _ dV=>?_));refine z8 fun _ dW=>?_;refine sg fun _ dd=>?_;obtain⟨Z,F,h⟩:=bI F h;simp only[go_sem,F];refine ai ?_;refine q8 dd (sM ?_);refine sB h (fun _ h=>?_) fun _ h=>?_
    .
     have cb:[[.v (.int .i64 Z.Rec.K),.v (.int .i64 Z.Rec.V),.v (.int .i64 Z.N)]]=enc ([Z]:List a8):=by rfl
     obtain⟨bi,h⟩:=q06 h;have F:=Xc F bi;simp only[Xf,Xg,Xd,Xv]at bi;have cc:enc b6++[[.v (.int .i64 Z.Rec.K),.v (.int .i64 Z.Rec.V),.v (.int .i64 Z.N)]]=enc (b6++([Z]:List a8)):=by exact (q2x b6 ([Z]:List a8)).symm
     simp only[go_sem,bi,cc];simp only[cb];exact au
    exact au
   exact au
  rintro b1 h
  try dsimp only at h
  rw[q5c]at h;refine sg fun _ dk=>?_;refine q07 ?_;refine zp4 (s':=(⟨6,[(0,.v (.int .i64 aj.Rec.K)),(3,.ptr 2 0),(11,.sl 3 (enc b1))],[(0,.box [.osl 5 3 (0) (I.length),.v (.int .i64 a6)]),(2,.box [.ptr 0 0]),(3,.box [.v (.int .i64 G)]),(4,.box [.sl 3 (enc T)]),(5,.arr 3 (enc I))],6,63⟩:St)) (l:=[]) ?_ ?_
  . exact leA
  refine k1d ?_;obtain⟨c1,cd,h⟩:=w9 h;simp only[go_sem];refine br (fun _=>(zb7 b1 c1 cd)) (by rfl) (by rfl) ?_;obtain⟨c2,cl,h⟩:=w9 h;simp only[go_sem];refine br (fun _=>(z14 c1 aj.Rec.K c2 cl)) (by rfl) (by rfl) ?_;obtain⟨ao,cp,h⟩:=w9 h;simp only[go_sem];refine q18 [0,5] (q3a (⟨I,a6⟩:ax) c2 1 ao cp) ?_;simp only[go_sem];refine q8 dk (q03 ?_);simp only[go_sem];refine q0s [some 6] [(0,.box [.osl 6 3 (0) (ao.2.out.length),.v (.int .i64 ao.2.many)]),(2,.box [.ptr 0 0]),(3,.box [.v (.int .i64 G)]),(4,.box [.sl 3 (enc T)]),(6,.arr 3 (enc ao.2.out))] 7 (.v (.bool ao.1)) ?_ ?_
  . exact leA
  refine q13 ?_;simp only[go_sem];refine q8 c5 (sB h (fun _ h=>?_) fun _ h=>?_)
  .
   refine sM ?_;refine q03 (q0y c4 (q0r c3 (q31 Q7 (q0r Q6 (q0y Q4 ?_)))));simp only[go_sem];refine q0s [some 6] [(0,.box [.osl 5 3 (0) (ao.2.out.length),.v (.int .i64 ao.2.many)]),(2,.box [.ptr 0 0]),(3,.box [.v (.int .i64 G)]),(4,.box [.sl 3 (enc T)]),(5,.arr 3 (enc ao.2.out))] 6 (.v (.bool false)) ?_ ?_
   . exact leA
   refine q13 ?_;simp only[go_sem];exact au
  exact au
 refine q0n (q1f Q8 (q0o Q7 (q0h Q6 (q8 Q4 (sM ?_)))));refine q03 ?_;simp only[go_sem];refine q0s [some 5] [(0,.box [.osl 5 3 (0) (I.length),.v (.int .i64 a6)]),(2,.box [.ptr 0 0]),(3,.box [.v (.int .i64 G)]),(4,.box [.sl 3 (enc T)]),(5,.arr 3 (enc I))] 6 (.v (.bool true)) ?_ ?_
 . exact leA
 refine q13 ?_;simp only[go_sem];exact au
def q6w(aq:List a8)(aj:a8)(an:Int)(ao:(Int×Int×(List a8)->Option (Bool×ax)))(T:a8)(ak:Int×Int×(List a8)->Option (Bool×ax)):Int×Int×(List a8)->Option (Bool×ax):=
 fun (G,W,Z)=>
 (if (decide (G<(aq.length:Int)))=true then q9 (idx aq G) (fun I=>
 (if (!(I.Rec.K==aj.Rec.K))=true then ak (i64.wrap (G+1),W,Z)
 else (if ((decide (65536<T.N))||(decide (65536<I.N)))=true then some (false,(⟨Z,W⟩:ax))
 else q9 (q7f aj.Rec.K T.Rec.V I.Rec.V) (fun ar=>
 q9 (q1b (⟨Z,W⟩:ax) ar (i64.wrap (T.N*I.N))) (fun a6=>
 (if (!a6.1)=true then some (false,a6.2)
 else ak (i64.wrap (G+1),a6.2.many,a6.2.out)))))))
 else ao (i64.wrap (an+1),W,Z))
def q6x(ao:List a8)(aq:List a8)(I:Int)(a6:(Int×Int×(List a8)->Option (Bool×ax)))(G:Int)(aj:a8)(ak:Int×Int×(List a8)->Option (Bool×ax)):Int×Int×(List a8)->Option (Bool×ax):=
 fun (T,W,Z)=>
 (if (decide (T<(Xi (Xq (I.toNat) (Xb (G.toNat) ao)):Int)))=true then q9 (idx (Xq (I.toNat) (Xb (G.toNat) ao)) T) (fun an=>
 d9 (q6w aq aj T ak an) rounds (0,W,Z))
 else a6 (G,W,Z))
def q39(T:List a8)(ak:List a8)(G:Int)(a6:Int)(aj:List a8)(W:(Int×Int×(List a8)->Option (Bool×ax)))(I:Int):Option (Bool×ax):=
 q9 (idx T G) (fun Z=>
 u7 (0<=G/\G<=I/\I<=(T.length:Int)) (
 d9 (q6x T ak G W I Z) rounds (0,a6,aj)))
def qm0(T:List a8)(ao:List a8)(I:Int)(Z:Int)(a6:List a8)(W:(Int×Int×(List a8)->Option (Bool×ax)))(aj:Int->Option (Bool×ax)):Int->Option (Bool×ax):=
 fun G=>
 (if (decide (G<(T.length:Int)))=true then q9 (idx T G) (fun ak=>
 q9 (idx T I) (fun an=>
 (if (ak.Rec.K==an.Rec.K)=true then aj (i64.wrap (G+1))
 else q39 T ao I Z a6 W G)))
 else q39 T ao I Z a6 W G)
def q6y(Z:List a8)(a6:List a8)(W:Int×Int×(List a8)->Option (Bool×ax)):Int×Int×(List a8)->Option (Bool×ax):=
 fun (G,I,T)=>
 (if (decide (G<(Z.length:Int)))=true then d9 (qm0 Z a6 G I T W) rounds G
 else some (true,(⟨T,I⟩:ax)))
def q63(G:ax)(I:List a8)(T:List a8):Option (Bool×ax):=
 d9 (q6y I T) rounds (0,G.many,G.out)
theorem z1t(aq:ax)(b1:List a8)(I:List a8)(r:Bool×ax)(h:q63 aq b1 I=some r):ba pp 118 [.ptr 0 0,.sl 3 (enc b1),.sl 3 (enc I)] [(0,.box [.osl 1 3 (0) (aq.out.length),.v (.int .i64 aq.many)]),(1,.arr 3 (enc aq.out))] 2 (.v (.bool r.1)) [(0,.box [.osl 2 3 (0) (r.2.out.length),.v (.int .i64 r.2.many)]),(2,.arr 3 (enc r.2.out))] 3:=by
 refine dtI Tryz.func118 rfl ?_;rw[q63]at h;have F:=trivial;refine sM ?_;refine sg fun _ Q2=>?_;simp only[go_sem];refine q51 Tryz.func134 rfl (by kernel_rfl) (by kernel_rfl) ?_;refine sM ?_;refine jg fun _ Q4=>?_;refine sM ?_;refine z8 fun _ Q6=>?_;refine q0e h [0,1] (fun x=>([(5,.v (.int .i64 x.1))],[(0,.box [.osl 4 3 (0) (x.2.2.length),.v (.int .i64 x.2.1)]),(2,.box [.ptr 0 0]),(3,.box [.sl 3 (enc I)]),(4,.arr 3 (enc x.2.2))])) 5 ?_;rintro d0 ⟨b2,ar,aj⟩ h _ Q7;rw[q6y]at h;refine sg fun _ Q8=>?_;refine sM ?_;refine sB h (fun _ h=>?_) fun _ h=>?_
 .
  refine y7 (q8 Q8 (z8 fun _ c2=>?_));refine sM ?_;refine q30 (fun (W:Int)=>q39 b1 I b2 ar aj (d9 (q6y b1 I) d0) W=some r) [0,1,5] (fun W=>([(6,.v (.int .i64 W))],[(0,.box [.osl 4 3 (0) (aj.length),.v (.int .i64 ar)]),(2,.box [.ptr 0 0]),(3,.box [.sl 3 (enc I)]),(4,.arr 3 (enc aj))])) 5 ?_ ?_
  .
   intro _ d8;refine z8 fun _ dc=>?_;refine q0e h [0,1,5] (fun an=>([(6,.v (.int .i64 an))],[(0,.box [.osl 4 3 (0) (aj.length),.v (.int .i64 ar)]),(2,.box [.ptr 0 0]),(3,.box [.sl 3 (enc I)]),(4,.arr 3 (enc aj))])) 5 ?_;rintro dd an h _ dk;rw[qm0]at h;refine sg fun _ ds=>?_;refine sg fun _ dI=>?_;refine q07 ?_;refine k1d ?_;simp only[go_sem];rcases Z:(decide (an<(b1.length:Int)))with _|_
   . replace h:=q1l h Z;simp only[go_sem,Z];exact au
   replace h:=q1k h Z;obtain⟨d1,F,h⟩:=bI F h;obtain⟨d2,F,h⟩:=bI F h;simp only[go_sem,Z,F];refine ai ?_;refine ai ?_;exact au
  rintro W h
  try dsimp only at h
  rw[q39]at h;refine sg fun _ c3=>?_;refine sg fun _ c4=>?_;refine q07 ?_;refine k1d ?_;obtain⟨b6,F,h⟩:=bI F h;obtain⟨F,h⟩:=bG F h;simp only[go_sem,F];refine ai ?_;refine q51 Tryz.func135 rfl (by kernel_rfl) (by kernel_rfl) ?_;refine sM ?_;refine jg fun _ bi=>?_;refine sM ?_;refine z8 fun _ bs=>?_;refine q0e h [0,2,3,11,12] (fun x=>([(13,.v (.int .i64 x.1))],[(0,.box [.osl 5 3 (0) (x.2.2.length),.v (.int .i64 x.2.1)]),(2,.box [.ptr 0 0]),(3,.box [.sl 3 (enc I)]),(5,.arr 3 (enc x.2.2))])) 6 ?_;rintro dJ ⟨d3,c5,b4⟩ h _ bv;rw[q6x]at h;refine sM ?_;refine sg fun _ c6=>?_;refine sB h (fun _ h=>?_) fun _ h=>?_
  .
   refine y7 (q8 c6 (jg fun _ c7=>?_));refine z8 fun _ c8=>?_;refine sg fun _ d4=>?_;obtain⟨G,F,h⟩:=bI F h;simp only[go_sem,F];refine ai ?_;refine q8 d4 (sM ?_);refine z8 fun _ c9=>?_;refine q0e h [0,2,3,11,12,13,17,18] (fun x=>([(8,.ptr 5 0),(19,.v (.int .i64 x.1))],[(0,.box [.osl 6 3 (0) (x.2.2.length),.v (.int .i64 x.2.1)]),(2,.box [.ptr 0 0]),(3,.box [.sl 3 (enc I)]),(5,.box (Row.row G)),(6,.arr 3 (enc x.2.2))])) 7 ?_;rintro dK ⟨cp,b3,ao⟩ h _ cb;rw[q6w]at h;refine sM ?_;refine sg fun _ d5=>?_;refine sB h (fun _ h=>?_) fun _ h=>?_
   .
    refine y7 (q8 d5 (sg fun _ cc=>?_));refine z8 fun _ cd=>?_;refine sg fun _ d6=>?_;obtain⟨T,F,h⟩:=bI F h;simp only[go_sem,F];refine ai ?_;refine q8 d6 (sg fun _ d7=>?_);refine sM ?_;refine sB h (fun _ h=>?_) fun _ h=>?_
    . exact au
    refine y7 (q8 d7 (sg fun _ cl=>?_));refine q07 ?_;refine k1d ?_;simp only[go_sem];rcases a6:((decide (65536<G.N))||(decide (65536<T.N)))with _|_
    .
     replace h:=q1l h a6;obtain⟨b5,c0,h⟩:=w9 h;simp only[go_sem,a6];refine br (fun _=>(zz5 b6.Rec.K G.Rec.V T.Rec.V b5 c0)) (by rfl) (by rfl) ?_;obtain⟨ak,c1,h⟩:=w9 h;simp only[go_sem];refine q18 [0,6] (q3a (⟨ao,b3⟩:ax) b5 (i64.wrap (G.N*T.N)) ak c1) ?_;simp only[go_sem];refine q8 cl (sB h (fun _ h=>?_) fun _ h=>?_)
     .
      refine sM ?_;refine q03 (q0r cd (q0y cc (q31 cb (q0r c9 (q0r c8 (q0y c7 (q31 bv (q0r bs (q0y bi ?_)))))))));simp only[go_sem];refine q0s [some 5,some 7,some 8] [(0,.box [.osl 7 3 (0) (ak.2.out.length),.v (.int .i64 ak.2.many)]),(2,.box [.ptr 0 0]),(3,.box [.sl 3 (enc I)]),(5,.box (Row.row G)),(6,.box (Row.row T)),(7,.arr 3 (enc ak.2.out))] 8 (.v (.bool false)) ?_ ?_
      . exact leA
      refine q13 ?_;simp only[go_sem];refine q8 c4 (k3b ?_);refine sM ?_;refine q03 (q0y c3 (q0r c2 (q31 Q7 (q0r Q6 (q0y Q4 ?_)))));simp only[go_sem];refine q0s [some 5,some 6,some 7] [(0,.box [.osl 6 3 (0) (ak.2.out.length),.v (.int .i64 ak.2.many)]),(2,.box [.ptr 0 0]),(3,.box [.sl 3 (enc I)]),(4,.box (Row.row G)),(5,.box (Row.row T)),(6,.arr 3 (enc ak.2.out))] 7 (.v (.bool false)) ?_ ?_
      . exact leA
      refine q13 ?_;simp only[go_sem];exact au
     exact au
    replace h:=q1k h a6;simp only[go_sem,a6];refine q8 cl (k3b ?_);refine sM ?_;refine q03 (q0r cd (q0y cc (q31 cb (q0r c9 (q0r c8 (q0y c7 (q31 bv (q0r bs (q0y bi ?_)))))))));simp only[go_sem];refine q0s [some 5,some 6,some 7] [(0,.box [.osl 6 3 (0) (ao.length),.v (.int .i64 b3)]),(2,.box [.ptr 0 0]),(3,.box [.sl 3 (enc I)]),(5,.box (Row.row G)),(6,.arr 3 (enc ao)),(7,.box (Row.row T))] 8 (.v (.bool false)) ?_ ?_
    . exact leA
    refine q13 ?_;simp only[go_sem];refine q8 c4 (k3b ?_);refine sM ?_;refine q03 (q0y c3 (q0r c2 (q31 Q7 (q0r Q6 (q0y Q4 ?_)))));simp only[go_sem];refine q0s [some 5,some 6,some 7] [(0,.box [.osl 5 3 (0) (ao.length),.v (.int .i64 b3)]),(2,.box [.ptr 0 0]),(3,.box [.sl 3 (enc I)]),(4,.box (Row.row G)),(5,.arr 3 (enc ao)),(6,.box (Row.row T))] 7 (.v (.bool false)) ?_ ?_
    . exact leA
    refine q13 ?_;simp only[go_sem];exact au
   exact au
  refine q0n (q1f c6 (q0o bv (q0h bs (q8 bi (sM ?_)))));refine q03 ?_;simp only[go_sem];refine q0s [some 5] [(0,.box [.osl 5 3 (0) (b4.length),.v (.int .i64 c5)]),(2,.box [.ptr 0 0]),(3,.box [.sl 3 (enc I)]),(5,.arr 3 (enc b4))] 6 (.v (.bool true)) ?_ ?_
  . exact leA
  refine q13 ?_;simp only[go_sem];exact au
 refine q0n (q1f Q8 (q0o Q7 (q0h Q6 (q8 Q4 (sM ?_)))));refine q03 ?_;simp only[go_sem];refine q0s [some 4] [(0,.box [.osl 4 3 (0) (aj.length),.v (.int .i64 ar)]),(2,.box [.ptr 0 0]),(3,.box [.sl 3 (enc I)]),(4,.arr 3 (enc aj))] 5 (.v (.bool true)) ?_ ?_
 . exact leA
 refine q13 ?_;simp only[go_sem];exact au
def q6a(I:Int)(G:List (List a8)):Option (List a8):=
 (if (decide ((G.length:Int)<=I))=true then some ([]:List a8)
 else q9 (idx G I) (fun T=>
 q9 (qq9 T) (fun W=>
 some W)))
theorem z3i(I:Int)(G:List (List a8))(r:List a8)(h:q6a I G=some r):ba pp 113 [.v (.int .i64 I),.el 1 [[.sl 1 (enc G)]] 0 0] [] 0 (.osl 0 3 (0) (r.length)) [(0,.arr 3 (enc r))] 1:=by
 refine dtI Tryz.func113 rfl ?_;rw[q6a]at h;have F:=trivial;refine sM ?_;refine sg fun _ Q2=>?_;refine sM ?_;refine sB h (fun _ h=>?_) fun _ h=>?_
 . exact au
 refine y7 (q8 Q2 (sg fun _ Q5=>?_));obtain⟨T,F,h⟩:=bI F h;obtain⟨Z,W,h⟩:=w9 h;simp only[go_sem,F];refine ai ?_;refine q18 [] (z6p T Z W) ?_;simp only[go_sem];exact au
def q28(G:Bool):Option Bool:=
 (if G=true then some true
 else some false)
def qf2(G:Int):Option Bool:=
 (if (G==1)=true then q28 (G==1)
 else (if (G==2)=true then q28 (G==2)
 else (if (G==3)=true then q28 (G==3)
 else (if (G==4)=true then q28 (G==4)
 else (if (G==5)=true then q28 (G==5)
 else (if (G==10)=true then q28 (G==10)
 else (if (G==11)=true then q28 (G==11)
 else (if (G==12)=true then q28 (G==12)
 else (if (G==13)=true then q28 (G==13)
 else q28 (G==15))))))))))
instance jl8(G:Int):Ct pp 116 (qf2 G) [.v (.int .i64 G)] fun r=>(.v (.bool r)):=ctK Tryz.func116 rfl (by rw[qf2]) (by
 intro r h F;refine sM ?_;refine jg fun _ T=>?_;refine sM ?_;refine z8 fun _ W=>?_;refine q30 (fun (I:Bool)=>q28 I=some r) [] (fun I=>([(4,.v (.bool I))],[])) 0 ?_ ?_
 . intro _ Z;exact au
 rintro I h
 try dsimp only at h
 rw[q28]at h;exact au)
def q34(G:Bool)(T:Int)(W:List a8):Option ((List a8)×Bool):=
 (if (!G)=true then some (([]:List a8),false)
 else q9 (q64 (⟨W,T⟩:ax)) (fun I=>
 some (I.1,true)))
def z1v(aj:List a8)(I:Bool×Int×Int×(List a8)->Option ((List a8)×Bool)):Bool×Int×Int×(List a8)->Option ((List a8)×Bool):=
 fun (W,G,Z,a6)=>
 (if (decide (G<(aj.length:Int)))=true then q9 (idx aj G) (fun ak=>
 (if W=true then q9 (q1b (⟨a6,Z⟩:ax) ak.Rec 1) (fun T=>
 I (T.1,i64.wrap (G+1),T.2.many,T.2.out))
 else I (false,i64.wrap (G+1),Z,a6)))
 else q34 W Z a6)
def q9o(G:aH)(I:List (List a8)):Option ((List a8)×Bool):=
 q9 (q6a 0 I) (fun W=>
 q9 (q6a 1 I) (fun an=>
 (if (G.Kind==5)=true then q9 (q2s (⟨([]:List a8),0⟩:ax) G W) (fun T=>
 (if T.1=true then q9 (q2s T.2 G an) (fun Z=>
 q34 Z.1 Z.2.many Z.2.out)
 else q34 false T.2.many T.2.out))
 else q9 (qf2 G.Kind) (fun ao=>
 (if ao=true then q9 (q2s (⟨([]:List a8),0⟩:ax) G W) (fun a6=>
 q34 a6.1 a6.2.many a6.2.out)
 else (if (G.Kind==8)=true then d9 (z1v W) rounds (true,0,0,[])
 else (if (G.Kind==9)=true then q9 (q63 (⟨([]:List a8),0⟩:ax) W an) (fun aj=>
 q34 aj.1 aj.2.many aj.2.out)
 else (if (((G.Kind==7)||(G.Kind==6))||(G.Kind==14))=true then q9 (q4d (⟨([]:List a8),0⟩:ax) G.Kind W an) (fun ak=>
 q34 ak.1 ak.2.many ak.2.out)
 else q34 true 0 ([])))))))))
theorem zo6(G:aH)(I:List (List a8))(r:(List a8)×Bool)(h:q9o G I=some r):ba pp 91 [.agg (Row.row G),.sl 1 (enc I)] [] 0 (.tup [.osl 0 3 (0) (r.1.length),.v (.bool r.2)]) [(0,.arr 3 (enc r.1))] 1:=by
 refine dtI Tryz.func91 rfl ?_;rw[q9o]at h;have F:=trivial;refine sM ?_;refine sM ?_;refine sM ?_;refine sg fun _ Q4=>?_;obtain⟨T,b6,h⟩:=w9 h;simp only[go_sem];refine qm5 [2] ([(6,.clo 113 [.el 1 [[.sl 1 (enc I)]] 0 0]),(7,.ptr 1 0)],[(0,.box (Row.row G)),(1,.box [.v (.slice none 0 0),.v (.int .i64 0)])]) 2 [some 0,some 2] [.v (.int .i64 0),.el 1 [[.sl 1 (enc I)]] 0 0] ?_;refine q18 [] (z3i 0 I T b6) ?_;obtain⟨W,bi,h⟩:=w9 h;simp only[go_sem];refine q18 [] (z3i 1 I W bi) ?_;simp only[go_sem];refine q8 Q4 (sM ?_);refine q30 (fun ((ak,an,ao):Bool×Int×(List a8))=>q34 ak an ao=some r) [] (fun x=>([(7,.ptr 0 0),(10,.v (.bool x.1))],[(0,.box [.osl 1 3 (0) (x.2.2.length),.v (.int .i64 x.2.1)]),(1,.arr 3 (enc x.2.2))])) 2 ?_ ?_
 .
  intro _ cl;refine z8 fun _ cp=>?_;refine sM ?_;refine sB h (fun _ h=>?_) fun _ h=>?_
  .
   obtain⟨Z,aq,h⟩:=w9 h;simp only[go_sem];refine qm5 [2,7,10] ([(9,.osl 2 3 (0) (W.length))],[(0,.box (Row.row G)),(1,.box [.osl 3 3 (0) (Xi ([]:List a8)),.v (.int .i64 0)]),(2,.arr 3 (enc W)),(3,.arr 3 (enc ([]:List a8)))]) 4 [some 0,some 1,some 3,none] [.ptr 1 0,.agg (Row.row G),.sl 3 (enc T)] ?_;refine q18 [1,3] (q85 (⟨([]:List a8),0⟩:ax) G T Z aq) ?_;simp only[go_sem];rcases a6:Z.1 with _|_
   . replace h:=q1l h a6;simp only[go_sem,a6];exact au
   replace h:=q1k h a6;obtain⟨bs,ar,h⟩:=w9 h;simp only[go_sem,a6];refine qm5 [7,10,28] ([],[(0,.box (Row.row G)),(1,.box [.osl 2 3 (0) (Z.2.out.length),.v (.int .i64 Z.2.many)]),(2,.arr 3 (enc Z.2.out))]) 3 [some 0,some 1,some 4] [.ptr 1 0,.agg (Row.row G),.sl 3 (enc W)] ?_;refine q18 [1,2] (q85 Z.2 G W bs ar) ?_;simp only[go_sem];exact au
  refine sg fun _ c6=>?_;simp only[go_sem];refine q4n h fun cd h=>?_;simp only[go_sem];refine q8 c6 (sB h (fun _ h=>?_) fun _ h=>?_)
  . obtain⟨bv,b1,h⟩:=w9 h;simp only[go_sem];refine qm5 [7,10] ([],[(0,.box (Row.row G)),(1,.box [.osl 3 3 (0) (Xi ([]:List a8)),.v (.int .i64 0)]),(2,.arr 3 (enc W)),(3,.arr 3 (enc ([]:List a8)))]) 4 [some 0,some 1,some 3,none] [.ptr 1 0,.agg (Row.row G),.sl 3 (enc T)] ?_;refine q18 [1,3] (q85 (⟨([]:List a8),0⟩:ax) G T bv b1) ?_;simp only[go_sem];exact au
  refine sM ?_;refine sB h (fun _ h=>?_) fun _ h=>?_
  .
   refine sM ?_;refine z8 fun _ d0=>?_;refine q0e h [47] (fun x=>([(7,.ptr 0 0),(10,.v (.bool x.1)),(46,.osl 1 3 (0) (T.length)),(48,.v (.int .i64 x.2.1))],[(0,.box [.osl 2 3 (0) (x.2.2.2.length),.v (.int .i64 x.2.2.1)]),(1,.arr 3 (enc T)),(2,.arr 3 (enc x.2.2.2))])) 3 ?_;rintro d1 ⟨c0,c7,c8,c9⟩ h _ d2;rw[z1v]at h;refine sM ?_;refine sg fun _ cb=>?_;refine sB h (fun _ h=>?_) fun _ h=>?_
   .
    refine y7 (q8 cb (sg fun _ d3=>?_));refine z8 fun _ d4=>?_;refine sg fun _ cc=>?_;obtain⟨c1,F,h⟩:=bI F h;simp only[go_sem,F];refine ai ?_;refine q8 cc ?_;simp only[go_sem];rcases aj:c0 with _|_
    . replace h:=q1l h aj;simp only[go_sem,aj];exact au
    replace h:=q1k h aj;obtain⟨c2,b2,h⟩:=w9 h;simp only[go_sem,aj];refine q18 [0,2] (q3a (⟨c9,c8⟩:ax) c1.Rec 1 c2 b2) ?_;simp only[go_sem];exact au
   exact au
  refine sM ?_;refine sB h (fun _ h=>?_) fun _ h=>?_
  . obtain⟨c3,b3,h⟩:=w9 h;simp only[go_sem];refine qm5 [7,10] ([],[(0,.box (Row.row G)),(1,.box [.osl 2 3 (0) (Xi ([]:List a8)),.v (.int .i64 0)]),(2,.arr 3 (enc ([]:List a8)))]) 3 [some 0,some 1,none] [.ptr 1 0,.sl 3 (enc T),.sl 3 (enc W)] ?_;refine q18 [1,2] (z1t (⟨([]:List a8),0⟩:ax) T W c3 b3) ?_;simp only[go_sem];exact au
  refine sM ?_;refine sB h (fun _ h=>?_) fun _ h=>?_
  . obtain⟨c4,b4,h⟩:=w9 h;simp only[go_sem];refine qm5 [7,10] ([],[(0,.box (Row.row G)),(1,.box [.osl 2 3 (0) (Xi ([]:List a8)),.v (.int .i64 0)]),(2,.arr 3 (enc ([]:List a8)))]) 3 [some 0,some 1,none] [.ptr 1 0,.v (.int .i64 G.Kind),.sl 3 (enc T),.sl 3 (enc W)] ?_;refine q18 [1,2] (z0n (⟨([]:List a8),0⟩:ax) G.Kind T W c4 b4) ?_;simp only[go_sem];exact au
  exact au
 rintro⟨ak,an,ao⟩ h
 try dsimp only at h
 rw[q34]at h;refine sg fun _ Q6=>?_;refine sM ?_;refine sB h (fun _ h=>?_) fun _ h=>?_
 . exact au
 refine y7 (q8 Q6 (sg fun _ Q9=>?_));obtain⟨c5,b5,h⟩:=w9 h;simp only[go_sem];refine q18 [0,1] (z1u (⟨ao,an⟩:ax) c5 b5) ?_;simp only[go_sem];exact au
def qr2(G:Int)(T:Int):Option (Int×Int):=
 q9 (q2w G T) (fun I=>
 some (I.1,I.2))
instance j9h(G:Int)(I:Int):Ct pp 141 (qr2 G I) [.v (.int .u64 G),.v (.int .u64 I)] fun r=>(.tup [.v (.int .u64 r.1),.v (.int .u64 r.2)]):=ctI Tryz.func141 rfl (by rw[qr2];exact au1)
def qj6(T:Int×(List aP)->Option (List aP)):Int×(List aP)->Option (List aP):=
 fun (G,I)=>
 (if (decide (G<(I.length:Int)))=true then u7 (0<=G/\G<=(I.length:Int)/\(I.length:Int)<=(I.length:Int)) (
 u7 (0<=0/\0<=G/\G<=(I.length:Int)) (
 u7 (G.toNat+(I.length-G.toNat)<=I.length) (
 u7 (0+G.toNat<=I.length) (
 T (i64.wrap (G+((min (Xi (Xb (G.toNat) I)) ((I.length-G.toNat)):Nat):Int)),(Xb (I.length) (Xb (G.toNat) I++(Xb ((I.length-G.toNat)) (Xb (G.toNat) I))++Xq (G.toNat+Xi (Xb ((I.length-G.toNat)) (Xb (G.toNat) I))) I)))))))
 else some I)
def q9m(I:List aP)(G:Int×Int):Option (List aP):=
 u7 (0<=(i64.wrap G.2)/\(i64.wrap G.2)*16<=140737488355328) (
 u7 (0+(Xa (i64.wrap G.2))<=Xi (X0 (Xa (i64.wrap G.2)) (⟨0,0⟩:aP))) (
 d9 (qj6) rounds (((min (I.length) ((Xa (i64.wrap G.2))):Nat):Int),(Xb (Xa (i64.wrap G.2)) ((Xb ((Xa (i64.wrap G.2))) I)++Xq (Xi (Xb ((Xa (i64.wrap G.2))) I)) (X0 (Xa (i64.wrap G.2)) (⟨0,0⟩:aP)))))))
def q9n(I:List aP)(G:Int):Option (List aP):=
 q9 (qr2 (IntKind.u64.wrap (I.length:Int)) (IntKind.u64.wrap G)) (fun T=>
 (if ((decide (0<T.1))||(decide (9223372036854775807<T.2)))=true then none
 else q9m I T))
def q91(I:List aP)(G:Int):Option (List aP):=
 (if (decide (G<0))=true then none
 else q9n I G)
theorem z5s(I:List aP)(W:Int)(r:List aP)(h:q91 I W=some r):ba pp 121 [.sl 2 (enc I),.v (.int .i64 W)] [] 0 (.osl 0 2 (0) (r.length)) [(0,.arr 2 (enc r))] 1:=by
 refine dtI Tryz.func121 rfl ?_;rw[q91]at h;have F:=trivial;refine sM ?_;refine q30 (fun (_:Unit)=>q9n I W=some r) [0,1] (fun _=>([],[])) 0 ?_ ?_
 .
  intro _ aq;refine sM ?_;refine sB h (fun _ h=>?_) fun _ h=>?_
  . exact absurd h (by simp)
  exact au
 rintro⟨⟩ h
 try dsimp only at h
 rw[q9n]at h;refine sg fun _ Q2=>?_;simp only[go_sem];refine q4n h fun Z h=>?_;simp only[go_sem];refine q8 Q2 (q30 (fun (_:Unit)=>q9m I Z=some r) [0,6] (fun _=>([],[])) 0 ?_ ?_)
 .
  intro _ ar;refine sM ?_;refine sB h (fun _ h=>?_) fun _ h=>?_
  . exact absurd h (by simp)
  exact au
 rintro⟨⟩ h
 try dsimp only at h
 rw[q9m]at h;refine sg fun _ Q3=>?_;obtain⟨F,h⟩:=bG F h;have an:X0 (Xa (i64.wrap Z.2)) [.v (.int .i64 0),.v (.int .i64 0)]=enc (X0 (Xa (i64.wrap Z.2)) (⟨0,0⟩:aP)):=by (simp[enc,qq3,qi7,q6l,q45];exact .inr rfl)
 simp only[go_sem,F];simp only[an];refine q8 Q3 (sg fun _ Q4=>?_);obtain⟨ak,h⟩:=q06 h;have F:=Xc F ak;simp only[Xd]at ak;have aj:Xb (0) (enc (X0 (Xa (i64.wrap Z.2)) (⟨0,0⟩:aP)))++enc (Xb ((Xa (i64.wrap Z.2))) I)++Xq (0+Xi (Xb ((Xa (i64.wrap Z.2))) I)) (enc (X0 (Xa (i64.wrap Z.2)) (⟨0,0⟩:aP)))=enc ((Xb ((Xa (i64.wrap Z.2))) I)++Xq (Xi (Xb ((Xa (i64.wrap Z.2))) I)) (X0 (Xa (i64.wrap Z.2)) (⟨0,0⟩:aP))):=by simp[enc,List.map_take,List.map_drop]
 simp only[Xd,List.take_zero,Xo]at aj;simp only[go_sem,ak,aj];refine q8 Q4 (jg fun _ Q5=>?_);refine z8 fun _ Q6=>?_;refine q0e h [] (fun x=>([(7,.osl 0 2 (0) (x.2.length)),(8,.v (.int .i64 x.1))],[(0,.arr 2 (enc x.2))])) 1 ?_;rintro b1 ⟨G,T⟩ h _ Q7;rw[qj6]at h;refine sg fun _ Q8=>?_;refine sM ?_;refine sB h (fun _ h=>?_) fun _ h=>?_
 .
  refine y7 (q8 Q8 (z8 fun _ b2=>?_));refine q07 ?_;refine q2g 8 0 0 [0,0,0,6,0,0,48,126,255,511] [0] [0] [] [7] [] mixed (by kernel_rfl) (of_decide_eq_true (by kernel_rfl)) (by kernel_rfl) (by kernel_rfl) (by rfl) ?_;obtain⟨F,h⟩:=bG F h;obtain⟨F,h⟩:=bG F h;obtain⟨F,h⟩:=bG F h;obtain⟨a6,h⟩:=q06 h;have F:=Xc F a6;simp only[Xd]at a6;have ao:Xb (G.toNat) (enc T)++enc (Xb ((T.length-G.toNat)) (Xb (G.toNat) T))++Xq (G.toNat+Xi (Xb ((T.length-G.toNat)) (Xb (G.toNat) T))) (enc T)=enc (Xb (G.toNat) T++(Xb ((T.length-G.toNat)) (Xb (G.toNat) T))++Xq (G.toNat+Xi (Xb ((T.length-G.toNat)) (Xb (G.toNat) T))) T):=by simp[enc,List.map_take,List.map_drop]
  simp only[go_sem,a6,ao,F];exact au
 exact au
def qz5(Z:List a8)(T:Int×(List aP)->Option ((List aP)×Bool)):Int×(List aP)->Option ((List aP)×Bool):=
 fun (G,W)=>
 (if (decide (G<(Z.length:Int)))=true then q9 (idx Z G) (fun I=>
 q9 (q91 ([I.Rec]:List aP) I.N) (fun a6=>
 u7 ((W.length+a6.length)*16<=140737488355328) (
 T (i64.wrap (G+1),(W++a6)))))
 else some (W,true))
def qz4(G:List a8):Option ((List aP)×Bool):=
 d9 (qz5 G) rounds (0,[])
def z3h(W:List a8)(Z:Int×Int->Option ((List aP)×Bool)):Int×Int->Option ((List aP)×Bool):=
 fun (I,G)=>
 (if (decide (G<(W.length:Int)))=true then q9 (idx W G) (fun T=>
 (if (decide (65536<(i64.wrap (I+T.N))))=true then some (([]:List aP),false)
 else Z (i64.wrap (I+T.N),i64.wrap (G+1))))
 else qz4 W)
def z19(G:List a8):Option ((List aP)×Bool):=
 q9 (qq9 G) (fun I=>
 d9 (z3h I) rounds (0,0))
theorem zt6(Z:List a8)(r:(List aP)×Bool)(h:z19 Z=some r):ba pp 92 [.sl 3 (enc Z)] [] 0 (.tup [.osl 0 2 (0) (r.1.length),.v (.bool r.2)]) [(0,.arr 2 (enc r.1))] 1:=by
 refine dtI Tryz.func92 rfl ?_;rw[z19]at h;have F:=trivial;refine sM ?_;refine sg fun _ Q2=>?_;obtain⟨I,a6,h⟩:=w9 h;simp only[go_sem];refine q18 [] (z6p Z I a6) ?_;simp only[go_sem];refine q8 Q2 (sM ?_);refine q30 (fun (_:Unit)=>qz4 I=some r) [4] (fun _=>([],[(0,.arr 3 (enc I))])) 1 ?_ ?_
 . intro _ b3;refine sM ?_;refine z8 fun _ b4=>?_;refine q0e h [4,13,14] (fun x=>([(5,.v (.int .i64 x.1)),(15,.v (.int .i64 x.2))],[(0,.arr 3 (enc I))])) 1 ?_;rintro b5 ⟨b2,ao⟩ h _ b6;rw[z3h]at h;exact au
 rintro⟨⟩ h
 try dsimp only at h
 rw[qz4]at h;refine sM ?_;refine jg fun _ Q5=>?_;refine sM ?_;refine z8 fun _ Q7=>?_;refine q0e h [27] (fun x=>([(8,.osl 0 2 (0) (x.2.length)),(26,.osl 1 3 (0) (I.length)),(28,.v (.int .i64 x.1))],[(0,.arr 2 (enc x.2)),(1,.arr 3 (enc I))])) 2 ?_;rintro bi ⟨aq,T⟩ h _ Q8;rw[qz5]at h;refine sM ?_;refine sg fun _ ar=>?_;refine sB h (fun _ h=>?_) fun _ h=>?_
 .
  refine y7 (q8 ar (sg fun _ bs=>?_));refine z8 fun _ bv=>?_;refine sg fun _ b1=>?_;obtain⟨G,F,h⟩:=bI F h;simp only[go_sem,F];refine ai ?_;refine q8 b1 ?_;have aj:[[.v (.int .i64 G.Rec.K),.v (.int .i64 G.Rec.V)]]=enc ([G.Rec]:List aP):=by rfl
  obtain⟨W,ak,h⟩:=w9 h;simp only[go_sem];simp only[aj];refine qm5 [8,26,27,28,32] ([],[(0,.arr 2 (enc T)),(1,.arr 3 (enc I)),(2,.box (Row.row G))]) 3 [some 0,some 1,some 2] [.sl 2 (enc ([G.Rec]:List aP)),.v (.int .i64 G.N)] ?_;refine q18 [] (z5s ([G.Rec]:List aP) G.N W ak) ?_;obtain⟨F,h⟩:=bG F h;have an:enc T++enc W=enc (T++W):=by exact (q2x T W).symm
  simp only[go_sem,an,F];refine Xc (by (intros;simp_all;done)) ?_;exact au
 exact au
def qh1(G:Int):Option Int:=
 (if (G==0)=true then some 1048576
 else some 64)
instance zj2(G:Int):Ct pp 111 (qh1 G) [.v (.int .i64 G)] fun r=>(.v (.int .i64 r)):=ctI Tryz.func111 rfl (by rw[qh1];exact au1)
def qz2(I:ay)(W:Int->Option Bool):Int->Option Bool:=
 fun G=>
 (if (decide (G<4))=true then q9 (idx ([I.C.a0,I.C.a1,I.C.a2,I.C.a3]:List Int) G) (fun T=>
 (if (decide (T<0))=true then some false
 else (if (decide (G<I.D))=true then q9 (qh1 G) (fun Z=>
 (if ((decide (Z<T))||((decide (I.D<=G))&&(!(T==0))))=true then some false
 else W (i64.wrap (G+1))))
 else (if ((decide (I.D<=G))&&(!(T==0)))=true then some false
 else W (i64.wrap (G+1))))))
 else some true)
def q9l(G:ay):Option Bool:=
 (if ((decide (G.D<1))||(decide (4<G.D)))=true then some false
 else d9 (qz2 G) rounds 0)
instance zz3(T:ay):Ct pp 89 (q9l T) [.agg (Row.row T)] fun r=>(.v (.bool r)):=ctK Tryz.func89 rfl (by rw[q9l]) (by
 intro r h F;refine sM ?_;refine sg fun _ Q2=>?_;refine sM ?_;refine sB h (fun _ h=>?_) fun _ h=>?_
 . exact au
 refine y7 (q8 Q2 (jg fun _ Q5=>?_));refine sM ?_;refine z8 fun _ Q7=>?_;refine q0e h [1,14] (fun I=>([(15,.v (.int .i64 I))],[(0,.box (Row.row T))])) 1 ?_;rintro ao I h _ Q8;rw[qz2]at h;refine sM ?_;refine sg fun _ a6=>?_;refine sB h (fun _ h=>?_) fun _ h=>?_
 . refine y7 (q8 a6 (sg fun _ aq=>?_));refine z8 fun _ ar=>?_;refine sg fun _ b1=>?_;obtain⟨an,aj,h⟩:=w9 h;obtain⟨ak,W,Z,G⟩:=j20 (f:=(fun y=>AV.v (.int .i64 y))) aj;simp only[Xp,Xo,Xr,Xw,Xx,Xf,Xg,Xd,Xl,q45]at W Z G;simp only[go_sem,ak,W,Z,G];refine ai ?_;refine ai ?_;simp only[Xj,Xs,G,Xu,Xt,true_and];exact au
 exact au)
def z6n(G:ay)(I:ay):Option Bool:=
 q9 (q9l G) (fun T=>
 (if T=true then q9 (q9l I) (fun W=>
 some (W&&(G.D==I.D)))
 else some false))
instance jz8(G:ay)(I:ay):Ct pp 132 (z6n G I) [.agg (Row.row G),.agg (Row.row I)] fun r=>(.v (.bool r)):=ctI Tryz.func132 rfl (by rw[z6n];exact au1)
def z3w(I:ay)(T:ay)(W:Int->Option Bool):Int->Option Bool:=
 fun G=>
 (if (decide (G<4))=true then u7 (0<=G/\G<4) (
 q9 (idx ([I.C.a0,I.C.a1,I.C.a2,I.C.a3]:List Int) G) (fun Z=>
 u7 (0<=G/\G<4) (
 q9 (idx ([T.C.a0,T.C.a1,T.C.a2,T.C.a3]:List Int) G) (fun a6=>
 (if (decide (a6<Z))=true then some false
 else W (i64.wrap (G+1)))))))
 else some true)
def z8b(G:ay)(I:ay):Option Bool:=
 q9 (z6n G I) (fun T=>
 (if (!T)=true then some false
 else d9 (z3w G I) rounds 0))
instance j71(W:ay)(Z:ay):Ct pp 112 (z8b W Z) [.agg (Row.row W),.agg (Row.row Z)] fun r=>(.v (.bool r)):=ctK Tryz.func112 rfl (by rw[z8b]) (by
 intro r h F;refine sM ?_;refine sg fun _ Q2=>?_;refine sg fun _ Q3=>?_;simp only[go_sem];refine q4n h fun b5 h=>?_;simp only[go_sem];refine q8 Q3 (sB h (fun _ h=>?_) fun _ h=>?_)
 . exact au
 refine y7 (q8 Q2 (jg fun _ Q5=>?_));refine sM ?_;refine z8 fun _ Q7=>?_;refine q0e h [2,3] (fun T=>([(10,.v (.int .i64 T))],[(0,.box (Row.row W)),(1,.box (Row.row Z))])) 2 ?_;rintro b6 T h _ Q8;rw[z3w]at h;refine sM ?_;refine sg fun _ ao=>?_;refine sB h (fun _ h=>?_) fun _ h=>?_
 . refine y7 (q8 ao (sg fun _ bi=>?_));refine z8 fun _ bs=>?_;refine sM ?_;refine sg fun _ bv=>?_;refine q07 ?_;refine k1d ?_;obtain⟨F,h⟩:=bG F h;obtain⟨b3,aq,h⟩:=w9 h;obtain⟨ar,a6,aj,G⟩:=z1s (f:=(fun y=>AV.v (.int .i64 y))) [.v (.int .i64 W.D)] [] aq;simp only[Xp,Xo,Xr,Xw,Xx,Xf,Xg,Xd,Xl,q45]at a6 aj G;obtain⟨F,h⟩:=bG F h;obtain⟨b4,b1,h⟩:=w9 h;obtain⟨b2,ak,an,I⟩:=z1s (f:=(fun y=>AV.v (.int .i64 y))) [.v (.int .i64 Z.D)] [] b1;simp only[Xp,Xo,Xr,Xw,Xx,Xf,Xg,Xd,Xl,q45]at ak an I;simp only[go_sem,ar,a6,aj,G,b2,ak,an,I,F];refine ai ?_;refine ai ?_;simp only[Xj,Xs,G,Xu,Xt,true_and,Xj,Xs,I,Xu,Xt,true_and];exact au
 exact au)
def qw2(G:ay):Option (ay×Bool):=
 q9 (q9l G) (fun I=>
 (if ((!I)||(G.D==1))=true then some ((⟨0,(⟨0,0,0,0⟩:cv Int)⟩:ay),false)
 else u7 (0<=i64.wrap (G.D-1)/\i64.wrap (G.D-1)<4) (
 q9 (some (if Xa (i64.wrap (G.D-1))=0 then 0 else G.C.a0)) (fun T=>
 q9 (some (if Xa (i64.wrap (G.D-1))=1 then 0 else G.C.a1)) (fun W=>
 q9 (some (if Xa (i64.wrap (G.D-1))=2 then 0 else G.C.a2)) (fun Z=>
 q9 (some (if Xa (i64.wrap (G.D-1))=3 then 0 else G.C.a3)) (fun a6=>
 some ((⟨i64.wrap (G.D-1),(⟨T,W,Z,a6⟩:cv Int)⟩:ay),true))))))))
instance jv3(G:ay):Ct pp 55 (qw2 G) [.agg (Row.row G)] fun r=>(.tup [.agg (Row.row r.1),.v (.bool r.2)]):=ctK Tryz.func55 rfl (by rw[qw2]) (by
 intro r h F;refine sM ?_;refine sg fun _ Q2=>?_;refine sg fun _ Q3=>?_;simp only[go_sem];refine q4n h fun aq h=>?_;simp only[go_sem];refine q8 Q3 (sB h (fun _ h=>?_) fun _ h=>?_)
 . exact au
 refine y7 (q8 Q2 (sM ?_));refine sg fun _ Q6=>?_;obtain⟨F,h⟩:=bG F h;obtain⟨aj,T,h⟩:=w9 h;obtain⟨ak,W,h⟩:=w9 h;obtain⟨an,Z,h⟩:=w9 h;obtain⟨ao,a6,h⟩:=w9 h;have I:=zm0 (f:=(fun y=>AV.v (.int .i64 y))) [.v (.int .i64 (i64.wrap (G.D-1)))] [] [G.C.a0,G.C.a1,G.C.a2,G.C.a3] [aj,ak,an,ao] (Xa (i64.wrap (G.D-1))) 0 (by simp only[Xf,Xg];omega) (by simp only[X6,X7,Xd,Xl,Xe T,Xe W,Xe Z,Xe a6]);simp only[Xp,Xo,Xr,Xw,Xx,Xf,Xg,Xd,Xl,q81,X8,X5,q45]at I;simp only[go_sem,I,Xs,F];refine ai ?_;exact au)
def qw3(G:ay):Option (ay×Bool):=
 q9 (q9l G) (fun I=>
 (if ((!I)||(G.D==4))=true then some ((⟨0,(⟨0,0,0,0⟩:cv Int)⟩:ay),false)
 else some ((⟨i64.wrap (G.D+1),G.C⟩:ay),true)))
instance jv4(G:ay):Ct pp 87 (qw3 G) [.agg (Row.row G)] fun r=>(.tup [.agg (Row.row r.1),.v (.bool r.2)]):=ctI Tryz.func87 rfl (by rw[qw3];exact au1)
def z0j(G:ay):Option (ay×Bool):=
 q9 (q9l G) (fun W=>
 (if W=true then u7 (0<=i64.wrap (G.D-1)/\i64.wrap (G.D-1)<4) (
 q9 (idx ([G.C.a0,G.C.a1,G.C.a2,G.C.a3]:List Int) (i64.wrap (G.D-1))) (fun T=>
 q9 (qh1 (i64.wrap (G.D-1))) (fun Z=>
 (if (T==Z)=true then some ((⟨0,(⟨0,0,0,0⟩:cv Int)⟩:ay),false)
 else u7 (0<=i64.wrap (G.D-1)/\i64.wrap (G.D-1)<4) (
 q9 (idx ([G.C.a0,G.C.a1,G.C.a2,G.C.a3]:List Int) (i64.wrap (G.D-1))) (fun I=>
 u7 (0<=i64.wrap (G.D-1)/\i64.wrap (G.D-1)<4) (
 q9 (some (if Xa (i64.wrap (G.D-1))=0 then i64.wrap (I+1)else G.C.a0)) (fun a6=>
 q9 (some (if Xa (i64.wrap (G.D-1))=1 then i64.wrap (I+1)else G.C.a1)) (fun aj=>
 q9 (some (if Xa (i64.wrap (G.D-1))=2 then i64.wrap (I+1)else G.C.a2)) (fun ak=>
 q9 (some (if Xa (i64.wrap (G.D-1))=3 then i64.wrap (I+1)else G.C.a3)) (fun an=>
 some ((⟨G.D,(⟨a6,aj,ak,an⟩:cv Int)⟩:ay),true))))))))))))
 else some ((⟨0,(⟨0,0,0,0⟩:cv Int)⟩:ay),false)))
instance jz9(I:ay):Ct pp 88 (z0j I) [.agg (Row.row I)] fun r=>(.tup [.agg (Row.row r.1),.v (.bool r.2)]):=ctK Tryz.func88 rfl (by rw[z0j]) (by
 intro r h F;refine sM ?_;refine sg fun _ Q2=>?_;refine sg fun _ Q3=>?_;refine q07 ?_;refine k1d ?_;obtain⟨ak,an,h⟩:=w9 h;simp only[go_sem];refine br (fun _=>(zz3 I ak an)) (by rfl) (by rfl) ?_;simp only[go_sem];rcases W:ak with _|_
 . replace h:=q1l h W;simp only[go_sem,W];exact au
 replace h:=q1k h W;obtain⟨F,h⟩:=bG F h;obtain⟨c5,bi,h⟩:=w9 h;obtain⟨bs,ao,aq,T⟩:=z1s (f:=(fun y=>AV.v (.int .i64 y))) [.v (.int .i64 I.D)] [] bi;simp only[Xp,Xo,Xr,Xw,Xx,Xf,Xg,Xd,Xl,q45]at ao aq T;obtain⟨bv,ar,h⟩:=w9 h;simp only[go_sem,W,bs,ao,aq,T,F];refine ai ?_;simp only[Xj,Xs,T,Xu,Xt,true_and];refine br (fun _=>(zj2 (i64.wrap (I.D-1)) bv ar)) (by rfl) (by rfl) ?_;simp only[go_sem];refine q8 Q3 (sB h (fun _ h=>?_) fun _ h=>?_)
 . exact au
 refine y7 (q8 Q2 (sg fun _ Q6=>?_));obtain⟨F,h⟩:=bG F h;obtain⟨b1,c0,h⟩:=w9 h;obtain⟨b2,a6,aj,G⟩:=z1s (f:=(fun y=>AV.v (.int .i64 y))) [.v (.int .i64 I.D)] [] c0;simp only[Xp,Xo,Xr,Xw,Xx,Xf,Xg,Xd,Xl,q45]at a6 aj G;obtain⟨F,h⟩:=bG F h;obtain⟨c1,b3,h⟩:=w9 h;obtain⟨c2,b4,h⟩:=w9 h;obtain⟨c3,b5,h⟩:=w9 h;obtain⟨c4,b6,h⟩:=w9 h;have Z:=zm0 (f:=(fun y=>AV.v (.int .i64 y))) [.v (.int .i64 I.D)] [] [I.C.a0,I.C.a1,I.C.a2,I.C.a3] [c1,c2,c3,c4] (Xa (i64.wrap (I.D-1))) (i64.wrap (b1+1)) (by simp only[Xf,Xg];omega) (by simp only[X6,X7,Xd,Xl,Xe b3,Xe b4,Xe b5,Xe b6]);simp only[Xp,Xo,Xr,Xw,Xx,Xf,Xg,Xd,Xl,q81,X8,X5,q45]at Z;simp only[go_sem,b2,a6,aj,G,Z,Xs,F];simp only[Xj,Xs,G,Xu,Xt,true_and];simp only[go_sem,b2,a6,aj,G,Z,Xs,Xj,Xs,G,Xu,Xt,true_and,F];refine ai ?_;exact au)
def q3j(I:a7)(T:Int)(G:Int)(Z:ay)(a6:List a8):Option a7:=
 (if ((a6.length:Int)==0)=true then some I
 else (qz6 (q3e I.ins.1 ((⟨T,Z⟩:ah))) (u7 (Key.okb ((⟨T,Z⟩:ah))=true) (
 u7 (0<=G/\G<2) (
 q9 (idx ([([]:List a8),([]:List a8)]:List (List a8)) G) (fun aj=>
 q9 (q5g aj a6) (fun ak=>
 u7 (0<=G/\G<2) (
 q9 (some (if G.toNat=0 then ak else ([]:List a8))) (fun ar=>
 q9 (some (if G.toNat=1 then ak else ([]:List a8))) (fun b1=>
 some (⟨I.g,(Xm (I.ins.1++[(⟨T,Z⟩:ah)]) (Xh (I.ins.2++[(⟨([]:List a8),([]:List a8)⟩:bA (List a8))]) (I.ins.1.length) (⟨ar,b1⟩:bA (List a8)))),I.aK,I.aJ,I.work,I.aB,I.outs,I.e⟩:a7)))))))))
 (fun an=>q9 (atK I.ins.2 an) (fun W=>
 u7 (0<=G/\G<2) (
 q9 (idx ([W.a0,W.a1]:List (List a8)) G) (fun ao=>
 q9 (q5g ao a6) (fun aq=>
 u7 (0<=G/\G<2) (
 q9 (some (if G.toNat=0 then aq else W.a0)) (fun b2=>
 q9 (some (if G.toNat=1 then aq else W.a1)) (fun b3=>
 some (⟨I.g,(Xm I.ins.1 (Xh I.ins.2 an (⟨b2,b3⟩:bA (List a8)))),I.aK,I.aJ,I.work,I.aB,I.outs,I.e⟩:a7)))))))))))
theorem qi4(G:a7)(T:Int)(a6:Int)(I:ay)(b3:List a8)(r:a7)(h:q3j G T a6 I b3=some r):ba pp 22 [.ptr 0 0,.v (.int .i64 T),.v (.int .i64 a6),.agg (Row.row I),.sl 3 (enc b3)] [(0,.box [.sl 1 (enc G.g.af),.sl 1 (enc G.g.aG),.sl 4 (enc G.g.ae),.sl 4 (enc G.g.aw),.mp 1,.mp 2,.mp 3,.v (.int .i64 G.work),.v (.int .i64 G.aB),.osl 4 4 (0) (G.outs.length),.v (.int .i64 G.e)]),(1,.con (p9 pp 103 0 (q00 G.ins.1) (enc G.ins.2) none) []),(2,.con (p9 pp 3 1 (q00 G.aK.1) (enc G.aK.2) none) []),(3,.con (p9 pp 103 2 (q00 G.aJ.1) (enc G.aJ.2) none) []),(4,.arr 4 (enc G.outs))] 5 (.tup []) [(0,.box [.sl 1 (enc r.g.af),.sl 1 (enc r.g.aG),.sl 4 (enc r.g.ae),.sl 4 (enc r.g.aw),.mp 1,.mp 2,.mp 3,.v (.int .i64 r.work),.v (.int .i64 r.aB),.osl 5 4 (0) (r.outs.length),.v (.int .i64 r.e)]),(1,.con (p9 pp 103 0 (q00 r.ins.1) (enc r.ins.2) none) []),(2,.con (p9 pp 3 1 (q00 r.aK.1) (enc r.aK.2) none) []),(3,.con (p9 pp 103 2 (q00 r.aJ.1) (enc r.aJ.2) none) []),(5,.arr 4 (enc r.outs))] 6:=by
 unfold ba;refine Spec.of_wp Tryz.func22 rfl (by kernel_rfl) (by kernel_rfl) ?_;rw[q3j]at h;refine sgW fun _ Q1=>?_;refine wv ?_;simp only[go_sem];refine y8 Q1 ?_;refine sgW fun _ Q2=>?_;refine sgW fun _ Q3=>?_;refine wv ?_;simp only[go_sem];refine y8 Q3 ?_;refine q4m (b:=((b3.length:Int)==0)) (by (simp only[go_sem];done)) (fun ak=>?_) (fun ak=>?_)
 .
  replace h:=q1k h ak;simp only[bool_to_prop]at ak;refine wv ?_;refine q03 (qz8 Q2 ?_);simp only[go_sem];obtain rfl:=Xe h;refine q2b [some 4] ?_;simp only[go_sem,Le]<;>(repeat' apply Xc)<;>(try with_reducible refine q04 ?_)<;>first|omega|(simp[go_sem];done)
 replace h:=q1l h ak;simp only[bool_to_prop]at ak;refine wv ?_;refine y7 (y8 Q2 ?_);refine sgW fun _ Q4=>?_;refine wv ?_;simp only[go_sem];refine y8 Q4 ?_;refine sgW fun _ Q5=>?_;refine sgW fun _ Q6=>?_;refine qj9 h (fun b4 h=>?_) (fun b2 b4 h=>?_)
 .
  obtain⟨d8,h⟩:=q06 h;have b6:¬(Value.agg ⟨[.int .i64 T,.int .i64 I.D,.int .i64 I.C.a0,.int .i64 I.C.a1,.int .i64 I.C.a2,.int .i64 I.C.a3]⟩)∈q00 G.ins.1:=qu4 b4;have bi:∃l,keyOf pp 103 (Value.agg ⟨[.int .i64 T,.int .i64 I.D,.int .i64 I.C.a0,.int .i64 I.C.a1,.int .i64 I.C.a2,.int .i64 I.C.a3]⟩)=some l:=z5b ((⟨T,I⟩:ah)) d8;refine qc0 ?_;refine wv ?_;refine q07 ?_;refine k1d ?_;simp only[go_sem,q42,b6,bi];refine q2y ?_;refine y8 Q6 ?_;refine j57 (by (simp only[go_sem];done)) ?_;refine qc0 ?_;refine wv ?_;refine q07 ?_;refine q2g 7 0 0 [0,1,3,7,0,0,32,127] [7] [0,1,2,3,4] [] [6] [] mixed (by kernel_rfl) (of_decide_eq_true (by kernel_rfl)) (by kernel_rfl) (by kernel_rfl) (by rfl) ?_;simp only[go_sem];refine z3p [.sl 3 (enc ([]:List a8)),.sl 3 (enc ([]:List a8))] ?_ rfl trivial trivial trivial rfl rfl zq9 q42 rfl bi b6;have c0:q00 G.ins.1++[(Value.agg ⟨[.int .i64 T,.int .i64 I.D,.int .i64 I.C.a0,.int .i64 I.C.a1,.int .i64 I.C.a2,.int .i64 I.C.a3]⟩)]=q00 (G.ins.1++[(⟨T,I⟩:ah)]):=z5p G.ins.1 (⟨T,I⟩:ah);have c1:enc G.ins.2++[[.sl 3 (enc ([]:List a8)),.sl 3 (enc ([]:List a8))]]=enc (G.ins.2++[(⟨([]:List a8),([]:List a8)⟩:bA (List a8))]):=(q2x G.ins.2 [(⟨([]:List a8),([]:List a8)⟩:bA (List a8))]).symm;have aj:(q00 (G.ins.1++[(⟨T,I⟩:ah)]))[G.ins.1.length]?=some (Value.agg ⟨[.int .i64 T,.int .i64 I.D,.int .i64 I.C.a0,.int .i64 I.C.a1,.int .i64 I.C.a2,.int .i64 I.C.a3]⟩):=z6s G.ins.1 (⟨T,I⟩:ah);rw[c0,c1,z5o];simp only[go_sem];refine qb5 (fun _ _ _ _ H=>H.dw (id:=7) [.sl 3 (enc ([]:List a8)),.sl 3 (enc ([]:List a8))] rfl ⟨.inr ⟨rfl,_,rfl⟩,.inr ⟨rfl,_,rfl⟩,trivial⟩) ?_;refine q2y ?_
  refine y8 Q5 ?_;refine qc0 ?_;refine wv ?_;refine q07 ?_;refine k1d ?_;obtain⟨c6,h⟩:=q06 h;obtain⟨c7,dc,h⟩:=w9 h;obtain⟨c8,c2,c3,W⟩:=z1s (f:=(fun y=>AV.sl 3 (enc y))) [] [] dc;simp only[Xp,Xo,Xr,Xw,Xx,Xf,Xg,Xd,Xl,q45]at c2 c3 W;obtain⟨c9,cb,h⟩:=w9 h;simp only[go_sem,q42,aj,q42,aj,c6,c8,c2,c3,W];refine Xc (by first|omega|(intros;simp_all;done)) ?_;refine Xc (by first|omega|(intros;simp_all;done)) ?_;simp only[Xj,Xs,W,Xu,Xt,true_and];simp only[go_sem,q42,aj,q42,aj,c6,c8,c2,c3,W,Xj,Xs,W,Xu,Xt,true_and];refine br (fun _=>(z9r c7 b3 c9 cb)) (by rfl) (by rfl) ?_;obtain⟨dd,h⟩:=q06 h;obtain⟨ao,cc,h⟩:=w9 h;obtain⟨aq,cd,h⟩:=w9 h;have bs:=zm0 (f:=(fun y=>AV.sl 3 (enc y))) [] [] [([]:List a8),([]:List a8)] [ao,aq] (a6.toNat) c9 (by simp only[Xf,Xg];omega) (by simp only[X6,X7,Xd,Xl,Xe cc,Xe cd]);simp only[Xp,Xo,Xr,Xw,Xx,Xf,Xg,Xd,Xl,q81,X8,X5,q45]at bs;simp only[go_sem,dd,bs,Xs];refine Xc (by omega) ?_
  have cl:enc (Xh (G.ins.2++[(⟨([]:List a8),([]:List a8)⟩:bA (List a8))]) (G.ins.1.length) (⟨ao,aq⟩:bA (List a8)))=(enc (G.ins.2++[(⟨([]:List a8),([]:List a8)⟩:bA (List a8))])).set (G.ins.1.length) [.sl 3 (enc ao),.sl 3 (enc aq)]:=qf4 (G.ins.2++[(⟨([]:List a8),([]:List a8)⟩:bA (List a8))]) (G.ins.1.length) (⟨ao,aq⟩:bA (List a8));refine qb5 (fun _ _ _ _ H=>H.bW (id:=1) (id2:=7) (r:=[.sl 3 (enc ao),.sl 3 (enc aq)]) [.sl 3 (enc ao),.sl 3 (enc aq)] rfl rfl rfl ⟨.inl rfl,.inl rfl,trivial⟩ (R':=enc (Xh (G.ins.2++[(⟨([]:List a8),([]:List a8)⟩:bA (List a8))]) (G.ins.1.length) (⟨ao,aq⟩:bA (List a8)))) cl) ?_;refine q2y ?_;simp only[go_sem];obtain rfl:=Xe h;refine q2b [some 4] ?_;simp only[go_sem,Le]<;>(repeat' apply Xc)<;>(try with_reducible refine q04 ?_)<;>first|omega|(simp[go_sem];done)
 obtain⟨b5,cp,h⟩:=w9 h;have an:(q00 G.ins.1)[b2]?=some (Value.agg ⟨[.int .i64 T,.int .i64 I.D,.int .i64 I.C.a0,.int .i64 I.C.a1,.int .i64 I.C.a2,.int .i64 I.C.a3]⟩):=qu3 b4;refine reW (fun _ _ _ _ H=>H.cX (id:=1) (i:=b2) (r:=[.sl 3 (enc b5.a0),.sl 3 (enc b5.a1)]) rfl (z5n cp)) ?_;refine qc0 ?_;refine wv ?_;refine q07 ?_;refine k1d ?_;simp only[go_sem,q42,an];refine q2y ?_;refine y8 Q6 ?_;refine jt3 (by (simp only[go_sem];done)) ?_;refine wv ?_;refine y7 (y8 Q5 ?_);refine qc0 ?_;refine wv ?_;refine q07 ?_;refine k1d ?_;obtain⟨d0,h⟩:=q06 h;obtain⟨d1,dk,h⟩:=w9 h;obtain⟨d2,c4,c5,Z⟩:=z1s (f:=(fun y=>AV.sl 3 (enc y))) [] [] dk;simp only[Xp,Xo,Xr,Xw,Xx,Xf,Xg,Xd,Xl,q45]at c4 c5 Z;obtain⟨d3,d4,h⟩:=w9 h;simp only[go_sem,q42,an,q42,an,d0,d2,c4,c5,Z];refine Xc (by first|omega|(intros;simp_all;done)) ?_;refine Xc (by first|omega|(intros;simp_all;done)) ?_;simp only[Xj,Xs,Z,Xu,Xt,true_and];simp only[go_sem,q42,an,q42,an,d0,d2,c4,c5,Z,Xj,Xs,Z,Xu,Xt,true_and];refine br (fun _=>(z9r d1 b3 d3 d4)) (by rfl) (by rfl) ?_;obtain⟨ds,h⟩:=q06 h;obtain⟨ar,d5,h⟩:=w9 h;obtain⟨b1,d6,h⟩:=w9 h;have bv:=zm0 (f:=(fun y=>AV.sl 3 (enc y))) [] [] [b5.a0,b5.a1] [ar,b1] (a6.toNat) d3 (by simp only[Xf,Xg];omega) (by simp only[X6,X7,Xd,Xl,Xe d5,Xe d6])
 simp only[Xp,Xo,Xr,Xw,Xx,Xf,Xg,Xd,Xl,q81,X8,X5,q45]at bv;simp only[go_sem,ds,bv,Xs];refine Xc (by omega) ?_;have d7:enc (Xh G.ins.2 b2 (⟨ar,b1⟩:bA (List a8)))=(enc G.ins.2).set b2 [.sl 3 (enc ar),.sl 3 (enc b1)]:=qf4 G.ins.2 b2 (⟨ar,b1⟩:bA (List a8));refine qb5 (fun _ _ _ _ H=>H.bW (id:=1) (id2:=7) (r:=[.sl 3 (enc ar),.sl 3 (enc b1)]) [.sl 3 (enc ar),.sl 3 (enc b1)] rfl rfl rfl ⟨.inl rfl,.inl rfl,trivial⟩ (R':=enc (Xh G.ins.2 b2 (⟨ar,b1⟩:bA (List a8)))) d7) ?_;refine q2y ?_;simp only[go_sem];obtain rfl:=Xe h;refine q2b [some 4] ?_;simp only[go_sem,Le]<;>(repeat' apply Xc)<;>(try with_reducible refine q04 ?_)<;>first|omega|(simp[go_sem];done)
def z1w(W:List a8)(T:Int×Int->Option Int):Int×Int->Option Int:=
 fun (I,G)=>
 (if (decide (G<(W.length:Int)))=true then q9 (idx W G) (fun Z=>
 T (i64.wrap (I+Z.N),i64.wrap (G+1)))
 else some I)
def qy6(G:List a8):Option Int:=
 d9 (z1w G) rounds (0,0)
instance zt4(G:List a8):Ct pp 94 (qy6 G) [.sl 3 (enc G)] fun r=>(.v (.int .i64 r)):=ctK Tryz.func94 rfl (by rw[qy6]) (by
 intro r h F;refine sM ?_;refine sM ?_;refine jg fun _ Z=>?_;refine sM ?_;refine z8 fun _ Q5=>?_;refine q0e h [6,7] (fun x=>([(3,.v (.int .i64 x.1)),(8,.v (.int .i64 x.2))],[])) 0 ?_;rintro W ⟨I,T⟩ h _ Q6;rw[z1w]at h;exact au)
def q4k(G:a7)(I:Unit->Option ((List a8)×a7)):Unit->Option ((List a8)×a7):=
 fun _=>
 (if (decide (0<0))=true then none
 else some (([]:List a8),G))
def q37(T:a7)(a6:Int)(aq:ay)(aj:List aF)(I:Int×(List a8)->Option ((List a8)×a7)):Int×(List a8)->Option ((List a8)×a7):=
 fun (G,Z)=>
 (if (decide (G<(aj.length:Int)))=true then q9 (idx aj G) (fun W=>
 q9 (z8b W.Time aq) (fun ar=>
 (if ar=true then (qz6 (q3e T.aJ.1 ((⟨a6,W.Time⟩:ah))) (u7 (Key.okb ((⟨a6,W.Time⟩:ah))=true) (
 q9 (q5g Z ([]:List a8)) (fun ak=>
 I (i64.wrap (G+1),ak))))
 (fun b1=>q9 (atK T.aJ.2 b1) (fun an=>
 q9 (q5g Z an) (fun ao=>
 I (i64.wrap (G+1),ao)))))
 else I (i64.wrap (G+1),Z))))
 else some (Z,T))
def q14(G:a7)(I:Int)(T:ay):Option ((List a8)×a7):=
 (qz6 (q3e G.aK.1 I) (u7 (Key.okb I=true) (
 d9 (q4k G) rounds ()))
 (fun W=>q9 (atK G.aK.2 W) (fun Z=>
 d9 (q37 G I T Z) rounds (0,[]))))
theorem q49(G:a7)(T:Int)(aj:ay)(r:(List a8)×a7)(h:q14 G T aj=some r):ba pp 90 [.ptr 0 0,.v (.int .i64 T),.agg (Row.row aj)] [(0,.box [.sl 1 (enc G.g.af),.sl 1 (enc G.g.aG),.sl 4 (enc G.g.ae),.sl 4 (enc G.g.aw),.mp 1,.mp 2,.mp 3,.v (.int .i64 G.work),.v (.int .i64 G.aB),.osl 4 4 (0) (G.outs.length),.v (.int .i64 G.e)]),(1,.con (p9 pp 103 0 (q00 G.ins.1) (enc G.ins.2) none) []),(2,.con (p9 pp 3 1 (q00 G.aK.1) (enc G.aK.2) none) []),(3,.con (p9 pp 103 2 (q00 G.aJ.1) (enc G.aJ.2) none) []),(4,.arr 4 (enc G.outs))] 5 (.osl 5 3 (0) (r.1.length)) [(0,.box [.sl 1 (enc r.2.g.af),.sl 1 (enc r.2.g.aG),.sl 4 (enc r.2.g.ae),.sl 4 (enc r.2.g.aw),.mp 1,.mp 2,.mp 3,.v (.int .i64 r.2.work),.v (.int .i64 r.2.aB),.osl 6 4 (0) (r.2.outs.length),.v (.int .i64 r.2.e)]),(1,.con (p9 pp 103 0 (q00 r.2.ins.1) (enc r.2.ins.2) none) []),(2,.con (p9 pp 3 1 (q00 r.2.aK.1) (enc r.2.aK.2) none) []),(3,.con (p9 pp 103 2 (q00 r.2.aJ.1) (enc r.2.aJ.2) none) []),(5,.arr 3 (enc r.1)),(6,.arr 4 (enc r.2.outs))] 7:=by
 unfold ba;refine Spec.of_wp Tryz.func90 rfl (by kernel_rfl) (by kernel_rfl) ?_;rw[q14]at h;refine sgW fun _ Q1=>?_;refine wv ?_;simp only[go_sem];refine y8 Q1 ?_;refine sgW fun _ Q2=>?_;refine wv ?_;simp only[go_sem];refine y8 Q2 ?_;refine sgW fun _ Q3=>?_;refine sgW fun _ Q4=>?_;refine qj9 h (fun ar h=>?_) (fun aq ar h=>?_)
 .
  obtain⟨d0,h⟩:=q06 h;have c4:¬(Value.int .i64 T)∈q00 G.aK.1:=qu4 ar;have c5:∃l,keyOf pp 3 (Value.int .i64 T)=some l:=j94 T d0;refine qc0 ?_;refine wv ?_;simp only[go_sem,z88,c4,c5];refine q2y ?_;refine y8 Q4 ?_;refine qq2 fun _ Q5=>?_;refine ze1 (ι:=Nat×Unit) (fun ((_,_):Nat×Unit)=>(⟨5,[(0,.ptr 0 0),(1,.v (.int .i64 T)),(5,.ptr 5 0),(7,.v (.slice none 0 0)),(15,.v (.slice none 0 0)),(16,.v (.int .i64 0)),(17,.v (.int .i64 0))],[(0,.box [.sl 1 (enc G.g.af),.sl 1 (enc G.g.aG),.sl 4 (enc G.g.ae),.sl 4 (enc G.g.aw),.mp 1,.mp 2,.mp 3,.v (.int .i64 G.work),.v (.int .i64 G.aB),.osl 4 4 (0) (G.outs.length),.v (.int .i64 G.e)]),(1,.con (p9 pp 103 0 (q00 G.ins.1) (enc G.ins.2) none) []),(2,.con (p9 pp 3 1 (q00 G.aK.1) (enc G.aK.2) none) []),(3,.con (p9 pp 103 2 (q00 G.aJ.1) (enc G.aJ.2) none) []),(4,.arr 4 (enc G.outs)),(5,.box (Row.row aj))],6,38⟩:St)) (fun ((n_,u_):Nat×Unit)=>d9 (q4k G) n_ u_=some r) (fun p=>p.1) (rounds,()) [some 5] ?_ h ?_
  . simp only[go_sem,Le]<;>(repeat' apply Xc)<;>(try with_reducible refine q04 ?_)<;>first|omega|(simp[go_sem];done)
  rintro⟨ds,_⟩ h _ Q6
  dsimp only at h;replace h:=qc8 h;obtain⟨dI,rfl,h⟩:=h;rw[q4k]at h;refine sgW fun _ Q7=>?_;refine wv ?_;simp only[go_sem];refine y8 Q7 ?_;refine sgW fun _ Q8=>?_;refine q4m (b:=(decide (0<0))) (by (simp only[go_sem];done)) (fun ak=>?_) (fun ak=>?_)
  .
   replace h:=q1k h ak;simp only[bool_to_prop]at ak;refine wv ?_;refine y7 (y8 Q8 ?_);refine sgW fun _ Q9=>?_;refine qq2 fun _ dJ=>?_;refine sgW fun _ dK=>?_;refine wv ?_;exact absurd h (by simp)
  replace h:=q1l h ak;simp only[bool_to_prop]at ak;refine wv ?_;refine q0n (z07 Q8 ?_);refine q0o Q6 (q0h Q5 (y8 Q3 ?_));refine sgW fun _ d1=>?_;refine wv ?_;simp only[go_sem];refine y8 d1 ?_;refine wv ?_;refine q03 ?_;simp only[go_sem];obtain rfl:=Xe h;refine q2b [none,some 4] ?_;simp only[go_sem,Le]<;>(repeat' apply Xc)<;>(try with_reducible refine q04 ?_)<;>first|omega|(simp[go_sem];done)
 obtain⟨Z,b6,h⟩:=w9 h;have c6:(q00 G.aK.1)[aq]?=some (Value.int .i64 T):=qu3 ar;refine reW (fun _ _ _ _ H=>H.cZ (id:=2) (i:=aq) (isz:=6) (xs:=enc Z) rfl (z5n b6)) ?_;simp only[q17];refine qc0 ?_;refine wv ?_;simp only[go_sem,z88,c6];refine q2y ?_;refine y8 Q4 ?_;refine qq2 fun _ d2=>?_;refine ze1 (ι:=Nat×Int×(List a8)) (fun ((_,W,a6):Nat×Int×(List a8))=>(⟨5,[(0,.ptr 0 0),(1,.v (.int .i64 T)),(5,.ptr 5 0),(7,.osl 6 3 (0) (a6.length)),(15,.osl 7 6 (0) (Z.length)),(16,.v (.int .i64 (Z.length:Int))),(17,.v (.int .i64 W))],[(0,.box [.sl 1 (enc G.g.af),.sl 1 (enc G.g.aG),.sl 4 (enc G.g.ae),.sl 4 (enc G.g.aw),.mp 1,.mp 2,.mp 3,.v (.int .i64 G.work),.v (.int .i64 G.aB),.osl 4 4 (0) (G.outs.length),.v (.int .i64 G.e)]),(1,.con (p9 pp 103 0 (q00 G.ins.1) (enc G.ins.2) none) []),(2,.con (p9 pp 3 1 (q00 G.aK.1) (enc G.aK.2) (some aq)) [.osl 7 6 (0) (Z.length)]),(3,.con (p9 pp 103 2 (q00 G.aJ.1) (enc G.aJ.2) none) []),(4,.arr 4 (enc G.outs)),(5,.box (Row.row aj)),(6,.arr 3 (enc a6)),(7,.arr 6 (enc Z))],8,38⟩:St)) (fun ((n_,W,a6):Nat×Int×(List a8))=>d9 (q37 G T aj Z) n_ (W,a6)=some r) (fun p=>p.1) (rounds,0,[]) [some 5,none,some 6] ?_ h ?_
 . simp only[go_sem,Le]<;>(repeat' apply Xc)<;>(try with_reducible refine q04 ?_)<;>first|omega|(simp[go_sem];done)
 rintro⟨dL,W,a6⟩ h _ b4
 dsimp only at h;replace h:=qc8 h;obtain⟨bv,rfl,h⟩:=h;rw[q37]at h;refine sgW fun _ d3=>?_;refine wv ?_;simp only[go_sem];refine y8 d3 ?_;refine sgW fun _ c7=>?_;refine q4m (b:=(decide (W<(Z.length:Int)))) (by (simp only[go_sem];done)) (fun an=>?_) (fun an=>?_)
 .
  replace h:=q1k h an;simp only[bool_to_prop]at an;refine wv ?_;refine y7 (y8 c7 ?_);refine sgW fun _ c0=>?_;refine qq2 fun _ c1=>?_;refine sgW fun _ d4=>?_;refine wv ?_;obtain⟨I,d5,h⟩:=w9 h;obtain⟨d6,d7,d8⟩:=q83 d5;simp only[go_sem,d6,d7,d8];refine Xc (by omega) ?_;refine y8 d4 ?_;refine sgW fun _ dc=>?_;refine wv ?_;obtain⟨c8,c9,h⟩:=w9 h;simp only[go_sem];refine qk7 (j71 I.Time aj c8 c9) (by rfl) (by rfl) ?_;simp only[go_sem];refine y8 dc ?_;refine q4m (b:=c8) (by (simp only[go_sem];done)) (fun b1=>?_) (fun b1=>?_)
  .
   replace h:=q1k h b1;refine qj9 h (fun b2 h=>?_) (fun b5 b2 h=>?_)
   .
    obtain⟨dd,h⟩:=q06 h;have cb:¬(Value.agg ⟨[.int .i64 T,.int .i64 I.Time.D,.int .i64 I.Time.C.a0,.int .i64 I.Time.C.a1,.int .i64 I.Time.C.a2,.int .i64 I.Time.C.a3]⟩)∈q00 G.aJ.1:=qu4 b2;have cc:∃l,keyOf pp 103 (Value.agg ⟨[.int .i64 T,.int .i64 I.Time.D,.int .i64 I.Time.C.a0,.int .i64 I.Time.C.a1,.int .i64 I.Time.C.a2,.int .i64 I.Time.C.a3]⟩)=some l:=z5b ((⟨T,I.Time⟩:ah)) dd;refine qc0 ?_;refine wv ?_;refine q07 ?_;refine k1d ?_;obtain⟨bi,c2,h⟩:=w9 h;simp only[go_sem,q42,cb,cc];refine qx3 (s':=(⟨5,[(0,.ptr 0 0),(1,.v (.int .i64 T)),(5,.ptr 5 0),(7,.sl 3 (enc a6)),(15,.osl 6 6 (0) (Z.length)),(16,.v (.int .i64 (Z.length:Int))),(17,.v (.int .i64 W))],[(0,.box [.sl 1 (enc G.g.af),.sl 1 (enc G.g.aG),.sl 4 (enc G.g.ae),.sl 4 (enc G.g.aw),.mp 1,.mp 2,.mp 3,.v (.int .i64 G.work),.v (.int .i64 G.aB),.osl 4 4 (0) (G.outs.length),.v (.int .i64 G.e)]),(1,.con (p9 pp 103 0 (q00 G.ins.1) (enc G.ins.2) none) []),(2,.con (p9 pp 3 1 (q00 G.aK.1) (enc G.aK.2) (some aq)) [.osl 6 6 (0) (Z.length)]),(3,.con (p9 pp 103 2 (q00 G.aJ.1) (enc G.aJ.2) none) []),(4,.arr 4 (enc G.outs)),(5,.box (Row.row aj)),(6,.arr 6 (enc Z)),(7,.box (Row.row I))],8,38⟩:St)) (l:=[some 5,some 7,some 8]) (args':=[.sl 3 (enc a6),.sl 3 (enc ([]:List a8))]) ?_ ?_ ?_
    . simp only[go_sem,Le]<;>(repeat' apply Xc)<;>(try with_reducible refine q04 ?_)<;>first|omega|(simp[go_sem];done)
    . simp only[go_sem,Le]<;>(repeat' apply Xc)<;>((try with_reducible refine q04 ?_);(simp[go_sem];done))
    refine q7h [] (z1y a6 ([]:List a8) bi c2) (by simp) rfl trivial rfl rfl rfl rfl ?_;simp only[go_sem];refine q2y ?_;refine q08 c1 (y8 c0 ?_);refine wv ?_;simp only[go_sem];refine p8 b4 (⟨(bv,i64.wrap (W+1),bi),[some 5,some 8,some 6],?_,h,X4 _⟩);simp only[go_sem,Le]<;>(repeat' apply Xc)<;>(try with_reducible refine q04 ?_)<;>first|omega|(simp[go_sem];done)
   obtain⟨ao,b3,h⟩:=w9 h;have cd:(q00 G.aJ.1)[b5]?=some (Value.agg ⟨[.int .i64 T,.int .i64 I.Time.D,.int .i64 I.Time.C.a0,.int .i64 I.Time.C.a1,.int .i64 I.Time.C.a2,.int .i64 I.Time.C.a3]⟩):=qu3 b2;refine reW (fun _ _ _ _ H=>H.cG (id:=3) (i:=b5) (x:=.sl 3 (enc ao)) rfl (z5n b3)) ?_;refine qc0 ?_;refine wv ?_;refine q07 ?_;refine k1d ?_;obtain⟨bs,c3,h⟩:=w9 h;simp only[go_sem,q42,cd];refine qx3 (s':=(⟨5,[(0,.ptr 0 0),(1,.v (.int .i64 T)),(5,.ptr 5 0),(7,.sl 3 (enc a6)),(15,.osl 6 6 (0) (Z.length)),(16,.v (.int .i64 (Z.length:Int))),(17,.v (.int .i64 W))],[(0,.box [.sl 1 (enc G.g.af),.sl 1 (enc G.g.aG),.sl 4 (enc G.g.ae),.sl 4 (enc G.g.aw),.mp 1,.mp 2,.mp 3,.v (.int .i64 G.work),.v (.int .i64 G.aB),.osl 4 4 (0) (G.outs.length),.v (.int .i64 G.e)]),(1,.con (p9 pp 103 0 (q00 G.ins.1) (enc G.ins.2) none) []),(2,.con (p9 pp 3 1 (q00 G.aK.1) (enc G.aK.2) (some aq)) [.osl 6 6 (0) (Z.length)]),(3,.con (p9 pp 103 2 (q00 G.aJ.1) (enc G.aJ.2) (some b5)) [.sl 3 (enc ao)]),(4,.arr 4 (enc G.outs)),(5,.box (Row.row aj)),(6,.arr 6 (enc Z)),(7,.box (Row.row I))],8,38⟩:St)) (l:=[some 5,some 7,some 8]) (args':=[.sl 3 (enc a6),.sl 3 (enc ao)]) ?_ ?_ ?_
   . simp only[go_sem,Le]<;>(repeat' apply Xc)<;>(try with_reducible refine q04 ?_)<;>first|omega|(simp[go_sem];done)
   . simp only[go_sem,Le]<;>(repeat' apply Xc)<;>((try with_reducible refine q04 ?_);(simp[go_sem];done))
   refine q7h [] (z1y a6 ao bs c3) (by simp) rfl trivial rfl rfl rfl rfl ?_;simp only[go_sem];have cl:enc G.aJ.2=(enc G.aJ.2).set b5 [.sl 3 (enc ao)]:=zj4 b3;refine qb5 (fun _ _ _ _ H=>H.bP (id:=3) rfl rfl (R':=enc G.aJ.2) cl) ?_;refine q2y ?_;refine q08 c1 (y8 c0 ?_);refine wv ?_;simp only[go_sem];refine p8 b4 (⟨(bv,i64.wrap (W+1),bs),[some 5,some 8,some 6],?_,h,X4 _⟩);simp only[go_sem,Le]<;>(repeat' apply Xc)<;>(try with_reducible refine q04 ?_)<;>first|omega|(simp[go_sem];done)
  replace h:=q1l h b1;refine wv ?_;refine y7 (q08 c1 (y8 c0 ?_));refine wv ?_;simp only[go_sem];refine p8 b4 (⟨(bv,i64.wrap (W+1),a6),[some 5,some 6,some 7],?_,h,X4 _⟩);simp only[go_sem,Le]<;>(repeat' apply Xc)<;>(try with_reducible refine q04 ?_)<;>first|omega|(simp[go_sem];done)
 replace h:=q1l h an;simp only[bool_to_prop]at an;refine wv ?_;refine q0n (z07 c7 ?_);refine q0o b4 (q0h d2 (y8 Q3 ?_));refine sgW fun _ dk=>?_;refine wv ?_;simp only[go_sem];refine y8 dk ?_;have cp:enc G.aK.2=(enc G.aK.2).set aq [.sl 6 (enc Z)]:=zj4 b6;refine reW (fun _ _ _ _ H=>H.bN (id:=2) (id2:=7) rfl rfl (by simp[q17]) (R':=enc G.aK.2) cp) ?_;refine wv ?_;refine q03 ?_;simp only[go_sem];obtain rfl:=Xe h;refine q2b [some 6,some 4] ?_;simp only[go_sem,Le]<;>(repeat' apply Xc)<;>(try with_reducible refine q04 ?_)<;>first|omega|(simp[go_sem];done)
def q4e(G:a7)(Z:Int)(W:ay):Option (ay×Bool×a7):=
 q9 (idx G.g.ae Z) (fun T=>
 (if (T.Kind==10)=true then q9 (qw3 W) (fun a6=>
 some (a6.1,a6.2,G))
 else (if (T.Kind==11)=true then q9 (qw2 W) (fun aj=>
 some (aj.1,aj.2,G))
 else (if (T.Kind==12)=true then q9 (z0j W) (fun I=>
 (if I.2=true then u7 (0<=i64.wrap (I.1.D-1)/\i64.wrap (I.1.D-1)<4) (
 q9 (idx ([I.1.C.a0,I.1.C.a1,I.1.C.a2,I.1.C.a3]:List Int) (i64.wrap (I.1.D-1))) (fun ak=>
 q9 (idx G.g.aG T.Scope) (fun an=>
 some (I.1,(decide (ak<an)),G))))
 else some (I.1,false,G)))
 else some (W,true,G)))))
theorem z0p(G:a7)(W:Int)(Z:ay)(r:ay×Bool×a7)(h:q4e G W Z=some r):ba pp 93 [.ptr 0 0,.v (.int .i64 W),.agg (Row.row Z)] [(0,.box [.sl 1 (enc G.g.af),.sl 1 (enc G.g.aG),.sl 4 (enc G.g.ae),.sl 4 (enc G.g.aw),.mp 1,.mp 2,.mp 3,.v (.int .i64 G.work),.v (.int .i64 G.aB),.osl 4 4 (0) (G.outs.length),.v (.int .i64 G.e)]),(1,.con (p9 pp 103 0 (q00 G.ins.1) (enc G.ins.2) none) []),(2,.con (p9 pp 3 1 (q00 G.aK.1) (enc G.aK.2) none) []),(3,.con (p9 pp 103 2 (q00 G.aJ.1) (enc G.aJ.2) none) []),(4,.arr 4 (enc G.outs))] 5 (.tup [.agg (Row.row r.1),.v (.bool r.2.1)]) [(0,.box [.sl 1 (enc r.2.2.g.af),.sl 1 (enc r.2.2.g.aG),.sl 4 (enc r.2.2.g.ae),.sl 4 (enc r.2.2.g.aw),.mp 1,.mp 2,.mp 3,.v (.int .i64 r.2.2.work),.v (.int .i64 r.2.2.aB),.osl 5 4 (0) (r.2.2.outs.length),.v (.int .i64 r.2.2.e)]),(1,.con (p9 pp 103 0 (q00 r.2.2.ins.1) (enc r.2.2.ins.2) none) []),(2,.con (p9 pp 3 1 (q00 r.2.2.aK.1) (enc r.2.2.aK.2) none) []),(3,.con (p9 pp 103 2 (q00 r.2.2.aJ.1) (enc r.2.2.aJ.2) none) []),(5,.arr 4 (enc r.2.2.outs))] 6:=by
 refine dtI Tryz.func93 rfl ?_;rw[q4e]at h;have F:=trivial;refine sM ?_;refine sg fun _ Q2=>?_;obtain⟨ar,F,h⟩:=bI F h;simp only[go_sem,F];refine ai ?_;refine q8 Q2 (sg fun _ Q3=>?_);refine sM ?_;refine z8 fun _ Q5=>?_;refine sM ?_;refine sB h (fun _ h=>?_) fun _ h=>?_
 . exact au
 refine sM ?_;refine sB h (fun _ h=>?_) fun _ h=>?_
 . exact au
 refine sM ?_;refine sB h (fun _ h=>?_) fun _ h=>?_
 .
  refine sg fun _ an=>?_;simp only[go_sem];refine q4n h fun a6 h=>?_;simp only[go_sem];refine q8 an (sg fun _ b3=>?_);refine q07 ?_;refine q2g 21 0 0 [0,0,2,6,14,30,6,126,254,6,518,1542,3590,7686,6,16390,65030,130566,262142,524286,7,2097151] [6] [3,4,5,6,7,8,9,10,11,12,13,14,15,16,17,18,19] [] [20] [] mixed (by kernel_rfl) (of_decide_eq_true (by kernel_rfl)) (by kernel_rfl) (by kernel_rfl) (by rfl) ?_;simp only[go_sem];rcases T:a6.2 with _|_
  . replace h:=q1l h T;simp only[go_sem,T];exact au
  replace h:=q1k h T;obtain⟨F,h⟩:=bG F h;obtain⟨b1,ao,h⟩:=w9 h;obtain⟨aq,aj,ak,I⟩:=z1s (f:=(fun y=>AV.v (.int .i64 y))) [.v (.int .i64 a6.1.D)] [] ao;simp only[Xp,Xo,Xr,Xw,Xx,Xf,Xg,Xd,Xl,q45]at aj ak I;obtain⟨b2,F,h⟩:=bI F h;simp only[go_sem,T,aq,aj,ak,I,F];refine ai ?_;refine ai ?_;simp only[Xj,Xs,I,Xu,Xt,true_and];exact au
 exact au
def q5s(G:a7):Option (Bool×a7):=
 (if (decide (G.aB<G.work))=true then some (true,(⟨G.g,G.ins,G.aK,G.aJ,G.work,G.aB,G.outs,9⟩:a7))
 else some (true,G))
def q3v(ak:Int)(W:ay×Bool×a7)(Z:(List a8)×Int×a7->Option (Bool×a7)):(List a8)×Int×a7->Option (Bool×a7):=
 fun (T,I,aj)=>
 (if (decide (I<(W.2.2.g.aw.length:Int)))=true then q9 (idx W.2.2.g.aw I) (fun a6=>
 (if (a6.aL==ak)=true then q9 (q3j aj a6.To a6.Port W.1 T) (fun G=>
 q9 (qy6 T) (fun an=>
 Z (T,i64.wrap (I+1),(⟨G.g,G.ins,G.aK,G.aJ,i64.wrap (G.work+an),G.aB,G.outs,G.e⟩:a7))))
 else Z (T,i64.wrap (I+1),aj)))
 else q5s aj)
def q5t(I:Int)(W:ay)(Z:a7)(T:(List a8)×Bool):Option (Bool×a7):=
 q9 (q4e Z I W) (fun G=>
 (if ((!G.2.1)||((T.1.length:Int)==0))=true then some (false,G.2.2)
 else d9 (q3v I G) rounds (T.1,0,G.2.2)))
def q3u(W:Int)(aj:ay)(Z:(List aP)×Bool)(a6:Int×a7->Option (Bool×a7)):Int×a7->Option (Bool×a7):=
 fun (I,G)=>
 (if (decide (I<(Z.1.length:Int)))=true then q9 (idx Z.1 I) (fun T=>
 u7 ((G.outs.length+Xi ([(⟨W,aj.C.a0,T⟩:aD)]:List aD))*32<=140737488355328) (
 a6 (i64.wrap (I+1),(⟨G.g,G.ins,G.aK,G.aJ,G.work,G.aB,(G.outs++([(⟨W,aj.C.a0,T⟩:aD)]:List aD)),G.e⟩:a7))))
 else some (false,G))
def q0w(T:Int)(a6:ay)(W:aH)(I:List (List a8))(G:a7):Option (Bool×a7):=
 q9 (q9o W I) (fun Z=>
 (if (!Z.2)=true then some (false,(⟨G.g,G.ins,G.aK,G.aJ,G.work,G.aB,G.outs,9⟩:a7))
 else (if (W.Kind==15)=true then q9 (z19 Z.1) (fun aj=>
 d9 (q3u T a6 aj) rounds (0,G))
 else q5t T a6 G Z)))
def q4p(G:a7)(I:Int)(T:ay):Option (Bool×a7):=
 (qz6 (q3e G.ins.1 ((⟨I,T⟩:ah))) (u7 (Key.okb ((⟨I,T⟩:ah))=true) (
 some (false,G)))
 (fun Z=>q9 (atK G.ins.2 Z) (fun W=>
 (if (!(G.e==0))=true then some (false,G)
 else q9 (idx G.g.ae I) (fun a6=>
 u7 (0<=0/\0<=2/\2<=2) (
 (if (a6.Kind==14)=true then (qz6 (q3e G.aK.1 I) (u7 (Key.okb I=true) (
 u7 ((Xi ([(⟨T,1⟩:aF)]:List aF))*48<=140737488355328) (
 (qz6 (q3e G.aJ.1 ((⟨I,T⟩:ah))) (u7 (Key.okb ((⟨I,T⟩:ah))=true) (
 q9 (q14 (⟨G.g,Xm (Xk G.ins.1 Z) (Xk G.ins.2 Z),(Xm (G.aK.1++[I]) (Xh (G.aK.2++[([(⟨T,1⟩:aF)]:List aF)]) (G.aK.1.length) ([(⟨T,1⟩:aF)]:List aF))),(Xm (G.aJ.1++[(⟨I,T⟩:ah)]) (Xh (G.aJ.2++[W.a0]) (G.aJ.1.length) W.a0)),G.work,G.aB,G.outs,G.e⟩:a7) I T) (fun ak=>
 q0w I T a6 ([W.a0,ak.1]:List (List a8)) ak.2)))
 (fun b1=>q9 (atK G.aJ.2 b1) (fun b3=>
 q9 (q14 (⟨G.g,Xm (Xk G.ins.1 Z) (Xk G.ins.2 Z),(Xm (G.aK.1++[I]) (Xh (G.aK.2++[([(⟨T,1⟩:aF)]:List aF)]) (G.aK.1.length) ([(⟨T,1⟩:aF)]:List aF))),Xm G.aJ.1 (Xh G.aJ.2 b1 W.a0),G.work,G.aB,G.outs,G.e⟩:a7) I T) (fun an=>
 q0w I T a6 ([W.a0,an.1]:List (List a8)) an.2)))))))
 (fun ar=>q9 (atK G.aK.2 ar) (fun aj=>
 u7 ((aj.length+Xi ([(⟨T,1⟩:aF)]:List aF))*48<=140737488355328) (
 (qz6 (q3e G.aJ.1 ((⟨I,T⟩:ah))) (u7 (Key.okb ((⟨I,T⟩:ah))=true) (
 q9 (q14 (⟨G.g,Xm (Xk G.ins.1 Z) (Xk G.ins.2 Z),(Xm G.aK.1 (Xh G.aK.2 ar (aj++([(⟨T,1⟩:aF)]:List aF)))),(Xm (G.aJ.1++[(⟨I,T⟩:ah)]) (Xh (G.aJ.2++[W.a0]) (G.aJ.1.length) W.a0)),G.work,G.aB,G.outs,G.e⟩:a7) I T) (fun ao=>
 q0w I T a6 ([W.a0,ao.1]:List (List a8)) ao.2)))
 (fun b2=>q9 (atK G.aJ.2 b2) (fun b4=>
 q9 (q14 (⟨G.g,Xm (Xk G.ins.1 Z) (Xk G.ins.2 Z),(Xm G.aK.1 (Xh G.aK.2 ar (aj++([(⟨T,1⟩:aF)]:List aF)))),Xm G.aJ.1 (Xh G.aJ.2 b2 W.a0),G.work,G.aB,G.outs,G.e⟩:a7) I T) (fun aq=>
 q0w I T a6 ([W.a0,aq.1]:List (List a8)) aq.2))))))))
 else q0w I T a6 ([W.a0,W.a1]:List (List a8)) (⟨G.g,Xm (Xk G.ins.1 Z) (Xk G.ins.2 Z),G.aK,G.aJ,G.work,G.aB,G.outs,G.e⟩:a7))))))))
theorem z15(G:a7)(T:Int)(I:ay)(r:Bool×a7)(h:q4p G T I=some r):ba pp 56 [.ptr 0 0,.v (.int .i64 T),.agg (Row.row I)] [(0,.box [.sl 1 (enc G.g.af),.sl 1 (enc G.g.aG),.sl 4 (enc G.g.ae),.sl 4 (enc G.g.aw),.mp 1,.mp 2,.mp 3,.v (.int .i64 G.work),.v (.int .i64 G.aB),.osl 4 4 (0) (G.outs.length),.v (.int .i64 G.e)]),(1,.con (p9 pp 103 0 (q00 G.ins.1) (enc G.ins.2) none) []),(2,.con (p9 pp 3 1 (q00 G.aK.1) (enc G.aK.2) none) []),(3,.con (p9 pp 103 2 (q00 G.aJ.1) (enc G.aJ.2) none) []),(4,.arr 4 (enc G.outs))] 5 (.v (.bool r.1)) [(0,.box [.sl 1 (enc r.2.g.af),.sl 1 (enc r.2.g.aG),.sl 4 (enc r.2.g.ae),.sl 4 (enc r.2.g.aw),.mp 1,.mp 2,.mp 3,.v (.int .i64 r.2.work),.v (.int .i64 r.2.aB),.osl 5 4 (0) (r.2.outs.length),.v (.int .i64 r.2.e)]),(1,.con (p9 pp 103 0 (q00 r.2.ins.1) (enc r.2.ins.2) none) []),(2,.con (p9 pp 3 1 (q00 r.2.aK.1) (enc r.2.aK.2) none) []),(3,.con (p9 pp 103 2 (q00 r.2.aJ.1) (enc r.2.aJ.2) none) []),(5,.arr 4 (enc r.2.outs))] 6:=by
 unfold ba;refine Spec.of_wp Tryz.func56 rfl (by kernel_rfl) (by kernel_rfl) ?_;rw[q4p]at h;refine sgW fun _ Q1=>?_;refine wv ?_;simp only[go_sem];refine y8 Q1 ?_;refine sgW fun _ Q2=>?_;refine qj9 h (fun d0 h=>?_) (fun b5 d0 h=>?_)
 .
  obtain⟨eR,h⟩:=q06 h;have ei:¬(Value.agg ⟨[.int .i64 T,.int .i64 I.D,.int .i64 I.C.a0,.int .i64 I.C.a1,.int .i64 I.C.a2,.int .i64 I.C.a3]⟩)∈q00 G.ins.1:=qu4 d0;have ej:∃l,keyOf pp 103 (Value.agg ⟨[.int .i64 T,.int .i64 I.D,.int .i64 I.C.a0,.int .i64 I.C.a1,.int .i64 I.C.a2,.int .i64 I.C.a3]⟩)=some l:=z5b ((⟨T,I⟩:ah)) eR;refine qc0 ?_;refine wv ?_;refine q07 ?_;refine k1d ?_;simp only[go_sem,q42,ei,ej];refine q2y ?_;refine y8 Q2 ?_;refine sgW fun _ Q3=>?_;refine sgW fun _ Q4=>?_;refine wv ?_;simp only[go_sem];refine y8 Q4 ?_;refine j57 (by (simp only[go_sem];done)) ?_;refine sgW fun _ Q5=>?_;refine wv ?_;simp only[go_sem];refine y8 Q5 ?_;refine wv ?_;refine q03 (qz8 Q3 ?_);simp only[go_sem];obtain rfl:=Xe h;refine q2b [some 4] ?_;simp only[go_sem,Le]<;>(repeat' apply Xc)<;>(try with_reducible refine q04 ?_)<;>first|omega|(simp[go_sem];done)
 obtain⟨W,d7,h⟩:=w9 h;have d8:(q00 G.ins.1)[b5]?=some (Value.agg ⟨[.int .i64 T,.int .i64 I.D,.int .i64 I.C.a0,.int .i64 I.C.a1,.int .i64 I.C.a2,.int .i64 I.C.a3]⟩):=qu3 d0;refine reW (fun _ _ _ _ H=>H.cX (id:=1) (i:=b5) (r:=[.sl 3 (enc W.a0),.sl 3 (enc W.a1)]) rfl (z5n d7)) ?_;refine qc0 ?_;refine wv ?_;refine q07 ?_;refine k1d ?_;simp only[go_sem,q42,d8];refine q2y ?_;refine y8 Q2 ?_;refine sgW fun _ Q6=>?_;refine sgW fun _ Q7=>?_;refine wv ?_;simp only[go_sem];refine y8 Q7 ?_;refine q4m (b:=(!(G.e==0))) (by (simp only[go_sem];done)) (fun c6=>?_) (fun c6=>?_)
 .
  replace h:=q1k h c6;simp only[bool_to_prop]at c6;refine sgW fun _ Q8=>?_;refine wv ?_;simp only[go_sem];refine y8 Q8 ?_;have ek:enc G.ins.2=(enc G.ins.2).set b5 [.sl 3 (enc W.a0),.sl 3 (enc W.a1)]:=zj4 d7;refine reW (fun _ _ _ _ H=>H.bW (id:=1) (id2:=6) (r:=[.sl 3 (enc W.a0),.sl 3 (enc W.a1)]) [.sl 3 (enc W.a0),.sl 3 (enc W.a1)] rfl rfl rfl ⟨.inl rfl,.inl rfl,trivial⟩ (R':=enc G.ins.2) ek) ?_;refine wv ?_;refine q03 (qz8 Q6 ?_);simp only[go_sem];obtain rfl:=Xe h;refine q2b [some 4] ?_;simp only[go_sem,Le]<;>(repeat' apply Xc)<;>(try with_reducible refine q04 ?_)<;>first|omega|(simp[go_sem];done)
 replace h:=q1l h c6;simp only[bool_to_prop]at c6;refine wv ?_;refine y7 (y8 Q6 ?_);refine sgW fun _ Q9=>?_;refine qc0 ?_;refine wv ?_;refine q07 ?_;refine k1d ?_;simp only[go_sem];refine j65 ?_ rfl rfl rfl rfl trivial trivial rfl rfl zq9 q42 rfl d8;simp only[go_sem];refine q2y ?_;refine y8 Q9 ?_;refine sgW fun _ eS=>?_;refine wv ?_;obtain⟨c3,eT,h⟩:=w9 h;obtain⟨eU,eV,eW⟩:=q83 eT;simp only[go_sem,eU,eV,eW];refine Xc (by omega) ?_;refine y8 eS ?_;refine sgW fun _ eX=>?_;refine wv ?_;obtain⟨eY,h⟩:=q06 h;simp only[go_sem,eY];refine y8 eX ?_;refine j2m (ι:=(List (List a8))×a7) (fun ((aq,Z):(List (List a8))×a7)=>(⟨5,[(0,.ptr 0 0),(1,.v (.int .i64 T)),(5,.ptr 5 0),(8,.ptr 6 0),(9,.sl 1 (enc aq))],[(0,.box [.sl 1 (enc Z.g.af),.sl 1 (enc Z.g.aG),.sl 4 (enc Z.g.ae),.sl 4 (enc Z.g.aw),.mp 1,.mp 2,.mp 3,.v (.int .i64 Z.work),.v (.int .i64 Z.aB),.osl 7 4 (0) (Z.outs.length),.v (.int .i64 Z.e)]),(1,.con (p9 pp 103 0 (q00 Z.ins.1) (enc Z.ins.2) none) []),(2,.con (p9 pp 3 1 (q00 Z.aK.1) (enc Z.aK.2) none) []),(3,.con (p9 pp 103 2 (q00 Z.aJ.1) (enc Z.aJ.2) none) []),(5,.box (Row.row I)),(6,.box (Row.row c3)),(7,.arr 4 (enc Z.outs))],8,191⟩:St)) (fun ((aq,Z):(List (List a8))×a7)=>q0w T I c3 aq Z=some r) ?_ ?_
 .
  intro _ d1;refine sgW fun _ eZ=>?_;refine wv ?_;simp only[go_sem];refine y8 eZ ?_;refine q4m (b:=(c3.Kind==14)) (by (simp only[go_sem];done)) (fun bi=>?_) (fun bi=>?_)
  .
   replace h:=q1k h bi;simp only[bool_to_prop]at bi;refine sgW fun _ en=>?_;refine qj9 h (fun d2 h=>?_) (fun b6 d2 h=>?_)
   .
    obtain⟨eo,h⟩:=q06 h;have dc:¬(Value.int .i64 T)∈q00 G.aK.1:=qu4 d2;have dd:∃l,keyOf pp 3 (Value.int .i64 T)=some l:=j94 T eo;refine qc0 ?_;refine wv ?_;refine q07 ?_;refine q2g 15 0 0 [0,1,3,7,0,0,32,96,224,0,992,0,2048,6144,16352,32767] [8] [0,1,2,3,4] [] [14] [] mixed (by kernel_rfl) (of_decide_eq_true (by kernel_rfl)) (by kernel_rfl) (by kernel_rfl) (by rfl) ?_;have dK:[[.v (.int .i64 I.D),.v (.int .i64 I.C.a0),.v (.int .i64 I.C.a1),.v (.int .i64 I.C.a2),.v (.int .i64 I.C.a3),.v (.int .i64 1)]]=enc ([(⟨I,1⟩:aF)]:List aF):=by rfl
    obtain⟨dk,h⟩:=q06 h;simp only[Xf,Xg,Xd,Xv]at dk;simp only[go_sem,z88,dc,dd,dk];simp only[dK];refine z3p [.sl 6 (enc ([(⟨I,1⟩:aF)]:List aF))] ?_ rfl trivial trivial trivial rfl rfl zq8 z88 rfl dd dc;have dL:q00 G.aK.1++[(Value.int .i64 T)]=q00 (G.aK.1++[T]):=z5p G.aK.1 T;have dM:enc G.aK.2++[[.sl 6 (enc ([(⟨I,1⟩:aF)]:List aF))]]=enc (G.aK.2++[([(⟨I,1⟩:aF)]:List aF)]):=(q2x G.aK.2 [([(⟨I,1⟩:aF)]:List aF)]).symm;have f0:(q00 (G.aK.1++[T]))[G.aK.1.length]?=some (Value.int .i64 T):=z6s G.aK.1 T;rw[dL,dM,z5o];simp only[go_sem];refine q2y ?_;refine y8 en ?_;refine sgW fun _ er=>?_;refine qj9 h (fun d3 h=>?_) (fun cl d3 h=>?_)
    .
     obtain⟨es,h⟩:=q06 h;have et:¬(Value.agg ⟨[.int .i64 T,.int .i64 I.D,.int .i64 I.C.a0,.int .i64 I.C.a1,.int .i64 I.C.a2,.int .i64 I.C.a3]⟩)∈q00 G.aJ.1:=qu4 d3;have eu:∃l,keyOf pp 103 (Value.agg ⟨[.int .i64 T,.int .i64 I.D,.int .i64 I.C.a0,.int .i64 I.C.a1,.int .i64 I.C.a2,.int .i64 I.C.a3]⟩)=some l:=z5b ((⟨T,I⟩:ah)) es;refine qc0 ?_;refine wv ?_;refine q07 ?_;refine k1d ?_;simp only[go_sem];refine z3p [.sl 3 (enc W.a0)] ?_ rfl trivial trivial trivial rfl rfl z7q q42 rfl eu et;have dN:q00 G.aJ.1++[(Value.agg ⟨[.int .i64 T,.int .i64 I.D,.int .i64 I.C.a0,.int .i64 I.C.a1,.int .i64 I.C.a2,.int .i64 I.C.a3]⟩)]=q00 (G.aJ.1++[(⟨T,I⟩:ah)]):=z5p G.aJ.1 (⟨T,I⟩:ah);have dO:enc G.aJ.2++[[.sl 3 (enc W.a0)]]=enc (G.aJ.2++[W.a0]):=(q2x G.aJ.2 [W.a0]).symm;have f1:(q00 (G.aJ.1++[(⟨T,I⟩:ah)]))[G.aJ.1.length]?=some (Value.agg ⟨[.int .i64 T,.int .i64 I.D,.int .i64 I.C.a0,.int .i64 I.C.a1,.int .i64 I.C.a2,.int .i64 I.C.a3]⟩):=z6s G.aJ.1 (⟨T,I⟩:ah);rw[dN,dO,z5o];simp only[go_sem];have ew:enc (Xh (G.aK.2++[([(⟨I,1⟩:aF)]:List aF)]) (G.aK.1.length) ([(⟨I,1⟩:aF)]:List aF))=(enc (G.aK.2++[([(⟨I,1⟩:aF)]:List aF)])).set (G.aK.1.length) [.sl 6 (enc ([(⟨I,1⟩:aF)]:List aF))]:=qf4 (G.aK.2++[([(⟨I,1⟩:aF)]:List aF)]) (G.aK.1.length) ([(⟨I,1⟩:aF)]:List aF);refine qb5 (fun _ _ _ _ H=>H.bN (id:=2) (id2:=8) rfl rfl (by simp[q17]) (R':=enc (Xh (G.aK.2++[([(⟨I,1⟩:aF)]:List aF)]) (G.aK.1.length) ([(⟨I,1⟩:aF)]:List aF))) ew) ?_
     have dP:enc (Xh (G.aJ.2++[W.a0]) (G.aJ.1.length) W.a0)=(enc (G.aJ.2++[W.a0])).set (G.aJ.1.length) [.sl 3 (enc W.a0)]:=qf4 (G.aJ.2++[W.a0]) (G.aJ.1.length) W.a0;refine qb5 (fun _ _ _ _ H=>H.bP (id:=3) rfl rfl (R':=enc (Xh (G.aJ.2++[W.a0]) (G.aJ.1.length) W.a0)) dP) ?_;refine q2y ?_;refine y8 er ?_;refine wv ?_;refine q07 ?_;refine q2g 8 0 0 [0,1,3,7,0,0,0,112,255,511] [0,1,2,3,4,9,10] [0,1,2,3] [] [7] [] mixed (by kernel_rfl) (of_decide_eq_true (by kernel_rfl)) (by kernel_rfl) (by kernel_rfl) (by rfl) ?_;obtain⟨c7,dQ,h⟩:=w9 h;simp only[go_sem];refine z0m [0,1,2,3,4] (q49 (⟨G.g,Xm (Xk G.ins.1 b5) (Xk G.ins.2 b5),(Xm (G.aK.1++[T]) (Xh (G.aK.2++[([(⟨I,1⟩:aF)]:List aF)]) (G.aK.1.length) ([(⟨I,1⟩:aF)]:List aF))),(Xm (G.aJ.1++[(⟨T,I⟩:ah)]) (Xh (G.aJ.2++[W.a0]) (G.aJ.1.length) W.a0)),G.work,G.aB,G.outs,G.e⟩:a7) T I c7 dQ) rfl ⟨rfl,⟨rfl,⟨rfl,⟨rfl,⟨rfl,trivial⟩⟩⟩⟩⟩ rfl rfl rfl rfl ?_;have f4:[[.sl 3 (enc W.a0)],[.sl 3 (enc c7.1)]]=enc ([W.a0,c7.1]:List (List a8)):=by rfl
     simp only[go_sem];refine p8 d1 (⟨(([W.a0,c7.1]:List (List a8)),c7.2),[some 5,some 7,some 10],?_,h⟩);simp only[go_sem,Le]<;>(repeat' apply Xc)<;>(try with_reducible refine q04 ?_)<;>first|omega|(simp[go_sem];done)|((try with_reducible refine q04 ?_);(simp[go_sem,enc,q6l];done))
    obtain⟨ex,dR,h⟩:=w9 h;have dS:(q00 G.aJ.1)[cl]?=some (Value.agg ⟨[.int .i64 T,.int .i64 I.D,.int .i64 I.C.a0,.int .i64 I.C.a1,.int .i64 I.C.a2,.int .i64 I.C.a3]⟩):=qu3 d3;refine reW (fun _ _ _ _ H=>H.cG (id:=3) (i:=cl) (x:=.sl 3 (enc ex)) rfl (z5n dR)) ?_;refine qc0 ?_;refine wv ?_;refine q07 ?_;refine k1d ?_;simp only[go_sem];refine z8x ?_ rfl trivial trivial trivial rfl rfl z7q q42 rfl dS;simp only[go_sem];have dT:enc (Xh (G.aK.2++[([(⟨I,1⟩:aF)]:List aF)]) (G.aK.1.length) ([(⟨I,1⟩:aF)]:List aF))=(enc (G.aK.2++[([(⟨I,1⟩:aF)]:List aF)])).set (G.aK.1.length) [.sl 6 (enc ([(⟨I,1⟩:aF)]:List aF))]:=qf4 (G.aK.2++[([(⟨I,1⟩:aF)]:List aF)]) (G.aK.1.length) ([(⟨I,1⟩:aF)]:List aF);refine qb5 (fun _ _ _ _ H=>H.bN (id:=2) (id2:=8) rfl rfl (by simp[q17]) (R':=enc (Xh (G.aK.2++[([(⟨I,1⟩:aF)]:List aF)]) (G.aK.1.length) ([(⟨I,1⟩:aF)]:List aF))) dT) ?_;have dU:enc (Xh G.aJ.2 cl W.a0)=(enc G.aJ.2).set cl [.sl 3 (enc W.a0)]:=qf4 G.aJ.2 cl W.a0;refine qb5 (fun _ _ _ _ H=>H.bP (id:=3) rfl rfl (R':=enc (Xh G.aJ.2 cl W.a0)) dU) ?_;refine q2y ?_;refine y8 er ?_;refine wv ?_;refine q07 ?_;refine q2g 8 0 0 [0,1,3,7,0,0,0,112,255,511] [0,1,2,3,4,9,10] [0,1,2,3] [] [7] [] mixed (by kernel_rfl) (of_decide_eq_true (by kernel_rfl)) (by kernel_rfl) (by kernel_rfl) (by rfl) ?_;obtain⟨c8,dV,h⟩:=w9 h;simp only[go_sem]
    refine z0m [0,1,2,3,4] (q49 (⟨G.g,Xm (Xk G.ins.1 b5) (Xk G.ins.2 b5),(Xm (G.aK.1++[T]) (Xh (G.aK.2++[([(⟨I,1⟩:aF)]:List aF)]) (G.aK.1.length) ([(⟨I,1⟩:aF)]:List aF))),Xm G.aJ.1 (Xh G.aJ.2 cl W.a0),G.work,G.aB,G.outs,G.e⟩:a7) T I c8 dV) rfl ⟨rfl,⟨rfl,⟨rfl,⟨rfl,⟨rfl,trivial⟩⟩⟩⟩⟩ rfl rfl rfl rfl ?_;have f5:[[.sl 3 (enc W.a0)],[.sl 3 (enc c8.1)]]=enc ([W.a0,c8.1]:List (List a8)):=by rfl
    simp only[go_sem];refine p8 d1 (⟨(([W.a0,c8.1]:List (List a8)),c8.2),[some 5,some 7,some 10],?_,h⟩);simp only[go_sem,Le]<;>(repeat' apply Xc)<;>(try with_reducible refine q04 ?_)<;>first|omega|(simp[go_sem];done)|((try with_reducible refine q04 ?_);(simp[go_sem,enc,q6l];done))
   obtain⟨aj,dW,h⟩:=w9 h;have d4:(q00 G.aK.1)[b6]?=some (Value.int .i64 T):=qu3 d2;refine reW (fun _ _ _ _ H=>H.cZ (id:=2) (i:=b6) (isz:=6) (xs:=enc aj) rfl (z5n dW)) ?_;simp only[q17];refine qc0 ?_;refine wv ?_;refine q07 ?_;refine q2g 15 0 0 [0,1,3,7,0,0,32,96,224,0,992,0,2048,6144,16352,32767] [8,9] [0,1,2,3,4] [] [14] [] mixed (by kernel_rfl) (of_decide_eq_true (by kernel_rfl)) (by kernel_rfl) (by kernel_rfl) (by rfl) ?_;have dX:[[.v (.int .i64 I.D),.v (.int .i64 I.C.a0),.v (.int .i64 I.C.a1),.v (.int .i64 I.C.a2),.v (.int .i64 I.C.a3),.v (.int .i64 1)]]=enc ([(⟨I,1⟩:aF)]:List aF):=by rfl
   obtain⟨ds,h⟩:=q06 h;simp only[Xf,Xg,Xd,Xv]at ds;have dY:enc aj++[[.v (.int .i64 I.D),.v (.int .i64 I.C.a0),.v (.int .i64 I.C.a1),.v (.int .i64 I.C.a2),.v (.int .i64 I.C.a3),.v (.int .i64 1)]]=enc (aj++([(⟨I,1⟩:aF)]:List aF)):=by exact (q2x aj ([(⟨I,1⟩:aF)]:List aF)).symm
   simp only[go_sem,z88,d4,ds,dY];simp only[dX];refine z8x ?_ rfl trivial trivial trivial rfl rfl zq8 z88 rfl d4;simp only[go_sem];refine q2y ?_;refine y8 en ?_;refine sgW fun _ ey=>?_;refine qj9 h (fun d5 h=>?_) (fun cp d5 h=>?_)
   .
    obtain⟨ez,h⟩:=q06 h;have eA:¬(Value.agg ⟨[.int .i64 T,.int .i64 I.D,.int .i64 I.C.a0,.int .i64 I.C.a1,.int .i64 I.C.a2,.int .i64 I.C.a3]⟩)∈q00 G.aJ.1:=qu4 d5;have dZ:∃l,keyOf pp 103 (Value.agg ⟨[.int .i64 T,.int .i64 I.D,.int .i64 I.C.a0,.int .i64 I.C.a1,.int .i64 I.C.a2,.int .i64 I.C.a3]⟩)=some l:=z5b ((⟨T,I⟩:ah)) ez;refine qc0 ?_;refine wv ?_;refine q07 ?_;refine k1d ?_;simp only[go_sem];refine z3p [.sl 3 (enc W.a0)] ?_ rfl trivial trivial trivial rfl rfl z7q q42 rfl dZ eA;have e0:q00 G.aJ.1++[(Value.agg ⟨[.int .i64 T,.int .i64 I.D,.int .i64 I.C.a0,.int .i64 I.C.a1,.int .i64 I.C.a2,.int .i64 I.C.a3]⟩)]=q00 (G.aJ.1++[(⟨T,I⟩:ah)]):=z5p G.aJ.1 (⟨T,I⟩:ah);have e1:enc G.aJ.2++[[.sl 3 (enc W.a0)]]=enc (G.aJ.2++[W.a0]):=(q2x G.aJ.2 [W.a0]).symm;have f6:(q00 (G.aJ.1++[(⟨T,I⟩:ah)]))[G.aJ.1.length]?=some (Value.agg ⟨[.int .i64 T,.int .i64 I.D,.int .i64 I.C.a0,.int .i64 I.C.a1,.int .i64 I.C.a2,.int .i64 I.C.a3]⟩):=z6s G.aJ.1 (⟨T,I⟩:ah);rw[e0,e1,z5o];simp only[go_sem];have e2:enc (Xh G.aK.2 b6 (aj++([(⟨I,1⟩:aF)]:List aF)))=(enc G.aK.2).set b6 [.sl 6 (enc (aj++([(⟨I,1⟩:aF)]:List aF)))]:=qf4 G.aK.2 b6 (aj++([(⟨I,1⟩:aF)]:List aF));refine qb5 (fun _ _ _ _ H=>H.bN (id:=2) (id2:=9) rfl rfl (by simp[q17]) (R':=enc (Xh G.aK.2 b6 (aj++([(⟨I,1⟩:aF)]:List aF)))) e2) ?_;have e3:enc (Xh (G.aJ.2++[W.a0]) (G.aJ.1.length) W.a0)=(enc (G.aJ.2++[W.a0])).set (G.aJ.1.length) [.sl 3 (enc W.a0)]:=qf4 (G.aJ.2++[W.a0]) (G.aJ.1.length) W.a0
    refine qb5 (fun _ _ _ _ H=>H.bP (id:=3) rfl rfl (R':=enc (Xh (G.aJ.2++[W.a0]) (G.aJ.1.length) W.a0)) e3) ?_;refine q2y ?_;refine y8 ey ?_;refine wv ?_;refine q07 ?_;refine q2g 8 0 0 [0,1,3,7,0,0,0,112,255,511] [0,1,2,3,4,10,11] [0,1,2,3] [] [7] [] mixed (by kernel_rfl) (of_decide_eq_true (by kernel_rfl)) (by kernel_rfl) (by kernel_rfl) (by rfl) ?_;obtain⟨c9,e4,h⟩:=w9 h;simp only[go_sem];refine z0m [0,1,2,3,4] (q49 (⟨G.g,Xm (Xk G.ins.1 b5) (Xk G.ins.2 b5),(Xm G.aK.1 (Xh G.aK.2 b6 (aj++([(⟨I,1⟩:aF)]:List aF)))),(Xm (G.aJ.1++[(⟨T,I⟩:ah)]) (Xh (G.aJ.2++[W.a0]) (G.aJ.1.length) W.a0)),G.work,G.aB,G.outs,G.e⟩:a7) T I c9 e4) rfl ⟨rfl,⟨rfl,⟨rfl,⟨rfl,⟨rfl,trivial⟩⟩⟩⟩⟩ rfl rfl rfl rfl ?_;have f7:[[.sl 3 (enc W.a0)],[.sl 3 (enc c9.1)]]=enc ([W.a0,c9.1]:List (List a8)):=by rfl
    simp only[go_sem];refine p8 d1 (⟨(([W.a0,c9.1]:List (List a8)),c9.2),[some 5,some 7,some 11],?_,h⟩);simp only[go_sem,Le]<;>(repeat' apply Xc)<;>(try with_reducible refine q04 ?_)<;>first|omega|(simp[go_sem];done)|((try with_reducible refine q04 ?_);(simp[go_sem,enc,q6l];done))
   obtain⟨eB,e5,h⟩:=w9 h;have e6:(q00 G.aJ.1)[cp]?=some (Value.agg ⟨[.int .i64 T,.int .i64 I.D,.int .i64 I.C.a0,.int .i64 I.C.a1,.int .i64 I.C.a2,.int .i64 I.C.a3]⟩):=qu3 d5;refine reW (fun _ _ _ _ H=>H.cG (id:=3) (i:=cp) (x:=.sl 3 (enc eB)) rfl (z5n e5)) ?_;refine qc0 ?_;refine wv ?_;refine q07 ?_;refine k1d ?_;simp only[go_sem];refine z8x ?_ rfl trivial trivial trivial rfl rfl z7q q42 rfl e6;simp only[go_sem];have e7:enc (Xh G.aK.2 b6 (aj++([(⟨I,1⟩:aF)]:List aF)))=(enc G.aK.2).set b6 [.sl 6 (enc (aj++([(⟨I,1⟩:aF)]:List aF)))]:=qf4 G.aK.2 b6 (aj++([(⟨I,1⟩:aF)]:List aF));refine qb5 (fun _ _ _ _ H=>H.bN (id:=2) (id2:=9) rfl rfl (by simp[q17]) (R':=enc (Xh G.aK.2 b6 (aj++([(⟨I,1⟩:aF)]:List aF)))) e7) ?_;have e8:enc (Xh G.aJ.2 cp W.a0)=(enc G.aJ.2).set cp [.sl 3 (enc W.a0)]:=qf4 G.aJ.2 cp W.a0;refine qb5 (fun _ _ _ _ H=>H.bP (id:=3) rfl rfl (R':=enc (Xh G.aJ.2 cp W.a0)) e8) ?_;refine q2y ?_;refine y8 ey ?_;refine wv ?_;refine q07 ?_;refine q2g 8 0 0 [0,1,3,7,0,0,0,112,255,511] [0,1,2,3,4,10,11] [0,1,2,3] [] [7] [] mixed (by kernel_rfl) (of_decide_eq_true (by kernel_rfl)) (by kernel_rfl) (by kernel_rfl) (by rfl) ?_;obtain⟨cb,e9,h⟩:=w9 h;simp only[go_sem];refine z0m [0,1,2,3,4] (q49 (⟨G.g,Xm (Xk G.ins.1 b5) (Xk G.ins.2 b5),(Xm G.aK.1 (Xh G.aK.2 b6 (aj++([(⟨I,1⟩:aF)]:List aF)))),Xm G.aJ.1 (Xh G.aJ.2 cp W.a0),G.work,G.aB,G.outs,G.e⟩:a7) T I cb e9) rfl ⟨rfl,⟨rfl,⟨rfl,⟨rfl,⟨rfl,trivial⟩⟩⟩⟩⟩ rfl rfl rfl rfl ?_
   have f8:[[.sl 3 (enc W.a0)],[.sl 3 (enc cb.1)]]=enc ([W.a0,cb.1]:List (List a8)):=by rfl
   simp only[go_sem];refine p8 d1 (⟨(([W.a0,cb.1]:List (List a8)),cb.2),[some 5,some 7,some 11],?_,h⟩);simp only[go_sem,Le]<;>(repeat' apply Xc)<;>(try with_reducible refine q04 ?_)<;>first|omega|(simp[go_sem];done)|((try with_reducible refine q04 ?_);(simp[go_sem,enc,q6l];done))
  replace h:=q1l h bi;simp only[bool_to_prop]at bi;refine wv ?_;refine y7 (p8 d1 (⟨(([W.a0,W.a1]:List (List a8)),(⟨G.g,Xm (Xk G.ins.1 b5) (Xk G.ins.2 b5),G.aK,G.aJ,G.work,G.aB,G.outs,G.e⟩:a7)),[some 5,some 7,some 4],?_,h⟩));simp only[go_sem,Le]<;>(repeat' apply Xc)<;>(try with_reducible refine q04 ?_)<;>first|omega|(simp[go_sem];done)|((try with_reducible refine q04 ?_);(exact⟨_,rfl,Nat.le_refl _,rfl,rfl⟩))
 rintro⟨aq,Z⟩ h
 try dsimp only at h
 rw[q0w]at h;refine sgW fun _ f9=>?_;refine wv ?_;obtain⟨c5,eC,h⟩:=w9 h;simp only[go_sem];refine q7h [] (zo6 c3 aq c5 eC) (by simp) rfl trivial rfl rfl rfl rfl ?_;simp only[go_sem];refine y8 f9 ?_;refine sgW fun _ eD=>?_;refine sgW fun _ fa=>?_;refine wv ?_;simp only[go_sem];refine y8 fa ?_;refine q4m (b:=(!c5.2)) (by (simp only[go_sem];done)) (fun cc=>?_) (fun cc=>?_)
 .
  replace h:=q1k h cc;simp only[bool_to_prop]at cc;refine sgW fun _ fb=>?_;refine wv ?_;simp only[go_sem];refine y8 fb ?_;refine sgW fun _ fc=>?_;refine wv ?_;simp only[go_sem];refine y8 fc ?_;refine wv ?_;refine q03 (qz8 eD ?_);simp only[go_sem];obtain rfl:=Xe h;refine q2b [some 7] ?_;simp only[go_sem,Le]<;>(repeat' apply Xc)<;>(try with_reducible refine q04 ?_)<;>first|omega|(simp[go_sem];done)
 replace h:=q1l h cc;simp only[bool_to_prop]at cc;refine wv ?_;refine y7 (y8 eD ?_);refine j2m (ι:=Unit) (fun (_:Unit)=>(⟨5,[(0,.ptr 0 0),(1,.v (.int .i64 T)),(5,.ptr 5 0),(10,.osl 6 3 (0) (c5.1.length))],[(0,.box [.sl 1 (enc Z.g.af),.sl 1 (enc Z.g.aG),.sl 4 (enc Z.g.ae),.sl 4 (enc Z.g.aw),.mp 1,.mp 2,.mp 3,.v (.int .i64 Z.work),.v (.int .i64 Z.aB),.osl 7 4 (0) (Z.outs.length),.v (.int .i64 Z.e)]),(1,.con (p9 pp 103 0 (q00 Z.ins.1) (enc Z.ins.2) none) []),(2,.con (p9 pp 3 1 (q00 Z.aK.1) (enc Z.aK.2) none) []),(3,.con (p9 pp 103 2 (q00 Z.aJ.1) (enc Z.aJ.2) none) []),(5,.box (Row.row I)),(6,.arr 3 (enc c5.1)),(7,.arr 4 (enc Z.outs))],8,191⟩:St)) (fun (_:Unit)=>q5t T I Z c5=some r) ?_ ?_
 .
  intro _ eE;refine sgW fun _ fd=>?_;refine wv ?_;simp only[go_sem];refine y8 fd ?_;refine q4m (b:=(c3.Kind==15)) (by (simp only[go_sem];done)) (fun bs=>?_) (fun bs=>?_)
  .
   replace h:=q1k h bs;simp only[bool_to_prop]at bs;refine sgW fun _ fe=>?_;refine wv ?_;obtain⟨c4,ea,h⟩:=w9 h;simp only[go_sem];refine qx3 (s':=(⟨5,[(0,.ptr 0 0),(1,.v (.int .i64 T)),(5,.ptr 5 0)],[(0,.box [.sl 1 (enc Z.g.af),.sl 1 (enc Z.g.aG),.sl 4 (enc Z.g.ae),.sl 4 (enc Z.g.aw),.mp 1,.mp 2,.mp 3,.v (.int .i64 Z.work),.v (.int .i64 Z.aB),.osl 7 4 (0) (Z.outs.length),.v (.int .i64 Z.e)]),(1,.con (p9 pp 103 0 (q00 Z.ins.1) (enc Z.ins.2) none) []),(2,.con (p9 pp 3 1 (q00 Z.aK.1) (enc Z.aK.2) none) []),(3,.con (p9 pp 103 2 (q00 Z.aJ.1) (enc Z.aJ.2) none) []),(5,.box (Row.row I)),(6,.box (Row.row c3)),(7,.arr 4 (enc Z.outs))],8,191⟩:St)) (l:=[some 5,some 6,some 7]) (args':=[.sl 3 (enc c5.1)]) ?_ ?_ ?_
   . simp only[go_sem,Le]<;>(repeat' apply Xc)<;>(try with_reducible refine q04 ?_)<;>first|omega|(simp[go_sem];done)
   . simp only[go_sem,Le]<;>(repeat' apply Xc)<;>((try with_reducible refine q04 ?_);(simp[go_sem];done))
   refine q7h [] (zt6 c5.1 c4 ea) (by simp) rfl trivial rfl rfl rfl rfl ?_;simp only[go_sem];refine y8 fe ?_;refine sgW fun _ ff=>?_;refine sgW fun _ fg=>?_;refine wv ?_;simp only[go_sem];refine y8 fg ?_;refine qq2 fun _ fh=>?_;refine ze1 (ι:=Nat×Int×a7) (fun ((_,b2,a6):Nat×Int×a7)=>(⟨5,[(0,.ptr 0 0),(1,.v (.int .i64 T)),(5,.ptr 5 0),(111,.osl 6 2 (0) (c4.1.length)),(112,.v (.int .i64 (c4.1.length:Int))),(113,.v (.int .i64 b2))],[(0,.box [.sl 1 (enc a6.g.af),.sl 1 (enc a6.g.aG),.sl 4 (enc a6.g.ae),.sl 4 (enc a6.g.aw),.mp 1,.mp 2,.mp 3,.v (.int .i64 a6.work),.v (.int .i64 a6.aB),.osl 7 4 (0) (a6.outs.length),.v (.int .i64 a6.e)]),(1,.con (p9 pp 103 0 (q00 a6.ins.1) (enc a6.ins.2) none) []),(2,.con (p9 pp 3 1 (q00 a6.aK.1) (enc a6.aK.2) none) []),(3,.con (p9 pp 103 2 (q00 a6.aJ.1) (enc a6.aJ.2) none) []),(5,.box (Row.row I)),(6,.arr 2 (enc c4.1)),(7,.arr 4 (enc a6.outs))],8,191⟩:St)) (fun ((n_,b2,a6):Nat×Int×a7)=>d9 (q3u T I c4) n_ (b2,a6)=some r) (fun p=>p.1) (rounds,0,Z) [some 5,some 8,some 7] ?_ h ?_
   . simp only[go_sem,Le]<;>(repeat' apply Xc)<;>(try with_reducible refine q04 ?_)<;>first|omega|(simp[go_sem];done)
   rintro⟨fH,b2,a6⟩ h _ eF
   dsimp only at h;replace h:=qc8 h;obtain⟨fi,rfl,h⟩:=h;rw[q3u]at h;refine sgW fun _ fj=>?_;refine wv ?_;simp only[go_sem];refine y8 fj ?_;refine sgW fun _ eG=>?_;refine q4m (b:=(decide (b2<(c4.1.length:Int)))) (by (simp only[go_sem];done)) (fun bv=>?_) (fun bv=>?_)
   .
    replace h:=q1k h bv;simp only[bool_to_prop]at bv;refine wv ?_;refine y7 (y8 eG ?_);refine sgW fun _ fk=>?_;refine qq2 fun _ fl=>?_;refine sgW fun _ fm=>?_;refine wv ?_;obtain⟨ar,eH,h⟩:=w9 h;obtain⟨eI,eJ,eK⟩:=q83 eH;simp only[go_sem,eI,eJ,eK];refine Xc (by omega) ?_;refine y8 fm ?_;refine wv ?_;refine q07 ?_;refine q2g 13 0 0 [0,0,2,6,14,0,0,64,192,0,992,2016,4094,8191,16383,32767] [7,9] [0] [] [12] [] mixed (by kernel_rfl) (of_decide_eq_true (by kernel_rfl)) (by kernel_rfl) (by kernel_rfl) (by rfl) ?_;have eb:[[.v (.int .i64 T),.v (.int .i64 I.C.a0),.v (.int .i64 ar.K),.v (.int .i64 ar.V)]]=enc ([(⟨T,I.C.a0,ar⟩:aD)]:List aD):=by rfl
    obtain⟨dI,h⟩:=q06 h;simp only[Xf,Xg,Xd,Xv]at dI;have ec:enc a6.outs++[[.v (.int .i64 T),.v (.int .i64 I.C.a0),.v (.int .i64 ar.K),.v (.int .i64 ar.V)]]=enc (a6.outs++([(⟨T,I.C.a0,ar⟩:aD)]:List aD)):=by exact (q2x a6.outs ([(⟨T,I.C.a0,ar⟩:aD)]:List aD)).symm
    simp only[go_sem,dI,ec];simp only[eb];refine q08 fl (y8 fk ?_);refine wv ?_;simp only[go_sem];refine p8 eF (⟨(fi,i64.wrap (b2+1),(⟨a6.g,a6.ins,a6.aK,a6.aJ,a6.work,a6.aB,(a6.outs++([(⟨T,I.C.a0,ar⟩:aD)]:List aD)),a6.e⟩:a7)),[some 5,some 6,some 9],?_,h,X4 _⟩);simp only[go_sem,Le]<;>(repeat' apply Xc)<;>(try with_reducible refine q04 ?_)<;>first|omega|(simp[go_sem];done)
   replace h:=q1l h bv;simp only[bool_to_prop]at bv;refine wv ?_;refine q0n (z07 eG ?_);refine q0o eF (q0h fh (y8 ff ?_));refine sgW fun _ fo=>?_;refine wv ?_;simp only[go_sem];refine y8 fo ?_;refine wv ?_;refine q03 (q31 eE ?_);simp only[go_sem];obtain rfl:=Xe h;refine q2b [some 7] ?_;simp only[go_sem,Le]<;>(repeat' apply Xc)<;>(try with_reducible refine q04 ?_)<;>first|omega|(simp[go_sem];done)
  replace h:=q1l h bs;simp only[bool_to_prop]at bs;refine wv ?_;refine y7 (p8 eE (⟨(),[some 5,some 8,some 7],?_,h⟩));simp only[go_sem,Le]<;>(repeat' apply Xc)<;>(try with_reducible refine q04 ?_)<;>first|omega|(simp[go_sem];done)
 rintro⟨⟩ h
 try dsimp only at h
 rw[q5t]at h;refine sgW fun _ fp=>?_;refine wv ?_;obtain⟨b3,ee,h⟩:=w9 h;simp only[go_sem];refine q7h [0,1,2,3,7] (z0p Z T I b3 ee) (by simp) rfl ⟨rfl,⟨rfl,⟨rfl,⟨rfl,⟨rfl,trivial⟩⟩⟩⟩⟩ rfl rfl rfl rfl ?_;simp only[go_sem];refine y8 fp ?_;refine sgW fun _ eL=>?_;refine sgW fun _ fq=>?_;refine wv ?_;simp only[go_sem];refine y8 fq ?_;refine q4m (b:=((!b3.2.1)||((c5.1.length:Int)==0))) (by (simp only[go_sem];done)) (fun cd=>?_) (fun cd=>?_)
 .
  replace h:=q1k h cd;simp only[bool_to_prop]at cd;refine sgW fun _ fr=>?_;refine wv ?_;simp only[go_sem];refine y8 fr ?_;refine wv ?_;refine q03 (qz8 eL ?_);simp only[go_sem];obtain rfl:=Xe h;refine q2b [some 8] ?_;simp only[go_sem,Le]<;>(repeat' apply Xc)<;>(try with_reducible refine q04 ?_)<;>first|omega|(simp[go_sem];done)
 replace h:=q1l h cd;simp only[bool_to_prop]at cd;refine wv ?_;refine y7 (y8 eL ?_);refine j2m (ι:=a7) (fun (an:a7)=>(⟨5,[(0,.ptr 0 0)],[(0,.box [.sl 1 (enc an.g.af),.sl 1 (enc an.g.aG),.sl 4 (enc an.g.ae),.sl 4 (enc an.g.aw),.mp 1,.mp 2,.mp 3,.v (.int .i64 an.work),.v (.int .i64 an.aB),.osl 5 4 (0) (an.outs.length),.v (.int .i64 an.e)]),(1,.con (p9 pp 103 0 (q00 an.ins.1) (enc an.ins.2) none) []),(2,.con (p9 pp 3 1 (q00 an.aK.1) (enc an.aK.2) none) []),(3,.con (p9 pp 103 2 (q00 an.aJ.1) (enc an.aJ.2) none) []),(5,.arr 4 (enc an.outs))],6,191⟩:St)) (fun (an:a7)=>q5s an=some r) ?_ ?_
 .
  intro _ fs;refine sgW fun _ ft=>?_;refine wv ?_;simp only[go_sem];refine y8 ft ?_;refine qq2 fun _ fv=>?_;refine ze1 (ι:=Nat×(List a8)×Int×a7) (fun ((_,b1,ao,ak):Nat×(List a8)×Int×a7)=>(⟨5,[(0,.ptr 0 0),(1,.v (.int .i64 T)),(10,.sl 3 (enc b1)),(16,.ptr 5 0),(151,.sl 4 (enc b3.2.2.g.aw)),(152,.v (.int .i64 (b3.2.2.g.aw.length:Int))),(153,.v (.int .i64 ao))],[(0,.box [.sl 1 (enc ak.g.af),.sl 1 (enc ak.g.aG),.sl 4 (enc ak.g.ae),.sl 4 (enc ak.g.aw),.mp 1,.mp 2,.mp 3,.v (.int .i64 ak.work),.v (.int .i64 ak.aB),.osl 6 4 (0) (ak.outs.length),.v (.int .i64 ak.e)]),(1,.con (p9 pp 103 0 (q00 ak.ins.1) (enc ak.ins.2) none) []),(2,.con (p9 pp 3 1 (q00 ak.aK.1) (enc ak.aK.2) none) []),(3,.con (p9 pp 103 2 (q00 ak.aJ.1) (enc ak.aJ.2) none) []),(5,.box (Row.row b3.1)),(6,.arr 4 (enc ak.outs))],7,191⟩:St)) (fun ((n_,b1,ao,ak):Nat×(List a8)×Int×a7)=>d9 (q3v T b3) n_ (b1,ao,ak)=some r) (fun p=>p.1) (rounds,c5.1,0,b3.2.2) [some 9,some 8] ?_ h ?_
  . simp only[go_sem,Le]<;>(repeat' apply Xc)<;>(try with_reducible refine q04 ?_)<;>first|omega|(simp[go_sem];done)
  rintro⟨fI,b1,ao,ak⟩ h _ ef
  dsimp only at h;replace h:=qc8 h;obtain⟨eM,rfl,h⟩:=h;rw[q3v]at h;refine sgW fun _ fw=>?_;refine wv ?_;simp only[go_sem];refine y8 fw ?_;refine sgW fun _ eN=>?_;refine q4m (b:=(decide (ao<(b3.2.2.g.aw.length:Int)))) (by (simp only[go_sem];done)) (fun c0=>?_) (fun c0=>?_)
  .
   replace h:=q1k h c0;simp only[bool_to_prop]at c0;refine wv ?_;refine y7 (y8 eN ?_);refine sgW fun _ eO=>?_;refine qq2 fun _ eP=>?_;refine sgW fun _ fx=>?_;refine wv ?_;obtain⟨d6,fy,h⟩:=w9 h;obtain⟨fz,fA,fB⟩:=q83 fy;simp only[go_sem,fz,fA,fB];refine Xc (by omega) ?_;refine y8 fx ?_;refine sgW fun _ fC=>?_;refine wv ?_;simp only[go_sem];refine y8 fC ?_;refine q4m (b:=(d6.aL==T)) (by (simp only[go_sem];done)) (fun c1=>?_) (fun c1=>?_)
   .
    replace h:=q1k h c1;simp only[bool_to_prop]at c1;refine sgW fun _ fD=>?_;refine wv ?_;obtain⟨b4,eg,h⟩:=w9 h;simp only[go_sem];refine q7h [0,1,2,3,6] (qi4 ak d6.To d6.Port b3.1 b1 b4 eg) (by simp) rfl ⟨rfl,⟨rfl,⟨rfl,⟨rfl,⟨rfl,trivial⟩⟩⟩⟩⟩ rfl rfl rfl rfl ?_;simp only[go_sem];refine y8 fD ?_;refine wv ?_;refine q07 ?_;refine k1d ?_;obtain⟨dJ,eh,h⟩:=w9 h;simp only[go_sem];refine br (fun _=>(zt4 b1 dJ eh)) (by rfl) (by rfl) ?_;simp only[go_sem];refine q08 eP (y8 eO ?_);refine wv ?_;simp only[go_sem];refine p8 ef (⟨(eM,b1,i64.wrap (ao+1),(⟨b4.g,b4.ins,b4.aK,b4.aJ,i64.wrap (b4.work+dJ),b4.aB,b4.outs,b4.e⟩:a7)),[some 5,some 8],?_,h,X4 _⟩);simp only[go_sem,Le]<;>(repeat' apply Xc)<;>(try with_reducible refine q04 ?_)<;>first|omega|(simp[go_sem];done)
   replace h:=q1l h c1;simp only[bool_to_prop]at c1;refine wv ?_;refine y7 (q08 eP (y8 eO ?_));refine wv ?_;simp only[go_sem];refine p8 ef (⟨(eM,b1,i64.wrap (ao+1),ak),[some 5,some 6],?_,h,X4 _⟩);simp only[go_sem,Le]<;>(repeat' apply Xc)<;>(try with_reducible refine q04 ?_)<;>first|omega|(simp[go_sem];done)
  replace h:=q1l h c0;simp only[bool_to_prop]at c0;refine wv ?_;refine q0n (z07 eN ?_);refine q0o ef (q0h fv (p8 fs (⟨ak,[some 6],?_,h⟩)));simp only[go_sem,Le]<;>(repeat' apply Xc)<;>(try with_reducible refine q04 ?_)<;>first|omega|(simp[go_sem];done)
 rintro an h
 try dsimp only at h
 rw[q5s]at h;refine sgW fun _ eQ=>?_;refine sgW fun _ fE=>?_;refine wv ?_;refine q07 ?_;refine k1d ?_;simp only[go_sem];refine y8 fE ?_;refine q4m (b:=(decide (an.aB<an.work))) (by (simp only[go_sem];done)) (fun c2=>?_) (fun c2=>?_)
 .
  replace h:=q1k h c2;simp only[bool_to_prop]at c2;refine wv ?_;simp only[go_sem];refine y8 eQ ?_;refine sgW fun _ fF=>?_;refine wv ?_;simp only[go_sem];refine y8 fF ?_;refine wv ?_;refine q03 ?_;simp only[go_sem];obtain rfl:=Xe h;refine q2b [some 5] ?_;simp only[go_sem,Le]<;>(repeat' apply Xc)<;>(try with_reducible refine q04 ?_)<;>first|omega|(simp[go_sem];done)
 replace h:=q1l h c2;simp only[bool_to_prop]at c2;refine wv ?_;refine y7 (y8 eQ ?_);refine sgW fun _ fG=>?_;refine wv ?_;simp only[go_sem];refine y8 fG ?_;refine wv ?_;refine q03 ?_;simp only[go_sem];obtain rfl:=Xe h;refine q2b [some 5] ?_;simp only[go_sem,Le]<;>(repeat' apply Xc)<;>(try with_reducible refine q04 ?_)<;>first|omega|(simp[go_sem];done)
def q80(G:a7)(I:Int)(T:Int->Option (Bool×a7)):Int->Option (Bool×a7):=
 fun W=>
 (if (decide (0<=W))=true then (if (W==I)=true then some (true,G)
 else q9 (idx G.g.af W) (fun Z=>
 T Z))
 else some (false,G))
def q43(I:a7)(T:Int)(G:Int):Option (Bool×a7):=
 d9 (q80 I G) rounds T
theorem z06(G:a7)(T:Int)(I:Int)(r:Bool×a7)(h:q43 G T I=some r):ba pp 53 [.ptr 0 0,.v (.int .i64 T),.v (.int .i64 I)] [(0,.box [.sl 1 (enc G.g.af),.sl 1 (enc G.g.aG),.sl 4 (enc G.g.ae),.sl 4 (enc G.g.aw),.mp 1,.mp 2,.mp 3,.v (.int .i64 G.work),.v (.int .i64 G.aB),.osl 4 4 (0) (G.outs.length),.v (.int .i64 G.e)]),(1,.con (p9 pp 103 0 (q00 G.ins.1) (enc G.ins.2) none) []),(2,.con (p9 pp 3 1 (q00 G.aK.1) (enc G.aK.2) none) []),(3,.con (p9 pp 103 2 (q00 G.aJ.1) (enc G.aJ.2) none) []),(4,.arr 4 (enc G.outs))] 5 (.v (.bool r.1)) [(0,.box [.sl 1 (enc r.2.g.af),.sl 1 (enc r.2.g.aG),.sl 4 (enc r.2.g.ae),.sl 4 (enc r.2.g.aw),.mp 1,.mp 2,.mp 3,.v (.int .i64 r.2.work),.v (.int .i64 r.2.aB),.osl 5 4 (0) (r.2.outs.length),.v (.int .i64 r.2.e)]),(1,.con (p9 pp 103 0 (q00 r.2.ins.1) (enc r.2.ins.2) none) []),(2,.con (p9 pp 3 1 (q00 r.2.aK.1) (enc r.2.aK.2) none) []),(3,.con (p9 pp 103 2 (q00 r.2.aJ.1) (enc r.2.aJ.2) none) []),(5,.arr 4 (enc r.2.outs))] 6:=by
 refine dtI Tryz.func53 rfl ?_;rw[q43]at h;have F:=trivial;refine sM ?_;refine jg fun _ Q2=>?_;refine z8 fun _ Q3=>?_;refine q0e h [0,2] (fun W=>([(1,.v (.int .i64 W))],[(0,.box [.sl 1 (enc G.g.af),.sl 1 (enc G.g.aG),.sl 4 (enc G.g.ae),.sl 4 (enc G.g.aw),.mp 1,.mp 2,.mp 3,.v (.int .i64 G.work),.v (.int .i64 G.aB),.osl 4 4 (0) (G.outs.length),.v (.int .i64 G.e)]),(1,.con (p9 pp 103 0 (q00 G.ins.1) (enc G.ins.2) none) []),(2,.con (p9 pp 3 1 (q00 G.aK.1) (enc G.aK.2) none) []),(3,.con (p9 pp 103 2 (q00 G.aJ.1) (enc G.aJ.2) none) []),(4,.arr 4 (enc G.outs))])) 5 ?_;rintro Z W h _ Q4;rw[q80]at h;exact au
end Go.Proofs.YtomicnbiniapfaaGreat

/-
  The laws in plain words: what the plain functions give. No condition beyond those that each theorem names.
-/
import Derived.Test.YtdcdfkdhomekeaaGreatWalkWM0
import Derived.Test.YtdcdfkdhomekeaaGreatWalkWM1
import Derived.Test.YtdcdfkdhomekeaaGreatWalkWM2
import Derived.Test.YtdcdfkdhomekeaaGreatLawWM1
import Derived.Test.YtdcdfkdhomekeaaGreatLawWM0
set_option linter.unusedSimpArgs false
set_option linter.unusedVariables false
set_option linter.unusedSectionVars false
open List renaming getElem_mem->Xa,mem_singleton->Xb,replicate->Xc,cons_append->Xd,mem_append->Xe,getD_eq_getElem?_getD->Xf,pairwise_iff_forall_sublist->Xh,take_succ_eq_append_getElem->Xk,length_cons->Xl,getElem_cons_zero->Xm,filter_cons_of_pos->Xn,take_length->Xo,take_of_length_le->Xp,append_nil->Xq,getElem?_eq_none->Xr,append_assoc->Xs,mem_map->Xt,length_append->Xu,map_append->Xv,getElem_cons_succ->Xw,getElem_append_right->X3,eq_of_mem_replicate->X4,getElem_append_left->X5,filterMap_cons_none->X6,mem_cons->X8,mem_flatMap->X9,length_singleton->Ya,nodup_cons->Yb,sum_append->Yc,pairwise_append->Yd,length->Ye,pairwise_cons->Yf,getElem?_append_right->Yh,map_cons->Yi,foldl_append->Yk,Pairwise.nil->Yl,getElem?_append_left->Ym,getElem_map->Yn,filterMap_cons_some->Yo,getElem?_replicate->Yp,filter_cons_of_neg->Yq,length_map->Yr,nil_append->Ys,length_zip->Yt,filter_nil->Yu,drop_of_length_le->Yv,take_append_drop->Yw,mem_iff_getElem->Yx,drop_succ_cons->Yz,filter_sublist->Y0,any_eq_false->Y3,nodup_append->Y4,pairwise_map->Y5,length_take->Y6,ext_getElem->Y7,range->Y8
open Classical renaming byContradiction->Xg
open Nat renaming zero_le->Xi,le_refl->X7
open Int renaming toNat_natCast->Xj,reduceLT->Xx,add_zero->Xy,le_refl->X0,toNat_of_nonneg->Yy
open Bool renaming or_eq_false_iff->Xz,not_eq_false'->Yg,not_eq_true'->Yj
open Option renaming some.inj->Y9
namespace Go.Proofs.YtdcdfkdhomekeaaGreat
section
open Go Go.RowKit TS VA
namespace UN
open Classical
theorem dO{t:af}(a:ok t):HP.tm (lst t)=t:=by
 unfold HP.tm;rw[HP.dY a,HP.bO a]
theorem j3d:∀(l:List Int) (n:Nat),l.length<=n->List.zipWith (· +·) l (Xc n 0)=l
 |[],_,_=>by simp
 |x::l,0,h=>by simp at h
 |x::l,n+1,h=>by rw[List.replicate_succ,List.zipWith_cons_cons,j3d l n (by simpa using h)];simp
theorem dJ{l:List Int}{d:Nat}(h:l.length=d):HP.th l (Xc d 0) d=l:=by
 unfold HP.th HP.su;rw[Xp (by omega),Xp (by simp),j3d l d (by omega),Yv (by simp),Xq]
theorem j8c{l:List Int}{d:Nat}(h:l.length=d):HP.th l (Xc (d+1) 0) d=l++[0]:=by
 unfold HP.th HP.su;rw[Xp (by omega),List.take_replicate,List.drop_replicate,Nat.min_eq_left (by omega),j3d l d (by omega),show d+1-d=1 by omega];rfl
theorem j8b{l:List Int}{d:Nat}(h:l.length=d):HP.th l (Xc (d-1) 0) (d-1)=l.take (d-1):=by
 unfold HP.th HP.su;rw[Xp (l:=Xc (d-1) 0) (by simp),j3d _ _ (by rw[Y6];omega),Yv (by simp),Xq]
theorem j94{l:List Int}:HP.pad (l++[0])=HP.pad l:=by
 have:∀i,(l++[0]).getD i 0=l.getD i 0:=λi=>by
  rw[Xf,Xf];rcases Nat.lt_trichotomy i l.length with h|h|h
  . rw[Ym h]
  . subst h;rw[Yh (X7 _),Xr (X7 _)];simp
  rw[Xr (by simp;omega),Xr (by omega)]
 unfold HP.pad;rw[this,this,this,this]
theorem jc2{t:af}(j:ok t){d:Nat}(hd:t.D=(d:Int)):Ok (q8v t) λv=>v.2=true->v.1=HP.tm (HP.th (lst t) (Xc (d+1) 0) d)/\ok v.1:=by
 have o:=HP.bO j;have p:=j.1;have q:=j.2.1;unfold q8v;rw[TS.bg];refine Ok.bind (Ok.some (k2h (λ_=>Ok.some λh=>by cases h) (λk=>Ok.some λ_=>?_)));have m:t.D≠4:=by simp[j]at k;exact k
 have l:IntKind.i64.wrap (t.D+1)=((d+1:Nat):Int):=by rw[wrap_i64 _ (by omega)];omega
 have n:(⟨IntKind.i64.wrap (t.D+1),t.C⟩:af)=HP.tm (HP.th (lst t) (Xc (d+1) 0) d):=by
  rw[j8c (by omega)];unfold HP.tm;rw[j94,HP.dY j,l,Xu,Ya]
  congr 1;omega
 refine⟨n,?_⟩;rw[l];unfold ok at j⊢;obtain⟨a,b,c,e,f,g⟩:=j;dsimp only;refine⟨by omega,by omega,c,⟨e.1,?_⟩,⟨f.1,?_⟩,⟨g.1,?_⟩⟩
 . have:=e.2;split at this<;>split<;>omega
 . have:=f.2;split at this<;>split<;>omega
 have:=g.2;split at this<;>split<;>omega
theorem jc1{t:af}(a:ok t){d:Nat}(hd:t.D=(d:Int)):Ok (q8u t) λv=>v.2=true->v.1=HP.tm (HP.th (lst t) (Xc (d-1) 0) (d-1))/\ok v.1:=by
 have g:=HP.bO a;have c:=cL a;unfold q8u;rw[TS.bg];refine Ok.bind (Ok.some (k2h (λ_=>Ok.some λh=>by cases h) (λe=>?_)));have b:t.D≠1:=by simp[a]at e;exact e
 have f:IntKind.i64.wrap (t.D-1)=((d-1:Nat):Int):=by rw[wrap_i64 _ (by omega)];omega
 rw[f];refine Ok.guard (by omega) (Ok.bind (Ok.some (Ok.bind (Ok.some (Ok.bind (Ok.some (Ok.bind (Ok.some (Ok.some λ_=>?_)))))))));rw[j8b (by omega),Xj];obtain⟨D,⟨a0,a1,a2,a3⟩⟩:=t;dsimp only at hd c b;unfold ok at a⊢;dsimp only at a⊢;rcases c with rfl|rfl|rfl|rfl
 . exact absurd rfl b
 .
  obtain rfl:d=2:=by omega
  simp only[Xx,if_false,if_true]at a;obtain⟨rfl,rfl⟩:a2=0/\a3=0:=by omega
  exact⟨rfl,by simp,by simp,a.2.2.1,by simp,by simp,by simp⟩
 .
  obtain rfl:d=3:=by omega
  simp only[Xx,if_false,if_true]at a;obtain rfl:a3=0:=by omega
  refine⟨rfl,by simp,by simp,a.2.2.1,?_,by simp,by simp⟩
  simpa using a.2.2.2.1
 obtain rfl:d=4:=by omega
 simp only[Xx,if_false,if_true]at a;refine⟨rfl,by simp,by simp,a.2.2.1,?_,?_,by simp⟩
 . simpa using a.2.2.2.1
 simpa using a.2.2.2.2.1
theorem jo0{t:af}(b:ok t){d:Nat}(hd:t.D=(d:Int)):Ok (qb5 t) λv=>v.2=true->v.1=HP.tm (HP.th (lst t) (Xc (d-1) 0++[1]) d)/\ok v.1:=by
 have k:=HP.bO b;have f:=cL b;unfold qb5;rw[TS.bg];refine Ok.bind (Ok.some (k2h (λ_=>?_) (λc=>Ok.some λh=>by cases h)));have g:IntKind.i64.wrap (t.D-1)=((d-1:Nat):Int):=by rw[wrap_i64 _ (by omega)];omega
 rw[g];obtain⟨D,⟨a0,a1,a2,a3⟩⟩:=t;dsimp only at hd f;have j:=b;unfold ok at b;dsimp only at b;unfold q8k;rcases f with rfl|rfl|rfl|rfl
 .
  obtain rfl:d=1:=by omega
  simp only[Xx,if_false]at b;obtain⟨rfl,rfl,rfl⟩:a1=0/\a2=0/\a3=0:=by omega
  refine Ok.guard (by decide) (Ok.bind (Ok.of_eq rfl (Ok.bind (Ok.of_eq rfl (k2h (λ_=>Ok.some λh=>by cases h) (λc=>Ok.guard (by decide) (Ok.bind (Ok.of_eq rfl (Ok.guard (by decide) (Ok.bind (Ok.some (Ok.bind (Ok.some (Ok.bind (Ok.some (Ok.bind (Ok.some (Ok.some λ_=>?_))))))))))))))))));have e:a0≠1048576:=by simpa using c
  have a:IntKind.i64.wrap (a0+1)=a0+1:=wrap_i64 _ (by omega);refine⟨?_,?_⟩
  .
   show (⟨1,⟨IntKind.i64.wrap (a0+1),0,0,0⟩⟩:af)=⟨1,⟨a0+1,0,0,0⟩⟩
   rw[a]
  show ok ⟨1,⟨IntKind.i64.wrap (a0+1),0,0,0⟩⟩
  rw[a];unfold ok;dsimp only;exact⟨by omega,by omega,by omega,by simp,by simp,by simp⟩
 .
  obtain rfl:d=2:=by omega
  simp only[Xx,if_false,if_true]at b;obtain⟨rfl,rfl⟩:a2=0/\a3=0:=by omega
  refine Ok.guard (by decide) (Ok.bind (Ok.of_eq rfl (Ok.bind (Ok.of_eq rfl (k2h (λ_=>Ok.some λh=>by cases h) (λc=>Ok.guard (by decide) (Ok.bind (Ok.of_eq rfl (Ok.guard (by decide) (Ok.bind (Ok.some (Ok.bind (Ok.some (Ok.bind (Ok.some (Ok.bind (Ok.some (Ok.some λ_=>?_))))))))))))))))));have e:a1≠64:=by simpa using c
  have a:IntKind.i64.wrap (a1+1)=a1+1:=wrap_i64 _ (by omega);refine⟨?_,?_⟩
  .
   show (⟨2,⟨a0,IntKind.i64.wrap (a1+1),0,0⟩⟩:af)=⟨2,⟨a0+0,a1+1,0,0⟩⟩
   rw[a,Xy]
  show ok ⟨2,⟨a0,IntKind.i64.wrap (a1+1),0,0⟩⟩
  rw[a];unfold ok;dsimp only;exact⟨by omega,by omega,by omega,by simp;omega,by simp,by simp⟩
 .
  obtain rfl:d=3:=by omega
  simp only[Xx,if_false,if_true]at b;obtain rfl:a3=0:=by omega
  refine Ok.guard (by decide) (Ok.bind (Ok.of_eq rfl (Ok.bind (Ok.of_eq rfl (k2h (λ_=>Ok.some λh=>by cases h) (λc=>Ok.guard (by decide) (Ok.bind (Ok.of_eq rfl (Ok.guard (by decide) (Ok.bind (Ok.some (Ok.bind (Ok.some (Ok.bind (Ok.some (Ok.bind (Ok.some (Ok.some λ_=>?_))))))))))))))))));have e:a2≠64:=by simpa using c
  have a:IntKind.i64.wrap (a2+1)=a2+1:=wrap_i64 _ (by omega);refine⟨?_,?_⟩
  .
   show (⟨3,⟨a0,a1,IntKind.i64.wrap (a2+1),0⟩⟩:af)=⟨3,⟨a0+0,a1+0,a2+1,0⟩⟩
   rw[a,Xy,Xy]
  show ok ⟨3,⟨a0,a1,IntKind.i64.wrap (a2+1),0⟩⟩
  rw[a];unfold ok;dsimp only;exact⟨by omega,by omega,by omega,by simp;omega,by simp;omega,by simp⟩
 obtain rfl:d=4:=by omega
 simp only[Xx,if_true]at b;refine Ok.guard (by decide) (Ok.bind (Ok.of_eq rfl (Ok.bind (Ok.of_eq rfl (k2h (λ_=>Ok.some λh=>by cases h) (λc=>Ok.guard (by decide) (Ok.bind (Ok.of_eq rfl (Ok.guard (by decide) (Ok.bind (Ok.some (Ok.bind (Ok.some (Ok.bind (Ok.some (Ok.bind (Ok.some (Ok.some λ_=>?_))))))))))))))))));have e:a3≠64:=by simpa using c
 have a:IntKind.i64.wrap (a3+1)=a3+1:=wrap_i64 _ (by omega);refine⟨?_,?_⟩
 .
  show (⟨4,⟨a0,a1,a2,IntKind.i64.wrap (a3+1)⟩⟩:af)=⟨4,⟨a0+0,a1+0,a2+0,a3+1⟩⟩
  rw[a,Xy,Xy,Xy]
 show ok ⟨4,⟨a0,a1,a2,IntKind.i64.wrap (a3+1)⟩⟩
 rw[a];unfold ok;dsimp only;exact⟨by omega,by omega,by omega,by simp;omega,by simp;omega,by simp;omega⟩
theorem eW{g:aa}(u:VA.Good g){n:Nat}(w:n<g.al.length){t:af}(f:ok t):Ok (q9d g (n:Int) t) λv=>v.2=true->t.D=(HP.lev g n:Int)/\ok v.1/\∀e∈g.aw,e.aO.toNat=n->v.1=HP.tm (HP.th (lst t) (HP.b7 g e).2 (HP.b7 g e).1):=by
 have G:=HP.bO f;have B:=u.nl;unfold q9d;rw[if_neg (by simp;omega),TS.bg];refine Ok.bind (Ok.some (k2h (λ_=>?_) (λ_=>Ok.some λh=>by cases h)));rw[HP.cZ u w];refine Ok.bind (Ok.some (k2h (λ_=>Ok.some λh=>by cases h) (λC=>?_)));have a:t.D=(HP.lev g n:Int):=by simpa using C
 refine Ok.bind (k2i w ?_);rw[q7i w];have o:=HP.aQ u w;refine k2h (λb=>?_) (λb=>k2h (λd=>?_) (λd=>k2h (λj=>?_) (λj=>?_)))
 .
  have k:(nd g n).Kind=10:=by simpa using b
  refine k2g (jc2 f a) λv p=>Ok.some λh=>?_;obtain⟨q,s⟩:=p h;refine⟨a,s,λe _ l=>?_⟩;unfold HP.b7 HP.cF;rw[l,if_pos k];exact q
 .
  have c:(nd g n).Kind≠10:=by simpa using b
  have k:(nd g n).Kind=11:=by simpa using d
  refine k2g (jc1 f a) λv p=>Ok.some λh=>?_;obtain⟨q,s⟩:=p h;refine⟨a,s,λe _ l=>?_⟩;unfold HP.b7 HP.cF;rw[l,if_neg c,if_pos k];exact q
 .
  have c:(nd g n).Kind≠10:=by simpa using b
  have m:(nd g n).Kind≠11:=by simpa using d
  have k:(nd g n).Kind=12:=by simpa using j
  have z:=u.bl;have H:=f.1;have I:=f.2.1;have E:IntKind.i64.wrap (t.D-1)=((HP.lev g n-1:Nat):Int):=by rw[wrap_i64 _ (by omega)];omega
  rw[E];refine Ok.guard (by omega) (Ok.bind (k2i (show HP.lev g n-1<4 by omega) ?_));refine Ok.bind (Ok.dg o.1 (by rw[z];exact o.2.1) λy _=>?_);refine k2h (λ_=>Ok.some λh=>by cases h) (λ_=>?_);refine k2g (jo0 f a) λv p=>Ok.some λh=>?_;obtain⟨q,s⟩:=p h;refine⟨a,s,λe _ l=>?_⟩;unfold HP.b7 HP.cF;rw[l,if_neg c,if_neg m,if_pos k];exact q
 have c:(nd g n).Kind≠10:=by simpa using b
 have m:(nd g n).Kind≠11:=by simpa using d
 have A:(nd g n).Kind≠12:=by simpa using j
 refine Ok.some λ_=>⟨a,f,λe _ l=>?_⟩;unfold HP.b7 HP.cF;rw[l,if_neg c,if_neg m,if_neg A];dsimp only;rw[dJ (by omega),dO f]
end UN
end
section
open Go Go.RowKit TS VA
namespace WV
open Classical
def q88(g:aa)(p:ax):Prop:=∃n:Nat,n<g.al.length/\p.Node=(n:Int)/\ok p.Time/\p.Time.D=(HP.lev g n:Int)
def Tb(g:aa)(a:List (List (List aH))):Prop:=∃tbl:Nat->List (List HP.Hp),a=HP.dU g tbl g.al.length/\∀j<g.al.length,HP.fJ g j (tbl j)
def R(a:List (List (List aH)))(q p:ax):Bool:=(q50 a q.Node q.Time p.Node p.Time).getD false
theorem ze3{g:aa}(f:VA.Good g){tbl:Nat->List (List HP.Hp)}(e:∀j<g.al.length,HP.fJ g j (tbl j)){n m:Nat}(c:n<g.al.length)(k:m<g.al.length):
 qb6 (HP.dU g tbl g.al.length) (n:Int) (m:Int)=some ((HP.rw_ (tbl n) m).map (HP.mkp (HP.lev g n))):=by
 have d:=(e n c).R.len;unfold qb6;have a:(HP.dU g tbl g.al.length).length=g.al.length:=by unfold HP.dU;simp
 refine k2k ?_;rw[if_neg (by rw[a];simp;omega)];refine Ok.bind (k2i (by rw[a];exact c) ?_);have b:(HP.dU g tbl g.al.length)[n]'(by rw[a];exact c)=HP.gh (HP.lev g n:Int) (tbl n):=by unfold HP.dU;rw[Yn,List.getElem_range]
 rw[b];rw[if_neg (by unfold HP.gh;rw[Yr,d];simp;omega)];exact Ok.bind (HP.eC (by omega) (Ok.some rfl))
theorem j20{g:aa}(c:VA.Good g){a:List (List (List aH))}(k:Tb g a){q p:ax}(o:q88 g q)(hp:q88 g p):q50 a q.Node q.Time p.Node p.Time=some (R a q p):=by
 have h:Ok (q50 a q.Node q.Time p.Node p.Time) λ_=>True:=by
  obtain⟨tbl,rfl,d⟩:=k;obtain⟨n,e,s,t,u⟩:=o;obtain⟨m,w,y,C,D⟩:=hp;have z:=c.nl;unfold q50;rw[s,y,ze3 c d e w];refine Ok.bind (Ok.some ?_);have A:=(d n e).R.short (by omega) (λv=>(HP.fC c v).2) m;refine k2l (l:=HP.rw_ (tbl n) m) (by omega) (λ_=>True) 0 (λrec i hi _ _ j=>?_) (λrec _=>?_) trivial (Xi _)
  . obtain⟨f,B⟩:=(d n e).R.rp _ _ (Xa hi);unfold q6u;rw[if_pos (by simp;omega),iw hi (by omega)];refine Ok.bind (k2i (by simpa using hi) ?_);rw[Yn,show HP.mkp (HP.lev g n:Int) (HP.rw_ (tbl n) m)[i]=HP.mk (HP.lev g n:Int) (HP.rw_ (tbl n) m)[i].1 (HP.rw_ (tbl n) m)[i].2 from rfl,HP.ej f t u];refine Ok.bind (Ok.some ?_);refine k2h (λ_=>?_) (λ_=>j trivial);rw[TS.le_eq];exact Ok.bind (Ok.some (k2h (λ_=>Ok.some trivial) (λ_=>j trivial)))
  unfold q6u;rw[if_neg (by simp)];exact Ok.some trivial
 obtain⟨b,hb,_⟩:=h;unfold R;rw[hb];rfl
def dt(a:List (List (List aH)))(l:List ax)(p:ax):Prop:=∀q∈l,q≠p->R a q p=false
theorem j1j{s:List ax}{f:ax->Option Bool}{p:ax->Bool}(a:s.length<9223372036854775808)(b:∀x∈s,f x=some (p x)):q65 s f=some (s.any p):=qg6 a b
theorem j4n{g:aa}(e:VA.Good g){b:List (List (List aH))}(f:Tb g b){l:List ax}(j:∀q∈l,q88 g q)(k:l.length<1000000000){p:ax}(hp:q88 g p):
 q6s b l p=some (decide (dt b l p)):=by
 unfold q6s;rw[j1j (p:=λq=>decide (q≠p/\R b q p=true)) (by omega) (λq a=>by
  unfold q96;rw[UN.fQ];refine k2k (k2h (λh=>Ok.some ?_) (λh=>?_))
  . simp only[decide_eq_true_eq]at h;simp[h]
  . simp only[decide_eq_false_iff_not]at h;rw[j20 e f (j q a) hp];exact Ok.bind (Ok.some (Ok.some (by simp[h])))
  )]
 refine k2k (Ok.bind (Ok.some (Ok.some ?_)));rw[Bool.eq_iff_iff];simp only[Yj,Y3,decide_eq_true_eq];unfold dt
 constructor
 . exact λh q a c=>by simpa [c]using h q a
 intro h q a d;have:=h q a d.1;rw[this]at d;exact absurd d.2 (by simp)
def lt(a b:ax):Prop:=a.Node<b.Node\/a.Node=b.Node/\key a.Time<key b.Time
theorem ja6(a b:Int):q38 a b=some (if a<b then -1 else if b<a then 1 else 0):=by
 simp only[q38,q8c,q9,Option.bind_some,beq_self_eq_true,Bool.not_true,Bool.false_eq_true,if_false,decide_eq_true_eq]
 split<;>(try rfl)
 split<;>rfl
theorem z6i{a b:ax}(f:ok a.Time)(hb:ok b.Time):Ok (qe8 a b) λn=>n<0↔lt a b:=by
 unfold qe8;rw[ja6];refine Ok.bind (Ok.some (k2h (λh=>Ok.some ?_) (λh=>?_)))
 .
  unfold lt;split<;>rename_i c<;>first|(split at h<;>simp_all<;>omega)|(simp at h)|skip
  all_goals (constructor<;>intro g<;>first|omega|(split at g<;>omega)|(split<;>omega))
 have d:a.Node=b.Node:=by
  split at h
  . simp at h
  split at h
  . simp at h
  omega
 rw[z9a,z9a];refine Ok.bind (Ok.some (k2h (λc=>Ok.some ?_) (λc=>Ok.bind (Ok.some (k2h (λe=>Ok.some ?_) (λe=>Ok.some ?_))))))
 . simp only[decide_eq_true_eq]at c;unfold lt;simp[d,c.2.2]
 . simp only[decide_eq_true_eq,decide_eq_false_iff_not]at c e;unfold lt;simp[d];omega
 simp only[decide_eq_false_iff_not]at c e;unfold lt;simp[d];exact Int.not_lt.1 λj=>c ⟨f,hb,j⟩
theorem z3z{a b c:ax}(h:lt a b)(k:lt b c):lt a c:=by unfold lt at*;omega
theorem qi4(a:ax):¬lt a a:=by unfold lt;omega
def Next(a:List (List (List aH)))(l:List ax)(i:Int):Prop:=
 (i=-1/\∀p∈l,¬dt a l p)\/∃k:Nat,∃h:k<l.length,i=(k:Int)/\dt a l l[k]/\∀p∈l,dt a l p->¬lt p l[k]
def fW(a:List (List (List aH)))(l:List ax)(j:Nat)(i:Int):Prop:=
 (i=-1/\∀p∈l.take j,¬dt a l p)\/∃k:Nat,∃h:k<l.length,i=(k:Int)/\dt a l l[k]/\∀p∈l.take j,dt a l p->¬lt p l[k]
theorem snoc{α:Type}{l:List α}{i:Nat}(h:i<l.length):l.take (i+1)=l.take i++[l[i]]:=Xk h
section
variable {g:aa} (hG:VA.Good g) {r:aq} (hT:Tb g r.table) (hl:∀q∈r.aI.aj,q88 g q) (hll:r.aI.aj.length<1000000)
include hG hT hl hll
theorem j7j{T:Type}{i:Nat}(hi:i<r.aI.aj.length){b:Int}(hb:fW r.table r.aI.aj i b){k:Int×Int->Option T}{Q:T->Prop}(s:∀z,fW r.table r.aI.aj (i+1) z->Ok (k (z,((i+1:Nat):Int))) Q):
 Ok (q9 (idx r.aI.aj (i:Int)) (λ(x:ax)=>
  (if (decide (b<0))=true then q9 (q6s r.table r.aI.aj x) (λ(v:Bool)=>
   (if v=true then k ((i:Int),IntKind.i64.wrap ((i:Int)+1))else k (b,IntKind.i64.wrap ((i:Int)+1))))
  else q9 (idx r.aI.aj b) (λ(y:ax)=>q9 (qe8 x y) (λ(n:Int)=>
   (if (decide (n<0))=true then q9 (q6s r.table r.aI.aj x) (λ(v:Bool)=>
    (if v=true then k ((i:Int),IntKind.i64.wrap ((i:Int)+1))else k (b,IntKind.i64.wrap ((i:Int)+1))))
   else k (b,IntKind.i64.wrap ((i:Int)+1)))))))) Q:=by
 rw[iw hi (by omega)];refine Ok.bind (k2i hi ?_);have A:=hl _ (Xa hi);have j:=j4n hG hT hl (by omega) A;have keep:¬dt r.table r.aI.aj r.aI.aj[i]->Ok (k (b,((i+1:Nat):Int))) Q:=λl=>s b (by
  rcases hb with⟨e,h⟩|⟨m,f,e,u,t⟩
  .
   refine .inl ⟨e,λp hp=>?_⟩;rw[snoc hi,Xe,Xb]at hp;rcases hp with hp|rfl
   . exact h p hp
   exact l
  refine .inr ⟨m,f,e,u,λp hp d=>?_⟩;rw[snoc hi,Xe,Xb]at hp;rcases hp with hp|rfl
  . exact t p hp d
  exact absurd d l)
 refine k2h (λa=>?_) (λa=>?_)
 .
  rw[j];refine Ok.bind (Ok.some (k2h (λh=>s _ ?_) (λh=>keep (by simpa using h))));rcases hb with⟨e,hb⟩|⟨m,f,e,_⟩
  .
   refine .inr ⟨i,hi,rfl,by simpa using h,λp hp d=>?_⟩;rw[snoc hi,Xe,Xb]at hp;rcases hp with hp|rfl
   . exact absurd d (hb p hp)
   exact qi4 _
  simp only[decide_eq_true_eq]at a;omega
 rcases hb with⟨e,hb⟩|⟨m,f,rfl,u,t⟩
 . simp only[decide_eq_false_iff_not]at a;omega
 refine Ok.bind (k2i f ?_);obtain⟨_,_,_,B,_⟩:=A;obtain⟨_,_,_,o2,_⟩:=hl _ (Xa f);refine k2g (z6i B o2) λn l=>k2h (λc=>?_) (λc=>s _ ?_)
 .
  rw[j];have o:=l.1 (by simpa using c);refine Ok.bind (Ok.some (k2h (λh=>s _ ?_) (λh=>keep (by simpa using h))));refine .inr ⟨i,hi,rfl,by simpa using h,λp hp d=>?_⟩;rw[snoc hi,Xe,Xb]at hp;rcases hp with hp|rfl
  . exact λw=>t p hp d (z3z w o)
  exact qi4 _
 refine .inr ⟨m,f,rfl,u,λp hp d=>?_⟩;rw[snoc hi,Xe,Xb]at hp;rcases hp with hp|rfl
 . exact t p hp d
 intro w;have:=l.2 w;simp only[decide_eq_false_iff_not]at c;exact c this
theorem j2n:Ok (q0j r) λv=>v.2=r/\Next r.table r.aI.aj v.1:=by
 unfold q0j;refine k2j (λs=>∃i:Nat,s.2=(i:Int)/\i<=r.aI.aj.length/\fW r.table r.aI.aj i s.1) (λs=>r.aI.aj.length-s.2.toNat) ?_ ⟨0,rfl,Xi _,.inl ⟨rfl,by simp⟩⟩ (by simp only[rounds];omega);rintro rec ⟨b,_⟩ ⟨i,rfl,hi,hb⟩ c;unfold q2c;refine k2h (λh=>?_) (λh=>?_)
 .
  have hi':i<r.aI.aj.length:=by simpa using h
  exact j7j hG hT hl hll hi' hb λd a=>c _ ⟨i+1,rfl,hi',a⟩ (by simp only[Xj];omega)
 obtain rfl:i=r.aI.aj.length:=by simp at h;omega
 refine Ok.some ⟨rfl,?_⟩
 simpa only[fW,Next,Xo]using hb
end
end WV
end
section
open Go Go.RowKit TS VA
namespace WV
open Classical
def Hit(t u:af)(z:HP.Hp):Prop:=ok (HP.tm (HP.th (lst t) z.2 z.1))/\TS.le (HP.tm (HP.th (lst t) z.2 z.1)) u
theorem z9o{g:aa}(k:VA.Good g){tbl:Nat->List (List HP.Hp)}(o:∀j<g.al.length,HP.fJ g j (tbl j)){q p:ax}{n m:Nat}(c:n<g.al.length)(u:m<g.al.length)(w:q.Node=(n:Int))(y:p.Node=(m:Int))(A:ok q.Time)(B:q.Time.D=(HP.lev g n:Int)):
 R (HP.dU g tbl g.al.length) q p=decide (∃z∈HP.rw_ (tbl n) m,Hit q.Time p.Time z):=by
 have C:=k.nl;have E:=(o n c).R.short (by omega) (λv=>(HP.fC k v).2) m;have h:q50 (HP.dU g tbl g.al.length) q.Node q.Time p.Node p.Time=some (decide (∃z∈HP.rw_ (tbl n) m,Hit q.Time p.Time z)):=by
  unfold q50;rw[w,y,ze3 k o c u];refine k2k (Ok.bind (Ok.some ?_));refine k2l (l:=HP.rw_ (tbl n) m) (by omega) (λi=>∀z∈(HP.rw_ (tbl n) m).take i,¬Hit q.Time p.Time z) 0 (λrec i hi _ e t=>?_) (λrec e=>?_) (by simp) (Xi _)
  .
   obtain⟨s,G⟩:=(o n c).R.rp _ _ (Xa hi);unfold q6u;rw[if_pos (by simp;omega),iw hi (by omega)];refine Ok.bind (k2i (by simpa using hi) ?_);rw[Yn,show HP.mkp (HP.lev g n:Int) (HP.rw_ (tbl n) m)[i]=HP.mk (HP.lev g n:Int) (HP.rw_ (tbl n) m)[i].1 (HP.rw_ (tbl n) m)[i].2 from rfl,HP.ej s A B];have d:¬Hit q.Time p.Time (HP.rw_ (tbl n) m)[i]->∀z∈(HP.rw_ (tbl n) m).take (i+1),¬Hit q.Time p.Time z:=λc z b=>by
    rw[snoc hi,Xe,Xb]at b;rcases b with b|rfl
    . exact e z b
    exact c
   refine Ok.bind (Ok.some ?_)
   by_cases a:ok (HP.tm (HP.th (lst q.Time) (HP.rw_ (tbl n) m)[i].2 (HP.rw_ (tbl n) m)[i].1))
   .
    rw[if_pos a];dsimp only;rw[if_pos rfl,TS.le_eq];refine Ok.bind (Ok.some (k2h (λf=>Ok.some ?_) (λf=>t (d λh=>?_))))
    .
     symm;rw[decide_eq_true_eq]
     exact⟨_,Xa hi,a,by simpa using f⟩
    simp only[decide_eq_false_iff_not]at f;exact f h.2
   rw[if_neg a];dsimp only;rw[if_neg (by simp)];exact t (d λh=>a h.1)
  unfold q6u;rw[if_neg (by simp)];rw[Xo]at e;refine Ok.some ?_
  symm;rw[decide_eq_false_iff_not]
  rintro⟨z,b,H⟩;exact e z b H
 unfold R;rw[h];rfl
theorem zv4{ts xs ys:List Int}{k j:Nat}(e:k<=ts.length)(f:k<=xs.length)(g:j<=xs.length)(c:j<=ys.length):HP.th (HP.th ts xs k) ys j=HP.th ts (HP.th xs ys j) (min k j):=by
 have l1:=HP.bw e f;have m:=HP.bw g c;refine Y7 (by rw[HP.bw (by omega) c,HP.bw (by omega) (by omega),m]) λi a b=>?_;rw[<-HP.aW a,<-HP.aW b];rw[HP.bw (by omega) c]at a;have A:=HP.bP (ts:=HP.th ts xs k) (xs:=ys) (k:=j) (i:=i) (by omega) c a;have B:=HP.bP (ts:=ts) (xs:=HP.th xs ys j) (k:=min k j) (i:=i) (by omega) (by omega) (by omega);have C:=HP.bP (ts:=xs) (xs:=ys) (k:=j) (i:=i) g c a;rw[A,B,C]
 by_cases d:i<j
 .
  have D:=HP.bP (ts:=ts) (xs:=xs) (k:=k) (i:=i) e f (by omega);rw[if_pos d,if_pos d,D]
  by_cases l:i<k
  . rw[if_pos l,if_pos (by omega)];omega
  rw[if_neg l,if_neg (by omega)]
 rw[if_neg d,if_neg (by omega),if_neg d]
theorem j28{vs b ys:List Int}{j:Nat}(d:vs.length=b.length)(h:∀i,vs.getD i 0<=b.getD i 0)(c:j<=vs.length)(a:j<=ys.length)(i:Nat):(HP.th vs ys j).getD i 0<=(HP.th b ys j).getD i 0:=by
 by_cases hi:i<ys.length
 .
  rw[HP.bP c a hi,HP.bP (by omega) a hi];have:=h i
  split<;>omega
 rw[HP.getD_none (by rw[HP.bw c a];omega),HP.getD_none (by rw[HP.bw (by omega) a];omega)];exact X0 _
theorem zb8(t:af)(i:Nat):(lst t).getD i 0=if (i:Int)<t.D then (if i=0 then t.C.a0 else if i=1 then t.C.a1 else if i=2 then t.C.a2 else if i=3 then t.C.a3 else 0)else 0:=by
 unfold lst;rw[Xf,List.getElem?_take]
 by_cases h:(i:Int)<t.D
 .
  rw[if_pos (by omega),if_pos h];rcases (by omega:i=0\/i=1\/i=2\/i=3\/4<=i)with rfl|rfl|rfl|rfl|a
  . rfl
  . rfl
  . rfl
  . rfl
  rw[Xr (by simpa using a),if_neg (by omega),if_neg (by omega),if_neg (by omega),if_neg (by omega)];rfl
 rw[if_neg (by omega),if_neg h];rfl
theorem j2s{a b:af}(h:TS.le a b)(i:Nat):(lst a).getD i 0<=(lst b).getD i 0:=by
 obtain⟨_,_,c,d,e,f,g⟩:=h;rw[zb8,zb8,c]
 split
 .
  repeat' split
  all_goals omega
 exact X0 _
theorem zk2{xs:List Int}(a:xs.length<=4)(i:Nat):(lst (HP.tm xs)).getD i 0=xs.getD i 0:=by
 rw[zb8]
 show (if (i:Int)<(xs.length:Int)then _ else _)=_
 by_cases h:(i:Int)<(xs.length:Int)
 . rw[if_pos h];rcases (by omega:i=0\/i=1\/i=2\/i=3)with rfl|rfl|rfl|rfl<;>rfl
 rw[if_neg h,HP.getD_none (by omega)]
theorem j4f{a b c:af}(h:TS.le a b)(k:TS.le b c):TS.le a c:=by
 obtain⟨d,e,f,g,j,l,m⟩:=h;obtain⟨k1,k2,n,o,p,q,s⟩:=k;exact⟨d,k2,by omega,by omega,by omega,by omega,by omega⟩
section
variable {g:aa} (hG:VA.Good g) {tb:List (List (List aH))} (hT:Tb g tb)
include hG hT
theorem jv9{w:ax}(s:q88 g w):R tb w w=true:=by
 obtain⟨tbl,rfl,o⟩:=hT;obtain⟨n,m,p,d,t⟩:=s;rw[z9o hG o m m p p d t,decide_eq_true_eq];obtain⟨y,q,hle⟩:=(o n m).self;obtain⟨c,e⟩:=(o n m).R.rp _ y q;have u:=HP.bO d;have f:=HP.dB d;have j:HP.th (lst w.Time) (Xc (HP.lev g n) 0) (HP.lev g n)=lst w.Time:=UN.dJ (by omega);have z:=c.kf;have A:ok (HP.tm (HP.th (lst w.Time) (Xc (HP.lev g n) 0) (HP.lev g n))):=by rw[j,UN.dO d];exact d
 have l:=HP.fz f (k:=y.1) (by omega) c.kl (k':=HP.lev g n) (by omega) (by simp) (by rw[e];simp) hle;obtain⟨a,b⟩:=HP.fL (by rw[HP.bw (by omega) c.kl,HP.bw (by omega) (by simp),e];simp) (HP.di f c.sm (by omega) c.kl) l A;rw[j,UN.dO d]at b;exact⟨y,q,a,b⟩
theorem k1i{w a p:ax}(k:q88 g w)(l:q88 g a)(h:R tb w a=true)(t:a.Node=p.Node)(o:TS.le a.Time p.Time):R tb w p=true:=by
 obtain⟨tbl,rfl,c⟩:=hT;obtain⟨n,b,d,e,f⟩:=k;obtain⟨m,j,q,_⟩:=l;rw[z9o hG c b j d q e f,decide_eq_true_eq]at h;rw[z9o hG c b j d (by omega) e f,decide_eq_true_eq];obtain⟨z,s,k1,k2⟩:=h;exact⟨z,s,k1,j4f k2 o⟩
theorem jw0{w a:ax}(U:q88 g w)(V:q88 g a)(h:R tb w a=true){e:aU}(G:e∈g.aw)(hf:e.aO=a.Node){u:af}(H:ok u)(o:u=HP.tm (HP.th (lst a.Time) (HP.b7 g e).2 (HP.b7 g e).1)):R tb w ⟨e.To,u⟩=true:=by
 obtain⟨tbl,rfl,p⟩:=hT;obtain⟨n,q,P,E,Q⟩:=U;obtain⟨m,W,X,a1,a2⟩:=V;obtain⟨_,c,f1,Y,_,Z⟩:=MN.db hG G;have t:e.aO.toNat=m:=by omega
 have A:e.To.toNat=c:=by omega
 rw[z9o hG p q W P X E Q,decide_eq_true_eq]at h;rw[z9o hG p q Z P Y E Q,decide_eq_true_eq];obtain⟨z,S,k1,k2⟩:=h;obtain⟨b,a6⟩:=(p n q).R.rp _ z S;have B:HP.Rp (HP.lev g e.aO.toNat:Int) (HP.lev g e.To.toNat) (HP.b7 g e):=(HP.step_eq hG G).1;have I:∀h∈HP.rw_ (tbl n) e.aO.toNat,HP.Rh (HP.lev g n:Int) (HP.thp h (HP.b7 g e)).1 (HP.thp h (HP.b7 g e)).2->HP.cov (HP.rw_ (tbl n) e.To.toNat) (HP.thp h (HP.b7 g e)):=(p n q).cl e G;rw[t,A]at B
 generalize HP.b7 g e=s at*
 obtain⟨d,ao⟩:=B;have ar:=HP.bO E;have b0:=HP.bO a1;have l:=HP.dB E;have b1:=HP.dB a1;have zk:=b.kf;have J:=b.kl;have sk:=d.kf;have sl:=d.kl;have z1:=b.l1;have s1:=d.l1;have l1:(HP.th (lst w.Time) z.2 z.1).length=z.2.length:=HP.bw (by omega) J;have hle:∀i,(HP.th (lst w.Time) z.2 z.1).getD i 0<=(lst a.Time).getD i 0:=λi=>by
  have:=j2s k2 i;rw[zk2 (by omega)]at this;exact this
 have T:HP.th (HP.th (lst w.Time) z.2 z.1) s.2 s.1=HP.th (lst w.Time) (HP.thp z s).2 (HP.thp z s).1:=zv4 (by omega) J (by omega) sl;have K:(HP.thp z s).2.length=s.2.length:=HP.bw (by omega) sl;have up:∀i,(HP.th (lst w.Time) (HP.thp z s).2 (HP.thp z s).1).getD i 0<=(HP.th (lst a.Time) s.2 s.1).getD i 0:=λi=>by
  rw[<-T];exact j28 (by omega) hle (by omega) sl i
 have b2:(HP.th (lst a.Time) s.2 s.1).length=s.2.length:=HP.bw (by omega) sl;have L:∀i,(HP.thp z s).2.getD i 0<=(HP.th (HP.th (lst w.Time) z.2 z.1) s.2 s.1).getD i 0:=λi=>by
  refine j28 (by omega) (λj=>?_) (by omega) sl i
  by_cases hj:j<z.2.length
  .
   rw[HP.bP (by omega) J hj];have:=HP.cq l j;unfold HP.Sm at this
   split<;>omega
  rw[HP.getD_none (by omega),HP.getD_none (by omega)];exact X0 _
 have M:HP.Rh (HP.lev g n:Int) (HP.thp z s).1 (HP.thp z s).2:=by
  refine⟨b.f0,b.f1,?_,?_,by rw[K];exact d.l0,by omega,λx N=>?_⟩
  . show ((min z.1 s.1:Nat):Int)<=_;omega
  . show min z.1 s.1<=_;omega
  obtain⟨i,hi,rfl⟩:=Yx.1 N;rw[<-HP.aW hi];have g1:=HP.di b.sm d.sm (k:=s.1) (by omega) sl i;have g2:=L i;have g3:=up i;rw[<-T]at g3;have g4:(HP.th (lst a.Time) s.2 s.1).getD i 0<=1048576:=by
   have:=HP.cq (HP.dB H) i;rw[o,zk2 (by omega)]at this;exact this.2
  exact⟨g1,by omega⟩
 obtain⟨y,O,C⟩:=I z (by rw[t];exact S) M;rw[A]at O;obtain⟨f,b3⟩:=(p n q).R.rp _ y O;have yk:=f.kf;have xk:=M.kf;have D:=HP.fz l (k:=y.1) (by omega) f.kl (k':=(HP.thp z s).1) (by omega) M.kl (by omega) C;rw[o]at H⊢;obtain⟨r1,r2⟩:=HP.fL (by rw[HP.bw (by omega) f.kl];omega) (HP.di l f.sm (by omega) f.kl) (λi=>Int.le_trans (D i) (up i)) H;exact⟨y,O,r1,r2⟩
end
end WV
end
section
open Go Go.RowKit TS VA
namespace WV
open Classical
def lx:List Int->List Int->Prop
 |a::x,b::y=>a<b\/(a=b/\lx x y)
 |_,_=>False
def lq(x y:List Int):Prop:=lx x y\/x=y
theorem j49:∀{x y z:List Int},lx x y->lx y z->lx x z
 |a::x,b::y,c::z,h,k=>by
  unfold lx at*;rcases h with h|⟨e,d⟩<;>rcases k with k|⟨k1,k2⟩
  . exact .inl (by omega)
  . exact .inl (by omega)
  . exact .inl (by omega)
  exact .inr ⟨by omega,j49 d k2⟩
 |[],_,_,h,_=>by unfold lx at h;cases h
 |_::_,[],_,h,_=>by unfold lx at h;cases h
 |_::_,_::_,[],_,k=>by unfold lx at k;cases k
theorem zz3:∀x:List Int,¬lx x x
 |[]=>λh=>by unfold lx at h;cases h
 |a::x=>λh=>by
  unfold lx at h;rcases h with h|⟨_,h⟩
  . omega
  exact zz3 x h
theorem j4b{x y z:List Int}(h:lq x y)(k:lq y z):lq x z:=by
 rcases h with h|rfl
 .
  rcases k with k|rfl
  . exact .inl (j49 h k)
  exact .inl h
 exact k
theorem zg9:∀(p:List Int) {x y:List Int},lx x y->lx (p++x) (p++y)
 |[],_,_,h=>h
 |a::p,_,_,h=>by
  rw[Xd,Xd];unfold lx;exact .inr ⟨rfl,zg9 p h⟩
theorem j4a{a b:Int}(h:a<b)(x y:List Int):lx (a::x) (b::y):=by unfold lx;exact .inl h
theorem j6l(f:ax->List Int):∀{l:List ax},l≠[]->∃p∈l,∀q∈l,¬lx (f q) (f p)
 |[],h=>absurd rfl h
 |a::l,_=>by
  by_cases e:l=[]
  . subst e;exact⟨a,by simp,λq b=>by rw[Xb.1 b];exact zz3 _⟩
  obtain⟨p,hp,h⟩:=j6l f e
  by_cases c:lx (f a) (f p)
  .
   refine⟨a,by simp,λq b d=>?_⟩;rcases X8.1 b with rfl|b
   . exact zz3 _ d
   exact h q b (j49 d c)
  refine⟨p,by simp[hp],λq b=>?_⟩;rcases X8.1 b with rfl|b
  . exact c
  exact h q b
noncomputable def fsA(g:aa)(c:Int):Nat->Nat->Nat
 |0,i=>i
 |f+1,i=>if c∈anc g.ae (nd g i).Scope then i else fsA g c f (i+1)
theorem j70(g:aa)(c:Int):∀(f i:Nat) {n:Nat},i<=n->n<i+f->c∈anc g.ae (nd g n).Scope->fsA g c f i<=n/\c∈anc g.ae (nd g (fsA g c f i)).Scope
 |0,_,_,_,_,_=>by omega
 |f+1,i,n,b,j,a=>by
  unfold fsA
  split
  . rename_i h;exact⟨b,h⟩
  rename_i h
  have d:i≠n:=λe=>h (by rw[e];exact a);exact j70 g c f (i+1) (by omega) (by omega) a
noncomputable def fs(g:aa)(c:Int):Nat:=fsA g c g.al.length 0
noncomputable def kz(g:aa)(ts:List Int):Nat->List Int->List Int
 |_,[]=>[]
 |i,c::cs=>(fs g c:Int)::ts.getD i 0::kz g ts (i+1) cs
theorem z8f(g:aa)(ts:List Int)(c:Int):∀(i:Nat) (x:List Int),kz g ts i (x++[c])=kz g ts i x++[(fs g c:Int),ts.getD (i+x.length) 0]
 |i,[]=>rfl
 |i,a::x=>by
  rw[Xd];unfold kz;rw[z8f g ts c (i+1) x,Xl,show i+(x.length+1)=i+1+x.length by omega];rfl
theorem j6t(g:aa)(ts:List Int):∀(i:Nat) (x y:List Int),kz g ts i (x++y)=kz g ts i x++kz g ts (i+x.length) y
 |i,[],y=>rfl
 |i,c::x,y=>by
  rw[Xd,kz,j6t g ts (i+1) x y,Xl,show i+1+x.length=i+(x.length+1) by omega,kz];rfl
theorem z6p(g:aa){ts us:List Int}:∀(i:Nat) (x:List Int),(∀j,i<=j->j<i+x.length->ts.getD j 0=us.getD j 0)->kz g ts i x=kz g us i x
 |_,[],_=>rfl
 |i,a::x,h=>by
  unfold kz;rw[h i (X7 _) (by rw[Xl];omega),z6p g (i+1) x λj b c=>h j (by omega) (by rw[Xl];omega)]
theorem j6u(g:aa){ts us:List Int}{a b:Int}:∀(i:Nat) (x:List Int),kz g ts i x++[a]=kz g us i x++[b]->a=b/\∀j,i<=j->j<i+x.length->ts.getD j 0=us.getD j 0
 |i,[],h=>by
  unfold kz at h;simp only[Ys,List.cons.injEq,and_true]at h;exact⟨h,λj e d=>by simp only[List.length_nil]at d;omega⟩
 |i,c::x,h=>by
  unfold kz at h;simp only[Xd,List.cons.injEq,true_and]at h;obtain⟨e,d⟩:=j6u g (i+1) x h.2;refine⟨e,λj a1 a2=>?_⟩;rw[Xl]at a2;rcases (by omega:j=i\/i+1<=j)with rfl|f
  . exact h.1
  exact d j f (by omega)
theorem zl5(g:aa){ts us:List Int}(h:∀j,ts.getD j 0<=us.getD j 0)(r:List Int):∀(i:Nat) (x:List Int),lq (kz g ts i x++r) (kz g us i x++r)
 |_,[]=> .inr rfl
 |i,c::x=>by
  have a:=zl5 g h r (i+1) x;unfold kz;rw[Xd,Xd,Xd,Xd];rcases (by have:=h i;omega:ts.getD i 0<us.getD i 0\/ts.getD i 0=us.getD i 0)with d|b
  . left;unfold lx;exact .inr ⟨rfl,by unfold lx;exact .inl d⟩
  rcases a with a|a
  . left;unfold lx;exact .inr ⟨rfl,by unfold lx;exact .inr ⟨b,a⟩⟩
  right;rw[b,a]
noncomputable def chn(g:aa)(s:Int):List Int:=(anc g.ae s).reverse
noncomputable def z0i(g:aa)(n:Nat)(ts:List Int):List Int:=kz g ts 0 (chn g (nd g n).Scope)++[(n:Int)]
section
variable {g:aa} (hG:VA.Good g)
include hG
theorem z3d{n:Nat}(a:n<g.al.length):HP.lev g n=MN.lev g n:=by unfold HP.lev;rw[if_pos a];rfl
theorem z7f{s:Int}(a:0<=s)(b:s<g.ae.length):chn g s=chn g (g.ae.getD s.toNat 0)++[s]:=by
 unfold chn;rw[q46 hG.wp a b,List.reverse_cons]
omit hG in
theorem z5w(s:Int):(chn g s).length=MN.dep g s:=by unfold chn MN.dep;rw[List.length_reverse]
theorem jd3{c:Int}{n:Nat}(b:n<g.al.length)(a:c∈anc g.ae (nd g n).Scope):fs g c<=n/\c∈anc g.ae (nd g (fs g c)).Scope:=j70 g c g.al.length 0 (Xi _) (by omega) a
theorem jy3{c:Int}{a q:Nat}(k:a<q)(d:q<g.al.length)(f:c∈anc g.ae (nd g q).Scope)(j:c∉anc g.ae (nd g a).Scope):a<fs g c:=by
 obtain⟨l,b⟩:=jd3 hG d f;refine Xg λh=>?_;rcases (by omega:fs g c=a\/fs g c<a)with e|e
 . rw[e]at b;exact j b
 exact MN.eg hG e b j q (by omega) d f
theorem zc1{a q:Nat}{ts:List Int}{s:Int}(n:0<=s)(o:s<g.ae.length)(f:a<q)(k:q<g.al.length)(e:q0s g (nd g q)=s)(l:∀c:Int,0<=c->c<g.ae.length->c≠0->g.ae.getD c.toNat 0=s->c∈anc g.ae (nd g q).Scope->c∉anc g.ae (nd g a).Scope)(x:Int)(p:x<=a)(r:List Int):lx (kz g ts 0 (chn g s)++x::r) (z0i g q ts):=by
 obtain⟨j,k1,k2⟩:=MN.aQ hG k;unfold z0i;unfold q0s at e
 by_cases d:(nd g q).Kind=10
 . rw[if_pos d]at e;have m:=k2 (.inl d);rw[z7f hG j k1,e,z8f,Xs];refine zg9 _ ?_;have b:=MN.bQ hG j k1;have:=jy3 hG f k b (l _ j k1 m e b);exact j4a (by omega) _ _
 rw[if_neg d]at e;rw[e];exact zg9 _ (j4a (by omega) _ _)
omit hG in
theorem zx2(n i:Nat):(Xc n (0:Int)).getD i 0=0:=by rw[Xf,Yp];split<;>rfl
theorem j9n{e:aU}(X:e∈g.aw){a q:Nat}(ea:e.aO=(a:Int))(D:e.To=(q:Int)){ts:List Int}(hl:ts.length=MN.lev g a):lx (z0i g a ts) (z0i g q (HP.th ts (HP.b7 g e).2 (HP.b7 g e).1)):=by
 obtain⟨f1,f2,_,_,f,M,_⟩:=hG.ed.at X;have N:ndI g e.aO=nd g a:=by rw[ea];unfold ndI;rw[Xj]
 have et:ndI g e.To=nd g q:=by rw[D];unfold ndI;rw[Xj]
 rw[N,et]at f;rw[N]at M;have t:a<g.al.length:=by have:=f1.2;omega
 have k:q<g.al.length:=by have:=f2.2;omega
 obtain⟨l,m,O⟩:=MN.aQ hG t;obtain⟨Y,k1,k2⟩:=MN.aQ hG k;have P:HP.lev g a=MN.lev g a:=z3d hG t;have Q:e.aO.toNat=a:=by omega
 unfold HP.b7 HP.cF;rw[Q,P]
 have inner:∀c:Int,0<=c->c<g.ae.length->c≠0->g.ae.getD c.toNat 0=(nd g a).Scope->c∉anc g.ae (nd g a).Scope:=λc c0 E G hp hc=>by
  have h1:=(MN.bb hG c0 E).2.2 G;rw[hp]at h1;have A:=MN.cS hG l m hc;omega
 by_cases d:(nd g a).Kind=11
 .
  have H:=O (.inr (.inl d));obtain⟨B,C,Z,p3⟩:=(MN.bb hG l m).2.2 H;have u:MN.lev g a=MN.dep g (nd g a).Scope:=by unfold MN.lev q0s;rw[if_neg (by omega)]
  have n:a<q:=Xg λh=>by have:=M (by omega);omega
  unfold q3n at f;rw[if_pos d]at f;rw[if_neg (by omega),if_pos d];dsimp only;have w:=MN.bQ hG l m;have a6:=(jd3 hG t w).1;have R:z0i g a ts=kz g (HP.th ts (Xc (MN.lev g a-1) 0) (MN.lev g a-1)) 0 (chn g (g.ae.getD (nd g a).Scope.toNat 0))++(fs g (nd g a).Scope:Int)::[ts.getD (0+(chn g (g.ae.getD (nd g a).Scope.toNat 0)).length) 0,(a:Int)]:=by
   unfold z0i;rw[z7f hG l m,z8f,Xs]
   congr 1
   refine z6p g 0 _ λj _ A=>?_;rw[z5w]at A;rw[HP.bP (by omega) (by simp) (by simp;omega),if_pos (by omega),zx2];omega
  rw[R];refine zc1 hG B C n k f.symm (λc c0 E G hp y S=>?_) _ (by omega) _
  have T:=(MN.bb hG c0 E).2.2 G;rw[hp]at T
  by_cases I:c=(nd g a).Scope
  .
   subst I
   have p:(nd g q).Kind=10/\(nd g q).Scope=(nd g a).Scope:=by
    by_cases b:(nd g q).Kind=10
    .
     refine⟨b,Xg λU=>?_⟩;have L:=(MN.cJ hG Y k1 y λh=>U h.symm).2;have V:g.ae.getD (nd g q).Scope.toNat 0=g.ae.getD (nd g a).Scope.toNat 0:=by rw[f];unfold q0s;rw[if_pos b]
     rw[V]at L;have:=MN.cS hG B C L;omega
    exfalso
    have V:(nd g q).Scope=g.ae.getD (nd g a).Scope.toNat 0:=by rw[f];unfold q0s;rw[if_neg b]
    rw[V]at y;have:=MN.cS hG B C y;omega
   refine hG.ag q k ⟨p.1,?_⟩;have J:leaves g (nd g q).Scope e.aO=true:=by
    unfold leaves;rw[N,d,p.2];simp
   rw[<-D];exact .fS e X J
  have L:=(MN.cJ hG l m S I).2;have:=MN.cS hG B C L;omega
 have W:q3n g (nd g a)=(nd g a).Scope:=by unfold q3n;rw[if_neg d]
 rw[W]at f
 by_cases o:(nd g a).Kind=12
 .
  have H:=O (.inr (.inr o));obtain⟨B,C,Z,p3⟩:=(MN.bb hG l m).2.2 H;have u:MN.lev g a=MN.dep g (nd g a).Scope:=by unfold MN.lev q0s;rw[if_neg (by omega)]
  rw[if_neg (by omega),if_neg d,if_pos o];dsimp only;have ao:(Xc (MN.lev g a-1) (0:Int)++[1]).length=MN.lev g a:=by simp;omega
  have s:∀j,j<MN.lev g a->(HP.th ts (Xc (MN.lev g a-1) 0++[1]) (MN.lev g a)).getD j 0=ts.getD j 0+if j=MN.lev g a-1 then 1 else 0:=λj hj=>by
   rw[HP.bP (by omega) (by omega) (by omega),if_pos hj]
   congr 1
   rw[Xf]
   by_cases z:j=MN.lev g a-1
   . rw[if_pos z,Yh (by simp;omega)];simp[z]
   rw[if_neg z,Ym (by simp;omega),Yp,if_pos (by omega)];rfl
  have pre:∀us r r',lx (kz g ts 0 (chn g (nd g a).Scope)++r) (kz g (HP.th ts (Xc (MN.lev g a-1) 0++[1]) (MN.lev g a)) 0 (chn g (nd g a).Scope++us)++r'):=by
   intro us r r';rw[j6t,z7f hG l m,z8f,z8f,Xs,Xs,Xs,z6p g 0 (chn g (g.ae.getD (nd g a).Scope.toNat 0)) (us:=HP.th ts (Xc (MN.lev g a-1) 0++[1]) (MN.lev g a)) λj _ A=>by
    rw[z5w]at A;rw[s j (by omega),if_neg (by omega)];omega]
   refine zg9 _ ?_;rw[Xd,Xd];unfold lx;refine .inr ⟨rfl,?_⟩;rw[z5w,s _ (by omega),if_pos (by omega)];exact j4a (by omega) _ _
  unfold z0i;unfold q0s at f
  by_cases b:(nd g q).Kind=10
  . rw[if_pos b]at f;rw[z7f hG Y k1,<-f];exact pre _ _ _
  rw[if_neg b]at f;rw[<-f];have:=pre [] [(a:Int)] [(q:Int)];rw[Xq]at this;exact this
 have n:a<q:=Xg λh=>o (M (by omega));have K:∀c:Int,0<=c->c<g.ae.length->c≠0->g.ae.getD c.toNat 0=(nd g a).Scope->c∈anc g.ae (nd g q).Scope->c∉anc g.ae (nd g a).Scope:=λc c0 E G hp _=>inner c c0 E G hp
 by_cases b:(nd g a).Kind=10
 .
  have H:=O (.inl b);obtain⟨B,C,Z,p3⟩:=(MN.bb hG l m).2.2 H;have u:MN.lev g a=MN.dep g (g.ae.getD (nd g a).Scope.toNat 0):=by unfold MN.lev q0s;rw[if_pos b]
  rw[if_pos b];dsimp only;have R:z0i g a ts=kz g (HP.th ts (Xc (MN.lev g a+1) 0) (MN.lev g a)) 0 (chn g (nd g a).Scope)++(a:Int)::[]:=by
   unfold z0i
   congr 1
   refine z6p g 0 _ λj _ A=>?_;rw[z5w]at A;rw[HP.bP (by omega) (by simp) (by simp;omega),zx2]
   split
   . omega
   rw[HP.getD_none (by omega)]
  rw[R];exact zc1 hG l m n k f.symm K _ (X0 _) _
 have u:MN.lev g a=MN.dep g (nd g a).Scope:=by unfold MN.lev q0s;rw[if_neg b]
 rw[if_neg b,if_neg d,if_neg o];dsimp only;rw[UN.dJ hl];exact zc1 hG l m n k f.symm K _ (X0 _) _
end
end WV
end
section
open Go Go.RowKit TS VA
namespace WV
open Classical
noncomputable def univ:Nat->List (List Int)
 |0=>[[]]
 |n+1=>(Y8 1048577).flatMap λ(x:Nat)=>(univ n).map λl=>(x:Int)::l
theorem zv0:∀{l:List Int},(∀x∈l,HP.Sm x)->l∈univ l.length
 |[],_=>by simp[univ]
 |x::l,h=>by
  have a:=h x (by simp);unfold HP.Sm at a;rw[Xl,univ,X9];exact⟨x.toNat,List.mem_range.2 (by omega),Xt.2 ⟨l,zv0 λy b=>h y (by simp[b]),by rw[Yy a.1]⟩⟩
section
variable {g:aa} (hG:VA.Good g)
def Ps(g:aa)(f v:Nat)(z:HP.Hp):Prop:=HP.Rh (HP.lev g f:Int) z.1 z.2/\z.2.length=HP.lev g v/\∀ts:List Int,ts.length=MN.lev g f->lq (z0i g f ts) (z0i g v (HP.th ts z.2 z.1))
noncomputable def TL(g:aa)(f v:Nat):List HP.Hp:=((Y8 5).flatMap λk=>(univ (HP.lev g v)).map λl=>(k,l)).filter λz=>decide (Ps g f v z)
theorem z8x{f v:Nat}{z:HP.Hp}:z∈TL g f v↔Ps g f v z:=by
 unfold TL;rw[List.mem_filter,decide_eq_true_eq];refine⟨λh=>h.2,λh=>⟨?_,h⟩⟩;obtain⟨a,b,_⟩:=h;rw[X9];have:=a.kf;have:=a.f1;refine⟨z.1,List.mem_range.2 (by omega),Xt.2 ⟨z.2,?_,rfl⟩⟩;rw[<-b];exact zv0 a.sm
noncomputable def TT(g:aa)(f:Nat):List (List HP.Hp):=(Y8 g.al.length).map λv=>TL g f v
theorem zj4{f v:Nat}(a:v<g.al.length):HP.rw_ (TT g f) v=TL g f v:=by
 unfold HP.rw_ TT;rw[Xf,List.getElem?_map,List.getElem?_range a];rfl
include hG
theorem jy9{f:Nat}(s:f<g.al.length){e:aU}(c:e∈g.aw):HP.ClE g (HP.lev g f:Int) (TT g f) e:=by
 intro h k t;obtain⟨a,q,u,d,l,w⟩:=MN.db hG c;rw[show e.aO.toNat=a by omega,zj4 l,z8x]at k;rw[show e.To.toNat=q by omega,zj4 w];obtain⟨m,C,y⟩:=k;have b:HP.Rp (HP.lev g e.aO.toNat:Int) (HP.lev g e.To.toNat) (HP.b7 g e):=(HP.step_eq hG c).1;rw[show e.aO.toNat=a by omega,show e.To.toNat=q by omega]at b;obtain⟨s1,z⟩:=b;have k1:=m.kf;have k2:=m.kl;have D:=s1.kf;have n:=s1.kl;refine⟨HP.thp h (HP.b7 g e),z8x.2 ⟨t,?_,λts j=>?_⟩,HP.cu _⟩
 .
  show (HP.th h.2 (HP.b7 g e).2 (HP.b7 g e).1).length=_
  rw[HP.bw (by omega) n,z]
 have A:=z3d hG s;have B:=z3d hG l;have o:(HP.th ts h.2 h.1).length=h.2.length:=HP.bw (by omega) k2;have p:=j9n hG c u d (ts:=HP.th ts h.2 h.1) (by omega);rw[zv4 (by omega) k2 (by omega) n]at p;exact j4b (y ts j) (.inl p)
theorem jv7{f:Nat}(c:f<g.al.length):HP.ClT g (HP.lev g f:Int) (TT g f):=by
 refine⟨λv z a=>?_,λe d=>jy9 hG c d⟩
 by_cases b:v<g.al.length
 . rw[zj4 b,z8x]at a;exact⟨a.1,a.2.1⟩
 unfold HP.rw_ TT at a;rw[Xf,Xr (by simpa using b)]at a
 cases a
theorem jn2{f:Nat}(a:f<g.al.length):HP.cov (HP.rw_ (TT g f) f) (HP.lev g f,Xc (HP.lev g f) 0):=by
 rw[zj4 a];obtain⟨l1,e⟩:=HP.fC hG f;refine⟨_,z8x.2 ⟨⟨by omega,by omega,X0 _,by simp,by simp;omega,by simp;omega,λx b=>?_⟩,by simp,λts c=>?_⟩,HP.cu _⟩
 . rw[X4 b];exact⟨by decide,by decide⟩
 have d:=z3d hG a;dsimp only;rw[UN.dJ (by omega)];exact .inr rfl
noncomputable def kp(g:aa)(p:ax):List Int:=z0i g p.Node.toNat (lst p.Time)
theorem jz0{k:List (List (List aH))}(u:Tb g k){q p:ax}(w:q88 g q)(hp:q88 g p)(h:R k q p=true):lq (kp g q) (kp g p):=by
 obtain⟨tbl,rfl,d⟩:=u;obtain⟨n,b,A,e,B⟩:=w;obtain⟨m,l,C,a1,a2⟩:=hp;rw[z9o hG d b l A C e B,decide_eq_true_eq]at h;obtain⟨z,o,k1,k2⟩:=h;obtain⟨a,D⟩:=(d n b).R.rp _ z o;obtain⟨y,s,c⟩:=(d n b).mn (TT g n) (jv7 hG b) (jn2 hG b) m z ⟨z,o,HP.cu _⟩;rw[zj4 l,z8x]at s;obtain⟨t,I,E⟩:=s;have G:=HP.bO e;have f:=HP.dB e;have H:=z3d hG b;have J:=a.kf;have K:=t.kf;have L:=a.l1;unfold kp;rw[show q.Node.toNat=n by omega,show p.Node.toNat=m by omega];refine j4b (E _ (by omega)) (j4b (zl5 g (us:=HP.th (lst q.Time) z.2 z.1) (HP.fz f (by omega) t.kl (by omega) a.kl (by omega) c) _ 0 _) (zl5 g (us:=lst p.Time) (λj=>?_) _ 0 _));have:=j2s k2 j;rw[zk2 (by rw[HP.bw (by omega) a.kl];omega)]at this;exact this
theorem js5{q p:ax}(u:q88 g q)(hp:q88 g p)(h:kp g q=kp g p):q=p:=by
 obtain⟨n,j,k,l,E⟩:=u;obtain⟨m,G,o,a1,a2⟩:=hp;unfold kp z0i at h;rw[show q.Node.toNat=n by omega,show p.Node.toNat=m by omega]at h;have d:n=m:=by
  have:=congrArg List.getLast? h;simp at this;omega
 subst d;obtain⟨_,w⟩:=j6u g 0 _ h;have e:=z3d hG j;obtain⟨y,z,A⟩:=MN.aQ hG j;have s:HP.lev g n<=(chn g (nd g n).Scope).length:=by
  rw[z5w,e];unfold MN.lev q0s
  split
  .
   rename_i f
   have:=((MN.bb hG y z).2.2 (A (.inl f))).2.2.1;omega
  exact X7 _
 have B:=HP.bO l;have C:=HP.bO a1;have a:lst q.Time=lst p.Time:=Y7 (by omega) λi b c=>by
  rw[<-HP.aW b,<-HP.aW c];exact w i (Xi _) (by omega)
 have t:q.Time=p.Time:=by rw[<-UN.dO l,<-UN.dO a1,a]
 obtain⟨H,I⟩:=q;obtain⟨J,D⟩:=p;dsimp only at k o t;rw[t,k,o]
theorem j9r{f:List (List (List aH))}(j:Tb g f){l:List ax}(a:∀p∈l,q88 g p)(b:l≠[]):∃p∈l,dt f l p:=by
 obtain⟨p,hp,h⟩:=j6l (kp g) b;refine⟨p,hp,λq c d=>?_⟩;rw[<-Bool.not_eq_true];intro k;rcases jz0 hG j (a q c) (a p hp) k with e|e
 . exact h q c e
 exact d (js5 hG (a q c) (a p hp) e)
end
end WV
end
section
open Go Go.RowKit TS VA BG
namespace WV
open Classical
open MN (z9p aS aY bt qs4 q7m qw2 q6m no2 qe3)
noncomputable def lk:List ax->List (aP (List a7))->ax->aP (List a7)
 |[],_,_=>no2
 |p::a,xs,z=>if p=z then xs.headD no2 else lk a xs.tail z
theorem qa0(p:ax)(a:List ax)(x:aP (List a7))(xs:List (aP (List a7)))(z:ax):lk (p::a) (x::xs) z=if p=z then x else lk a xs z:=rfl
theorem zt4:∀{a:List ax} {xs:List (aP (List a7))} {z:ax},z∉a->lk a xs z=no2
 |[],_,_,_=>rfl
 |p::a,xs,z,h=>by
  unfold lk;rw[if_neg λe=>h (by rw[e];simp)];exact zt4 λb=>h (by simp[b])
theorem zt5:∀{a:List ax} {xs:List (aP (List a7))} {i:Nat} (hi:i<a.length) (b:i<xs.length),a.Nodup->lk a xs a[i]=xs[i]
 |p::a,x::xs,0,_,_,_=>by rw[qa0,Xm,if_pos rfl,Xm]
 |p::a,x::xs,i+1,hi,b,c=>by
  obtain⟨d,f⟩:=Yb.1 c;have hi':i<a.length:=by simpa using hi
  rw[qa0,Xw,Xw,if_neg λe=>d (by rw[e];exact Xa hi')];exact zt5 hi' (by simpa using b) f
theorem j6p:∀{a:List ax} {xs:List (aP (List a7))} {i:Nat} (hi:i<a.length),i<xs.length->a.Nodup->∀(y:aP (List a7)) (z:ax),lk a (xs.set i y) z=if z=a[i]then y else lk a xs z
 |p::a,x::xs,0,_,_,_,y,z=>by
  rw[List.set_cons_zero,Xm,qa0,qa0]
  by_cases h:p=z
  . rw[if_pos h,if_pos h.symm]
  rw[if_neg h,if_neg (λe=>h e.symm),if_neg h]
 |p::a,x::xs,i+1,hi,b,c,y,z=>by
  obtain⟨d,f⟩:=Yb.1 c;have hi':i<a.length:=by simpa using hi
  rw[List.set_cons_succ,Xw,qa0,qa0]
  by_cases h:p=z
  . rw[if_pos h,if_pos h,if_neg λe=>d (by rw[h,e];exact Xa hi')]
  rw[if_neg h,if_neg h];exact j6p hi' (by simpa using b) f y z
theorem j2q:∀{a:List ax} {xs:List (aP (List a7))} {q:ax} {x:aP (List a7)} {z:ax},a.length=xs.length->q∉a->lk (a++[q]) (xs++[x]) z=if z=q then x else lk a xs z
 |[],[],q,x,z,_,_=>by
  show lk [q] [x] z=_
  rw[qa0]
  by_cases h:q=z
  . rw[if_pos h,if_pos h.symm]
  rw[if_neg h,if_neg λe=>h e.symm]
 |p::a,y::xs,q,x,z,b,c=>by
  rw[Xd,Xd,qa0,qa0]
  by_cases h:p=z
  . rw[if_pos h,if_pos h,if_neg λe=>c (by rw[<-e,h];simp)]
  rw[if_neg h,if_neg h];exact j2q (by simpa using b) λd=>c (by simp[d])
 |[],_::_,_,_,_,b,_=>by simp at b
 |_::_,[],_,_,_,b,_=>by simp at b
theorem j6q:∀{a:List ax} {xs:List (aP (List a7))} {i:Nat} (hi:i<a.length),i<xs.length->a.Nodup->∀(z:ax),lk (a.take i++a.drop (i+1)) (xs.take i++xs.drop (i+1)) z=if z=a[i]then no2 else lk a xs z
 |p::a,x::xs,0,_,_,b,z=>by
  obtain⟨c,_⟩:=Yb.1 b
  show lk a xs z=if z=p then no2 else lk (p::a) (x::xs) z
  by_cases h:z=p
  . rw[if_pos h,h];exact zt4 c
  rw[if_neg h,qa0,if_neg λe=>h e.symm]
 |p::a,x::xs,i+1,hi,d,b,z=>by
  obtain⟨c,f⟩:=Yb.1 b;have hi':i<a.length:=by simpa using hi
  show lk (p::(a.take i++a.drop (i+1))) (x::(xs.take i++xs.drop (i+1))) z=if z=a[i]then no2 else lk (p::a) (x::xs) z
  rw[qa0,qa0,j6q hi' (by simpa using d) f z]
  by_cases h:p=z
  . rw[if_pos h,if_pos h,if_neg λe=>c (by rw[h,e];exact Xa hi')]
  rw[if_neg h,if_neg h]
theorem qp5{b:List a7}(h:MN.Fn b)(e:tot b<=100000000):q7u b=some (tot b):=by
 have hp:=h.len;unfold q7u;refine k2k (k2j (λs=>∃i:Nat,s=(tot (b.take i),(i:Int))/\i<=b.length) (λs=>b.length-s.2.toNat) ?_ ⟨0,by simp[tot],Xi _⟩ (by simp only[rounds];omega));rintro rec _ ⟨i,rfl,hi⟩ a;unfold z0k;dsimp only;refine k2h (λc=>?_) (λc=>Ok.some ?_)
 .
  have hi':i<b.length:=by simpa using c
  have f:=z2r h.pos (i+1);have d:=z6c hi';refine Ok.bind (k2i hi' ?_);rw[<-d,wrap_i64 (tot (b.take (i+1))) (by omega),wrap_i64 ((i:Int)+1) (by omega)];exact a _ ⟨i+1,rfl,hi'⟩ (by simp only;omega)
 obtain rfl:i=b.length:=by simp at c;omega
 rw[Xo]
structure cT(g:aa)(pts:List ax)(ins:List (aP (List a7)))(T:Int):Prop where
 len:ins.length=pts.length
 pt:∀p∈pts,q88 g p
 nd:pts.Nodup
 bag:∀x∈ins,MN.Fn x.a0/\MN.Fn x.a1
 pos:∀x∈ins,1<=bt x
 tot:(ins.map bt).sum<=T
theorem j2b{α:Type}{f:α->Int}:∀{l:List α} {i:Nat} (hi:i<l.length),((l.take i++l.drop (i+1)).map f).sum=(l.map f).sum-f l[i]
 |y::l,0,_=>by simp only[List.take_zero,Ys,Yz,List.drop_zero,Yi,List.sum_cons,Xm];omega
 |y::l,i+1,h=>by
  have:=j2b (f:=f) (l:=l) (i:=i) (by simpa using h);simp only[List.take_succ_cons,Xd,Yz,Yi,List.sum_cons,Xw];omega
theorem cT.many{g:aa}{a:List ax}{ins:List (aP (List a7))}{T:Int}(h:cT g a ins T):(a.length:Int)<=T:=by
 have:=qs4 h.pos;have:=h.tot;have:=h.len;omega
theorem cT.each{g:aa}{a:List ax}{ins:List (aP (List a7))}{T:Int}(h:cT g a ins T):∀x∈ins,bt x<=T:=λx b=>by
 have:=q7m (f:=bt) (λy c=>by have:=h.pos y c;omega) x b;have:=h.tot;omega
theorem cT.mono{g:aa}{a:List ax}{ins:List (aP (List a7))}{T b:Int}(h:cT g a ins T)(k:T<=b):cT g a ins b:=⟨h.len,h.pt,h.nd,h.bag,h.pos,Int.le_trans h.tot k⟩
structure fh(g:aa)(pts:List ax)(ins:List (aP (List a7)))(T:Int)(q:ax)(i:Nat)(pts':List ax)(ins':List (aP (List a7))):Prop where
 hi:i<pts'.length
 at_:pts'[i]=q
 sub:∀p∈pts',p∈pts\/p=q
 sup:∀p∈pts,p∈pts'
 len:ins'.length=pts'.length
 pt:∀p∈pts',q88 g p
 nd:pts'.Nodup
 bag:∀x∈ins',MN.Fn x.a0/\MN.Fn x.a1
 pos:∀k (h:k<ins'.length),k≠i->1<=bt ins'[k]
 tot:(ins'.map bt).sum<=T
 lk:∀z,lk pts' ins' z=lk pts ins z
 grow:pts'.length<=pts.length+1
theorem fh.ga{g:aa}{c b:List ax}{ins a:List (aP (List a7))}{T:Int}{q:ax}{i:Nat}(h:fh g c ins T q i b a):∀x∈a,0<=BG.tot x.a0/\0<=BG.tot x.a1:=λx d=>by
 obtain⟨e,f⟩:=h.bag x d;have:=e.len;have:=f.len;omega
theorem fh.each{g:aa}{c b:List ax}{ins a:List (aP (List a7))}{T:Int}{q:ax}{i:Nat}(h:fh g c ins T q i b a):∀x∈a,bt x<=T:=λx d=>by
 have:=q7m (f:=bt) (λy e=>by have:=h.ga y e;unfold bt;omega) x d;have:=h.tot;omega
theorem fh.set{g:aa}{d b:List ax}{ins a:List (aP (List a7))}{T:Int}{q:ax}{i:Nat}(h:fh g d ins T q i b a){x:aP (List a7)}{m:Int}(n:MN.Fn x.a0/\MN.Fn x.a1)(o:1<=m)
 (j:bt x=bt (a[i]'(by rw[h.len];exact h.hi))+m):cT g b (a.set i x) (T+m):=by
 have hi:i<a.length:=by rw[h.len];exact h.hi
 refine⟨by rw[List.length_set];exact h.len,h.pt,h.nd,λy c=>?_,λy c=>?_,?_⟩
 .
  rcases List.mem_or_eq_of_mem_set c with c|rfl
  . exact h.bag y c
  exact n
 .
  obtain⟨k,l,rfl⟩:=Yx.1 c;rw[List.length_set]at l;rw[List.getElem_set]
  split
  . have:=h.ga _ (Xa hi);rw[j];unfold bt;omega
  rename_i f
  exact h.pos k l (λe=>f e.symm)
 rw[qw2 hi,j];have:=h.tot;omega
theorem j1e{l:List ax}{p:ax}(d:l.length<1000000000):Ok (q3l l p) λi=>(i=-1/\p∉l)\/∃k:Nat,∃h:k<l.length,i=(k:Int)/\l[k]=p:=by
 unfold q3l;refine k2l (l:=l) (by omega) (λi=>p∉l.take i) 0 (λrec i hi _ a b=>?_) (λrec a=>?_) (by simp) (Xi _)
 .
  unfold q7e;rw[if_pos (by simpa using hi),iw hi (by omega)];refine Ok.bind (k2i hi ?_);rw[UN.fQ];refine k2h (λh=>Ok.some (.inr ⟨i,hi,rfl,?_⟩)) (λh=>b ?_)
  . simp only[decide_eq_true_eq]at h;exact h.symm
  simp only[decide_eq_false_iff_not]at h;rw[snoc hi,Xe,Xb];exact λc=>c.elim a h
 unfold q7e;rw[if_neg (by simp)];rw[Xo]at a;exact Ok.some (.inl ⟨rfl,a⟩)
theorem zx9{t:Type}{g:aa}{c:List ax}{ins:List (aP (List a7))}{T:Int}{q:ax}(d:cT g c ins T)(w:q88 g q)(C:T<=50000000)
 {J:Int->List ax->List (aP (List a7))->Option t}{Q:t->Prop}(u:∀i l m,fh g c ins T q i l m->Ok (J (i:Int) l m) Q):
 Ok (q9 (q3l c q) (λ(v:Int)=>(if (decide (v<0))=true then x9 ((Ye c+Ye ([q]:List ax))*48<=140737488355328) (
  x9 ((Ye ins+Ye ([(⟨([]:List a7),([]:List a7)⟩:aP (List a7))]:List (aP (List a7))))*48<=140737488355328) (
   J (Ye c:Int) (c++([q]:List ax)) (ins++([(⟨([]:List a7),([]:List a7)⟩:aP (List a7))]:List (aP (List a7))))))else J v c ins))) Q:=by
 have D:=d.many;have f:=d.len;refine k2g (j1e (by omega)) λv y=>?_;rcases y with⟨rfl,o⟩|⟨k,s,rfl,rfl⟩
 .
  rw[if_pos (by simp)];refine Ok.guard (by simp;omega) (Ok.guard (by simp;omega) (u c.length _ _ ⟨by simp,by simp,λp hp=>by simpa using hp,λp hp=>by simp[hp],by simp[f],λp hp=>?_,?_,λx n=>?_,λk s A=>?_,?_,λz=>?_,by simp⟩))
  .
   rcases Xe.1 hp with hp|hp
   . exact d.pt p hp
   rw[Xb.1 hp];exact w
  . exact Y4.2 ⟨d.nd,by simp,λa B b hb=>by rw[Xb.1 hb];exact λe=>o (e▸B)⟩
  .
   rcases Xe.1 n with n|n
   . exact d.bag x n
   rw[Xb.1 n];exact⟨MN.Fn.nil,MN.Fn.nil⟩
  .
   have j:k<ins.length:=by simp at s;omega
   rw[X5 j];exact d.pos _ (Xa j)
  .
   rw[Xv,Yc];have:=d.tot
   simpa [bt,tot]using this
  rw[j2q f.symm o]
  split
  . rename_i e;rw[e,zt4 o];rfl
  rfl
 rw[if_neg (by simp)];exact u k c ins ⟨s,rfl,λp hp=> .inl hp,λp hp=>hp,f,d.pt,d.nd,d.bag,λk' j _=>d.pos _ (Xa j),d.tot,λ_=>rfl,by omega⟩
theorem cT.del{g:aa}{b:List ax}{ins:List (aP (List a7))}{T:Int}(h:cT g b ins T){i:Nat}(hi:i<b.length):
 cT g (b.take i++b.drop (i+1)) (ins.take i++ins.drop (i+1)) (T-bt (ins[i]'(by rw[h.len];exact hi))):=by
 have a:∀{α:Type} (l:List α),(l.take i++l.drop (i+1)).Sublist l:=λl=>by
  conv=>rhs;rw[<-Yw i l]
  exact List.Sublist.append (List.Sublist.refl _) (List.drop_sublist_drop_left _ (by omega))
 have d:=h.len;refine⟨by simp;omega,λp hp=>h.pt p ((a _).subset hp),(a _).nodup h.nd,λx c=>h.bag x ((a _).subset c),λx c=>h.pos x ((a _).subset c),?_⟩;rw[j2b (by omega)];have:=h.tot;omega
end WV
end
section
open Go Go.RowKit TS VA BG
namespace WV
open Classical
open MN (z9p aS aY bt qs4 q7m qw2 q6m no2 qe3 MS PtM gv q05)
def mp(z:ax):ah:=⟨z.Node,z.Time⟩
theorem zy8{y z:ax}(h:mp y=mp z):y=z:=by
 obtain⟨a,b⟩:=y;obtain⟨c,d⟩:=z;simp only[mp,ah.mk.injEq]at h;rw[h.1,h.2]
theorem jr1{g:aa}{z:ax}(h:q88 g z):PtM g (mp z):=by
 obtain⟨n,b,e,c,a⟩:=h;refine⟨n,b,e,c,?_⟩;unfold HP.lev at a;rw[if_pos b]at a;exact a
theorem qk7{g:aa}{z:ax}(h:PtM g (mp z)):q88 g z:=by
 obtain⟨n,a,e,b,c⟩:=h;refine⟨n,a,e,b,?_⟩;unfold HP.lev;rw[if_pos a];exact c
section
variable {g:aa} (hG:VA.Good g)
include hG
theorem j1f{n:Nat}(e:n<g.al.length){t:af}(f:ok t)(o:t.D=(HP.lev g n:Int)):Ok (q9d g (n:Int) t) λv=>v.2=(q05 g n t).2/\(v.2=true->v.1=(q05 g n t).1):=by
 have p:=hG.nl;obtain⟨j,l,q⟩:=MN.aQ hG e;unfold q9d;rw[if_neg (by simp;omega),TS.bg];refine Ok.bind (Ok.some (k2h (λ_=>?_) (λh=>absurd f (by simpa using h))));rw[HP.cZ hG e];refine Ok.bind (Ok.some (k2h (λh=>absurd o (by simpa using h)) (λ_=>?_)));refine Ok.bind (k2i e ?_);rw[q7i e];refine k2h (λb=>?_) (λb=>k2h (λc=>?_) (λc=>k2h (λd=>?_) (λd=>?_)))
 .
  have k:(nd g n).Kind=10:=by simpa using b
  rw[MN.cR,MN.bY k];refine Ok.bind (Ok.some (Ok.some ?_))
  split<;>exact⟨rfl,λ_=>rfl⟩
 .
  have k:(nd g n).Kind=11:=by simpa using c
  rw[MN.cN,MN.bN k];refine Ok.bind (Ok.some (Ok.some ?_))
  split<;>exact⟨rfl,λ_=>rfl⟩
 .
  have k:(nd g n).Kind=12:=by simpa using d
  obtain⟨i1,i2⟩:=MN.eh f;have s:=q (.inr (.inr k));have G:=((MN.bb hG j l).2.2 s).2.2.2;have u:HP.lev g n=MN.dep g (nd g n).Scope:=by rw[z3d hG e];unfold MN.lev q0s;rw[if_neg (by omega)]
  have H:=MN.last_pos f;have w:MN.bj t<=1048576:=by
   obtain⟨_,_,a0,a1,a2,a3⟩:=f;unfold MN.bj;have z:=a1.2;have A:=a2.2;have B:=a3.2
   repeat' split
   all_goals first|omega|(split at z<;>split at A<;>split at B<;>omega)
  refine Ok.guard i1 ?_;rw[i2];refine Ok.bind (Ok.some (Ok.bind (Ok.dg j (by rw[hG.bl];exact l) λy C=>?_)));have hb:y=MN.bnd g (nd g n).Scope:=by unfold MN.bnd;rw[Xf,C];rfl
  rw[hb,wrap_i64 _ (by omega)];obtain⟨_,a⟩:=MN.eV f (by omega);have E:=MN.dR hG j l;rw[MN.bz k];refine k2h (λm=>Ok.some ⟨?_,λh=>by cases h⟩) (λm=>?_)
  .
   simp only[decide_eq_true_eq]at m
   split
   . rw[a];symm;exact decide_eq_false (by omega)
   rfl
  simp only[decide_eq_false_iff_not]at m;rw[MN.dp];refine Ok.bind (Ok.some (Ok.some ?_))
  split
  . rw[a];exact⟨(decide_eq_true (by omega)).symm,λ_=>rfl⟩
  exact⟨rfl,λ_=>rfl⟩
 rw[MN.cg (by simpa using b) (by simpa using c) (by simpa using d)];exact Ok.some ⟨rfl,λ_=>rfl⟩
def gp(p:Nat×af):ax:=⟨(p.1:Int),p.2⟩
omit hG in
theorem jc8(p:Nat×af):mp (gp p)=MN.pt p:=rfl
theorem js8{p:Nat×af}{z:ah}(hp:PtM g (MN.pt p))(h:gv g p z):∃e∈g.aw,e.aO=(p.1:Int)/\z.node=e.To/\ok z.time/\z.time=HP.tm (HP.th (lst p.2) (HP.b7 g e).2 (HP.b7 g e).1):=by
 obtain⟨l,_⟩:=MN.fc hG hp h;obtain⟨m,e,c,o,rfl⟩:=h;have q:q88 g (gp p):=qk7 hp;obtain⟨n,d,f,j,s⟩:=q;have f:(p.1:Int)=n:=f;obtain rfl:p.1=n:=by omega
 obtain⟨v,t,a1,a2⟩:=j1f hG d j s;obtain⟨w,k,u⟩:=UN.eW hG d j;have b:v=w:=by rw[t]at k;exact Y9 k
 subst b;have a:v.2=true:=by rw[a1];exact m
 refine⟨e,c,o,rfl,?_,?_⟩
 . obtain⟨_,_,_,y,_⟩:=l;exact y
 show (q05 g p.1 p.2).1=_
 exact (a2 a).symm.trans ((u a).2.2 e c (by omega))
variable {tb:List (List (List aH))} (hT:Tb g tb)
include hT
theorem k1h{w a:Nat×af}(c:PtM g (MN.pt w))(h:MN.Pa g w a):PtM g (MN.pt a)/\R tb (gp w) (gp a)=true:=by
 induction h with
 |refl=>exact⟨c,jv9 hG hT (qk7 c)⟩
 |@snoc a q _ b j=>
  obtain⟨d,k⟩:=j;obtain⟨e,l,m,n,f,o⟩:=js8 hG d b;refine⟨(MN.fc hG d b).1,?_⟩;have:=jw0 hG hT (w:=gp w) (a:=gp a) (qk7 c) (qk7 d) k l m f o;have p:(gp q)=⟨e.To,q.2⟩:=by unfold gp;have:(q.1:Int)=e.To:=n;rw[this]
  rw[p];exact this
theorem j9q{s:MS}(m:MN.W g s){l:List ax}(n:∀w,s.ins (MN.pt w)≠no2->gp w∈l){p:Nat×af}(hp:s.ins (MN.pt p)≠no2)(o:dt tb l (gp p)):MN.Fr g s p:=by
 refine⟨hp,λw d f a q=>?_⟩;obtain⟨j,b⟩:=k1h hG hT (m _ d) q;have k:gp w≠gp p:=λe=>f (MN.dC (congrArg mp e));have c:=o (gp w) (n w d) k;refine⟨λe=>?_,λ⟨t,_,u⟩=>?_⟩
 . rw[e,c]at b;cases b
 have:=k1i hG hT (w:=gp w) (a:=gp a) (p:=gp p) (qk7 (m _ d)) (qk7 j) b (by show (a.1:Int)=p.1;rw[t]) u;rw[c]at this;cases this
end
end WV
end
section
open Go Go.RowKit TS VA BG
namespace WV
open Classical
open MN (z9p aY bt qs4 q7m qw2 q6m no2 qe3 MS PtM gv q05 q3b q6l)
structure Rl(g:aa)(r:aq)(s:MS):Prop where
 gr:r.g=g
 ins:∀z,lk r.aI.aj r.aI.in_ z=s.ins (mp z)
 ay:∀n:Int,s.ay n=(r.ay.aj.filter λq=>decide (q.Node=n)).map λq=>⟨q.Time,1⟩
 aE:∀i (h:i<r.ay.aj.length) (h':i<r.ay.in_.length),s.aE (mp r.ay.aj[i])=r.ay.in_[i].a0
 work:s.work=r.work
 outs:s.outs=r.outs
 e:s.e=0
theorem j31{g:aa}{f e:List ax}{ins a:List (aP (List a7))}{T:Int}{q:ax}{i:Nat}(d:fh g f ins T q i e a){s:MS}(j:∀z,lk f ins z=s.ins (mp z)){port:Int}{b:List a7}(hb:b≠[]){x:aP (List a7)}
 (k:x=q6m (a[i]'(by rw[d.len];exact d.hi)) port b)(z:ax):lk e (a.set i x) z=(q6l s (mp q) port b).ins (mp z):=by
 have hi:i<a.length:=by rw[d.len];exact d.hi
 have l:a[i]=s.ins (mp q):=by rw[<-j,<-d.lk,<-d.at_];exact (zt5 d.hi hi d.nd).symm
 rw[j6p d.hi hi d.nd,d.at_,MN.bH,d.lk,j]
 by_cases h:z=q
 . rw[if_pos h,if_pos ⟨hb,by rw[h]⟩,k,l]
 rw[if_neg h,if_neg λc=>h (zy8 c.2)]
structure Gvn(g:aa)(r:aq)(s:MS)(T:Int)(v:aq):Prop where
 gr:v.g=r.g
 table:v.table=r.table
 ay:v.ay=r.ay
 aL:v.aL=r.aL
 outs:v.outs=s.outs
 fU:v.outs.length<=r.outs.length+65536
 wk:v.work=s.work
 work:r.work<=v.work/\v.work<=r.work+6553600
 aI:cT g v.aI.aj v.aI.in_ (T+(v.work-r.work))
 many:(v.aI.aj.length:Int)<=r.aI.aj.length+(v.work-r.work)
 ins:∀z,lk v.aI.aj v.aI.in_ z=s.ins (mp z)
structure Mid(g:aa)(r:aq)(s:MS)(T:Int)(i:Nat)(b:Int)(pts:List ax)(ins:List (aP (List a7))):Prop where
 wk:b=s.work
 work:r.work<=b/\b<=r.work+65536*i
 aI:cT g pts ins (T+(b-r.work))
 many:(pts.length:Int)<=r.aI.aj.length+(b-r.work)
 ins:∀z,lk pts ins z=s.ins (mp z)
section
variable {g:aa} (hG:VA.Good g)
include hG
theorem j9p{r:aq}(H:r.g=g){T:Int}(U:cT g r.aI.aj r.aI.in_ T){s:MS}(hi:∀z,lk r.aI.aj r.aI.in_ z=s.ins (mp z))(B:s.work=r.work)(D:s.outs=r.outs){p:Nat×af}(hp:PtM g (MN.pt p)){out:List a7}(e:MN.Fn out)(W:tot out<=65536)
 (b2:T<=10000000)(hw:0<=r.work/\r.work<=10000000)(b3:r.outs.length<=1000000000):Ok (q10 r (gp p) out) λv=>Gvn g r (MN.put g p out s) T v.2:=by
 have hp':q88 g (gp p):=qk7 hp;obtain⟨n,N,O,ht,hD⟩:=hp';have O:(p.1:Int)=n:=O;obtain rfl:p.1=n:=by omega
 have b4:=e.len;have b5:=hG.el;have b6:=hG.nl;unfold q10 MN.put;rw[H]
 show Ok (q9 (idx g.al (p.1:Int)) _) _
 refine Ok.bind (k2i N (k2h (λm=>?_) (λm=>?_)))
 .
  have m:(nd g p.1).Kind=15:=by rw[<-q7i N];simpa using m
  rw[if_pos m];refine k2g (j3c (by omega)) λv E=>?_;have E:=E.1 (by rw[z16 e.rt e.pos];exact W);rw[z16 e.rt e.pos]at E;subst E;have bc:=z0u (b:=out) e.pos;refine Ok.each (l:=all out) (by omega) (λi a=>a=r.outs++((all out).take i).map λq=>⟨(p.1:Int),p.2.C.a0,q⟩) 0 (λrec i hi' a _ w f=>?_) (λrec a w=>?_) (by simp) (Xi _)
  .
   unfold q1e;dsimp only;rw[if_pos (by simpa using hi')];have b1:a.length=r.outs.length+i:=by rw[w,Xu,Yr,Y6];omega
   refine Ok.bind (k2i hi' (Ok.guard (by simp;omega) ?_));rw[iw hi' (by omega)];refine f _ ?_;rw[w,Xk hi',Xv,Xs];rfl
  unfold q1e;dsimp only;rw[if_neg (by simp)];rw[Xo]at w;refine Ok.some ⟨rfl,rfl,rfl,rfl,?_,?_,B.symm,by simp only;omega,?_,by simp,hi⟩
  .
   show a=s.outs++_
   rw[w,D]
  .
   show a.length<=_
   rw[w,Xu,Yr];omega
  simpa using U
 have m:(nd g p.1).Kind≠15:=by rw[<-q7i N];simpa using m
 rw[if_neg m];unfold q1d;rw[H];refine k2g (j1f hG N ht hD) λv (E:v.2=(q05 g p.1 p.2).2/\(v.2=true->v.1=(q05 g p.1 p.2).1))=>k2h (λK=>?_) (λK=>?_)
 .
  have P:(q05 g p.1 p.2).2=false:=by rw[<-E.1];simpa using K
  rw[if_pos (.inl P)];exact Ok.some ⟨rfl,rfl,rfl,rfl,D.symm,by simp only;omega,B.symm,by simp only;omega,by simpa using U,by simp,hi⟩
 have P:(q05 g p.1 p.2).2=true:=by rw[<-E.1];simpa using K
 have hu:v.1=(q05 g p.1 p.2).1:=E.2 (by rw[E.1];exact P)
 by_cases Q:out=[]
 .
  subst Q;rw[if_pos (.inr rfl)];refine Ok.each (l:=g.aw) (s0:=(r.work,r.aI.aj,r.aI.in_)) (by omega) (λi a=>a=(r.work,r.aI.aj,r.aI.in_)) 0 (λrec i hi' a _ w f=>?_) (λrec a w=>?_) rfl (Xi _)
  . subst w;unfold q09;dsimp only;rw[H,if_pos (by simpa using hi')];refine Ok.bind (k2i hi' ?_);rw[iw hi' (by omega),qp5 e (by omega)];refine k2h (λ_=>?_) (λ_=>f _ rfl);rw[if_pos (by simp)];refine Ok.bind (Ok.some (f _ ?_));rw[show tot ([]:List a7)=0 from rfl,Xy,wrap_i64 _ (by omega)]
  subst w;unfold q09;dsimp only;rw[H,if_neg (by simp)];unfold q0q;rw[qp5 e (by omega)];exact Ok.bind (Ok.some (Ok.some ⟨H.symm▸rfl,rfl,rfl,rfl,D.symm,by simp only;omega,B.symm,by simp only;omega,by simpa using U,by simp,hi⟩))
 rw[if_neg (λc=>c.elim (λh=>by rw[P]at h;cases h) Q)];have h1:=qe3 e Q;refine Ok.each (l:=g.aw) (s0:=(r.work,r.aI.aj,r.aI.in_)) (by omega) (λi a=>Mid g r (q3b p.1 (q05 g p.1 p.2).1 out (g.aw.take i) s) T i a.1 a.2.1 a.2.2) 0 (λrec i hi' a _ w f=>?_) (λrec a w=>?_) ⟨B.symm,by simp,by simpa using U,by simp,hi⟩ (Xi _)
 .
  obtain⟨b,X,ins⟩:=a;obtain⟨o,hb,y,R,j⟩:=w;dsimp only at o hb y R j;have t:q3b p.1 (q05 g p.1 p.2).1 out (g.aw.take (i+1)) s=MN.ba p.1 (q05 g p.1 p.2).1 out (q3b p.1 (q05 g p.1 p.2).1 out (g.aw.take i) s) g.aw[i]:=by
   unfold q3b;rw[Xk hi',Yk];rfl
  generalize q3b p.1 (q05 g p.1 p.2).1 out (g.aw.take i) s=s' at*
  unfold q09;dsimp only;rw[H,if_pos (by simpa using hi')];refine Ok.bind (k2i hi' ?_);rw[iw hi' (by omega),qp5 e (by omega)];refine k2h (λG=>?_) (λG=>f _ ?_)
  .
   have G:g.aw[i].aO=(p.1:Int):=by simpa [gp]using G
   rw[if_neg (by simpa using Q)];obtain⟨hq,L⟩:=MN.dq hG N hp P (Xa hi') G;have Y:q88 g ⟨g.aw[i].To,v.1⟩:=by rw[hu];exact qk7 hq
   refine zx9 (J:=λi' A d=>q0g out (i:Int) b rec g.aw[i] i' A d) y Y (by omega) λk A d I=>?_;have V:k<d.length:=by rw[I.len];exact I.hi
   have M:=I.bag _ (Xa V);have bi:=I.ga _ (Xa V);have Z:=I.each _ (Xa V);have bk:=I.grow;unfold bt at Z;have S:∀x:aP (List a7),MN.Fn x.a0/\MN.Fn x.a1->bt x=bt d[k]+tot out->x=q6m d[k] g.aw[i].Port out->Ok (rec (((i+1:Nat):Int),IntKind.i64.wrap (b+tot out),A,d.set k x)) λv=>Gvn g r (q3b p.1 (q05 g p.1 p.2).1 out g.aw s) T v.2:=λx a6 ao ar=>by
    rw[wrap_i64 (b+tot out) (by omega)];refine f (_,_,_) ⟨?_,by dsimp only;omega,?_,by dsimp only;omega,λz=>?_⟩
    . rw[t];unfold MN.ba;rw[if_pos G];dsimp only;rw[o]
    . dsimp only;rw[show T+(b+tot out-r.work)=T+(b-r.work)+tot out by omega];exact I.set a6 h1 ao
    dsimp only;rw[j31 I j Q ar z,t];unfold MN.ba;rw[if_pos G]
    show (q6l s' ⟨g.aw[i].To,v.1⟩ _ _).ins _=(q6l s' ⟨g.aw[i].To,(q05 g p.1 p.2).1⟩ _ _).ins _
    rw[hu]
   unfold q0g;rw[iw hi' (by omega),qp5 e (by omega)];refine Ok.bind (k2i V (Ok.guard (by omega) ?_));rw[Xj];have bs:=M.1.len;have bv:=M.2.len;rcases L with h|h<;>rw[h]
   .
    obtain⟨c1,c2,c3,_⟩:=aY M.1 e (by omega);rw[show idx ([d[k].a0,d[k].a1]:List (List a7)) 0=some d[k].a0 from rfl];refine Ok.bind (Ok.some ?_);rw[c1];refine Ok.bind (Ok.some (Ok.guard (by omega) (Ok.bind (Ok.some (Ok.bind (Ok.some (Ok.bind (Ok.some (S _ ⟨c2,M.2⟩ ?_ ?_)))))))))
    .
     show tot (MN.aS d[k].a0 out)+tot d[k].a1=bt d[k]+tot out
     unfold bt;omega
    rw[h];rfl
   obtain⟨c1,c2,c3,_⟩:=aY M.2 e (by omega);rw[show idx ([d[k].a0,d[k].a1]:List (List a7)) 1=some d[k].a1 from rfl];refine Ok.bind (Ok.some ?_);rw[c1];refine Ok.bind (Ok.some (Ok.guard (by omega) (Ok.bind (Ok.some (Ok.bind (Ok.some (Ok.bind (Ok.some (S _ ⟨M.1,c2⟩ ?_ ?_)))))))))
   .
    show tot d[k].a0+tot (MN.aS d[k].a1 out)=bt d[k]+tot out
    unfold bt;omega
   rw[h];rfl
  have G:¬g.aw[i].aO=(p.1:Int):=by simpa [gp]using G
  have b0:MN.ba p.1 (q05 g p.1 p.2).1 out s' g.aw[i]=s':=by unfold MN.ba;rw[if_neg G]
  rw[t,b0];exact⟨o,⟨hb.1,by dsimp only;omega⟩,y,R,j⟩
 obtain⟨b,X,ins⟩:=a;obtain⟨o,hb,y,R,j⟩:=w;dsimp only at o hb y R j;rw[Xo]at o j;unfold q09;dsimp only;rw[H,if_neg (by simp)];unfold q0q;rw[qp5 e (by omega)];refine Ok.bind (Ok.some (Ok.some ⟨H.symm▸rfl,rfl,rfl,rfl,?_,by dsimp only;omega,o,by dsimp only;omega,y,R,j⟩))
 show r.outs=_
 rw[(MN.cE (n:=p.1) (u:=(q05 g p.1 p.2).1) (out:=out) g.aw s).2.2.2.1,D]
end
end WV
end
section
open Go Go.RowKit TS VA BG
namespace WV
open Classical
open MN (aY bt qs4 q7m q6m no2 qe3 MS PtM gv q05)
theorem zw5(aE:ah->List a7)(n:Int)(t:af):∀(a:List ax) (xs:List (aP (List a7))),xs.length=a.length->(∀i (h:i<a.length) (f:i<xs.length),aE (mp a[i])=xs[i].a0)->
 ((((a.filter λq=>decide (q.Node=n)).map λq=>(⟨q.Time,1⟩:aD)).filter λc=>decide (le c.Time t)).map λc=>aE ⟨n,c.Time⟩)=(a.zip xs).filterMap λy=>if y.1.Node=n/\le y.1.Time t then some y.2.a0 else none
 |[],_,_,_=>rfl
 |p::a,[],h,_=>by simp at h
 |p::a,x::xs,j,hb=>by
  have e:=zw5 aE n t a xs (by simpa using j) λi h f=>hb (i+1) (by simpa using h) (by simpa using f);have g:=hb 0 (by simp) (by simp);simp only[Xm]at g;rw[List.zip_cons_cons]
  by_cases d:p.Node=n
  .
   rw[Xn (by simpa using d),Yi]
   by_cases hle:le p.Time t
   . rw[Xn (by simpa using hle),Yi,e,Yo (b:=x.a0) (by rw[if_pos ⟨d,hle⟩]),<-g,<-d];rfl
   rw[Yq (by simpa using hle),e,X6 (by rw[if_neg λc=>hle c.2])]
  rw[Yq (by simpa using d),e,X6 (by rw[if_neg λc=>d c.1])]
theorem j8g{α:Type}{f:α->Int}{l:List α}{i:Nat}(hi:i<l.length):((l.take (i+1)).map f).sum=((l.take i).map f).sum+f l[i]:=by
 rw[snoc hi,Xv,Yc];simp
theorem j8h{α:Type}{f:α->Int}{l:List α}(h:∀x∈l,0<=f x)(i:Nat):((l.take i).map f).sum<=(l.map f).sum/\0<=((l.take i).map f).sum:=by
 have e:(l.map f).sum=((l.take i).map f).sum+((l.drop i).map f).sum:=by rw[<-Yc,<-Xv,Yw]
 have b:∀{m:List α},(∀x∈m,0<=f x)->0<=(m.map f).sum:=λ{m} c=>by
  cases m with
  |nil=>simp
  |cons y m=>exact (q7m c y (by simp)).2
 have d:=b (m:=l.drop i) λx a=>h x (List.mem_of_mem_drop a);have g:=b (m:=l.take i) λx a=>h x (List.mem_of_mem_take a);omega
theorem z5z{g:aa}{r:aq}{s:MS}(m:∀n:Int,s.ay n=(r.ay.aj.filter λq=>decide (q.Node=n)).map λq=>⟨q.Time,1⟩)(o:∀i (h:i<r.ay.aj.length) (U:i<r.ay.in_.length),s.aE (mp r.ay.aj[i])=r.ay.in_[i].a0)
 {T:Int}(j:cT g r.ay.aj r.ay.in_ T)(V:T<=6000)(p:Nat×af):Ok (q0h r (gp p)) λv=>v.2=r/\v.1=MN.dW s p.1 p.2/\MN.Fn v.1/\(v.1.length:Int)<=T:=by
 have W:=j.many;have K:=j.len;have G:∀x∈r.ay.in_,0<=bt x:=λx M=>by have:=j.pos x M;omega
 have d:MN.seen s p.1 p.2=(r.ay.aj.zip r.ay.in_).filterMap λy=>if y.1.Node=(p.1:Int)/\le y.1.Time p.2 then some y.2.a0 else none:=by
  unfold MN.seen;rw[m];exact zw5 s.aE p.1 p.2 _ _ K o
 have w:MN.dW s p.1 p.2=((r.ay.aj.zip r.ay.in_).filterMap λy=>if y.1.Node=(p.1:Int)/\le y.1.Time p.2 then some y.2.a0 else none).foldl MN.aS []:=by
  unfold MN.dW;rw[if_pos,d];rw[d];refine⟨?_,λb hb=>?_⟩
  . have:=List.length_filterMap_le (λy:ax×aP (List a7)=>if y.1.Node=(p.1:Int)/\le y.1.Time p.2 then some y.2.a0 else none) (r.ay.aj.zip r.ay.in_);rw[Yt]at this;omega
  obtain⟨y,N,H⟩:=List.mem_filterMap.1 hb;have z:=(List.of_mem_zip N).2;have D:=j.bag _ z;have L:=j.each _ z;have E:=D.1.len;have O:=D.2.len;unfold bt at L
  split at H
  . have:=Y9 H;rw[<-this];exact⟨D.1,by omega⟩
  cases H
 rw[w];unfold q0h;refine Ok.each (l:=r.ay.aj) (by omega) (λi a=>a=(((r.ay.aj.zip r.ay.in_).take i).filterMap λy=>if y.1.Node=(p.1:Int)/\le y.1.Time p.2 then some y.2.a0 else none).foldl MN.aS []/\MN.Fn a/\tot a<=((r.ay.in_.take i).map bt).sum) 0 (λrec i hi a _ I k=>?_) (λrec a I=>?_) ⟨by simp,MN.Fn.nil,by simp[tot]⟩ (Xi _)
 .
  have t:i<r.ay.in_.length:=by omega
  have J:i<(r.ay.aj.zip r.ay.in_).length:=by rw[Yt];omega
  have D:=j8g (f:=bt) t;have L:=j8h (f:=bt) G (i+1);have E:=j.bag _ (Xa t);have O:=E.1.len;have X:=E.2.len;have P:=j.tot;have Y:tot r.ay.in_[i].a0<=bt r.ay.in_[i]/\0<=bt r.ay.in_[i]:=by unfold bt;omega
  obtain⟨i1,i2,i3⟩:=I;have Q:(r.ay.aj.zip r.ay.in_)[i]=(r.ay.aj[i],r.ay.in_[i]):=List.getElem_zip;have e:(((r.ay.aj.zip r.ay.in_).take (i+1)).filterMap λy=>if y.1.Node=(p.1:Int)/\le y.1.Time p.2 then some y.2.a0 else none)=(((r.ay.aj.zip r.ay.in_).take i).filterMap λy=>if y.1.Node=(p.1:Int)/\le y.1.Time p.2 then some y.2.a0 else none)++(if r.ay.aj[i].Node=(p.1:Int)/\le r.ay.aj[i].Time p.2 then [r.ay.in_[i].a0]else []):=by
   rw[Xk J,List.filterMap_append,Q]
   congr 1
   by_cases u:r.ay.aj[i].Node=(p.1:Int)/\le r.ay.aj[i].Time p.2
   . rw[if_pos u,Yo (b:=r.ay.in_[i].a0) (by dsimp only;rw[if_pos u])];rfl
   rw[if_neg u,X6 (by dsimp only;rw[if_neg u])];rfl
  unfold q1a;dsimp only;rw[if_pos (by simpa using hi),iw hi (by omega)];have A:¬(r.ay.aj[i].Node=(p.1:Int)/\le r.ay.aj[i].Time p.2)->Ok (rec (((i+1:Nat):Int),a)) λv=>v.2=r/\v.1=((r.ay.aj.zip r.ay.in_).filterMap λy=>if y.1.Node=(p.1:Int)/\le y.1.Time p.2 then some y.2.a0 else none).foldl MN.aS []/\MN.Fn v.1/\(v.1.length:Int)<=T:=λu=>
   k _ ⟨by rw[e,if_neg u,Xq];exact i1,i2,by omega⟩
  refine Ok.bind (k2i hi (k2h (λB=>?_) (λB=>A λc=>?_)))
  .
   have B:r.ay.aj[i].Node=(p.1:Int):=by simpa [gp]using B
   rw[TS.le_eq];refine Ok.bind (Ok.some (k2h (λC=>?_) (λC=>A λc=>?_)))
   . have C:le r.ay.aj[i].Time p.2:=of_decide_eq_true C;refine Ok.bind (k2i t ?_);obtain⟨R,S,Z,_⟩:=aY i2 E.1 (by omega);rw[R];exact Ok.bind (Ok.some (k _ ⟨by rw[e,if_pos ⟨B,C⟩,Yk,<-i1];rfl,S,by omega⟩))
   have:¬le r.ay.aj[i].Time p.2:=of_decide_eq_false C;exact this c.2
  have:¬r.ay.aj[i].Node=(p.1:Int):=by simpa [gp]using B
  exact this c.1
 unfold q1a;dsimp only;rw[if_neg (by simp)];obtain⟨i1,i2,i3⟩:=I;have:=j.tot;rw[<-K,Xo]at i3;rw[Xp (by rw[Yt];omega)]at i1;have:=i2.len;exact Ok.some ⟨rfl,i1,i2,by dsimp only;omega⟩
section
variable {g:aa} (hG:VA.Good g)
include hG
theorem jc9{r:aq}(f:r.g=g){T:Int}(C:cT g r.aI.aj r.aI.in_ T){s:MS}(hi:∀z,lk r.aI.aj r.aI.in_ z=s.ins (mp z))(j:s.work=r.work)(l:s.outs=r.outs){p:Nat×af}(hp:PtM g (MN.pt p))(m:T<=10000000)(D:0<=r.work/\r.work<=10000000)(q:r.outs.length<=1000000000)(E:r.aL.length<=1000000000)
 {x:aP (List a7)}(e:MN.Fn x.a0/\MN.Fn x.a1)(t:bt x<=50000){b:List a7}(lb:b.length<=60000):
 Ok (q0a (gp p) x [x.a0,b] r.g.ae r.g.aG r.g.al r.g.aw r.table r.work r.aI.aj r.aI.in_ r.ay.aj r.ay.in_ r.aL r.outs) λv=>
  (v.1=false->MN.bM (nd g p.1) x.a0 b=none)/\(v.1=true->∃o,MN.bM (nd g p.1) x.a0 b=some o/\∃u w,Gvn g r (MN.put g p o s) T u/\v.2=⟨u.aI,u.g,u.table,u.ay,u.work,u.aL++[w],u.outs⟩):=by
 obtain⟨n,A,d,_,_⟩:=id hp;have d:(p.1:Int)=n:=d;obtain rfl:p.1=n:=by omega
 have H:=e.1.len;have I:=e.2.len;unfold bt at t;obtain⟨o,k,a1,a2,a3,a4⟩:=MN.de (x:=nd g p.1) (a:=x.a0) (b:=b) (by omega) lb;unfold q0a;rw[f]
 show Ok (q9 (idx g.al (p.1:Int)) _) _
 refine Ok.bind (k2i A ?_);rw[q7i A,a1];refine Ok.bind (Ok.some (k2h (λc=>?_) (λc=>?_)))
 .
  have c:k=false:=by simpa using c
  refine Ok.some ⟨λ_=>(by rw[a4,c];rfl),λh=>(by cases h)⟩
 have c:k=true:=by simpa using c
 rw[qp5 e.1 (by omega),qp5 e.2 (by omega)];have y:(⟨⟨r.aI.aj,r.aI.in_⟩,⟨g.ae,g.aG,g.al,g.aw⟩,r.table,⟨r.ay.aj,r.ay.in_⟩,r.work,r.aL,r.outs⟩:aq)=r:=by rw[<-f]
 rw[y];refine Ok.bind (Ok.some (Ok.bind (Ok.some (k2g (j9p hG f C hi j l hp a2 a3 m D q) λu B=>?_))));have G:u.2.aL.length=r.aL.length:=by rw[B.aL]
 exact Ok.guard (by simp;omega) (Ok.some ⟨λh=>(by cases h),λ_=>⟨o,by rw[a4,if_pos c],_,_,B,rfl⟩⟩)
structure Made(g:aa)(p:Nat×af)(r v:aq)(s:MS)(T:Int):Prop where
 rl:Rl g v s
 table:v.table=r.table
 aL:v.aL.length=r.aL.length+1
 outs:v.outs.length<=r.outs.length+65536
 work:r.work<=v.work/\v.work<=r.work+6553600
 fa:∃T1 T2,T1+T2<=T+(v.work-r.work)/\cT g v.aI.aj v.aI.in_ T1/\cT g v.ay.aj v.ay.in_ T2
 many:(v.aI.aj.length:Int)+1<=r.aI.aj.length+(v.work-r.work)
 ay:∀q∈v.ay.aj,q∈r.ay.aj\/q=gp p
theorem jj5{r:aq}{s:MS}(l:Rl g r s)(hw:0<=r.work/\r.work<=1000000)(bi:r.outs.length<=100000000)(bk:r.aL.length<=1000000)
 {T1 K:Int}(L:cT g r.aI.aj r.aI.in_ T1)(O:cT g r.ay.aj r.ay.in_ K)(bs:T1+K<=6000){p:Nat×af}{i:Nat}(hi:i<r.aI.aj.length)(G:r.aI.aj[i]=gp p)
 (ar:(nd g p.1).Kind=14->gp p∉r.ay.aj)(b0:(nd g p.1).Kind=14->(s.ins (MN.pt p)).a1=[]):
 Ok (q15 r (i:Int)) λv=>(v.1=false->MN.opB g s p=none)/\(v.1=true->∃o,MN.opB g s p=some o/\Made g p r v.2 (MN.pit g p o s) (T1+K)):=by
 have bv:=L.len;have c4:=L.many;have c5:=O.many;have S:=O.len;have t:i<r.aI.in_.length:=by omega
 have hp:=L.pt _ (Xa hi);have P:=L.bag _ (Xa t);have c6:=L.each _ (Xa t);have T:=L.pos _ (Xa t);have h0:=P.1.len;have h1:=P.2.len;have hD:=L.del hi;have c7:=hD.many;have M:r.aI.in_[i]=s.ins (MN.pt p):=by
  have:=l.ins (gp p);rw[<-G,zt5 hi t L.nd,G]at this;exact this
 rw[G]at hp;have H:PtM g (MN.pt p):=jr1 hp;obtain⟨n,hn,Y,ht,c8⟩:=hp;have Y:(p.1:Int)=n:=Y;obtain rfl:p.1=n:=by omega
 have c9:bt r.aI.in_[i]=tot r.aI.in_[i].a0+tot r.aI.in_[i].a1:=rfl
 have Q:∀z,lk (r.aI.aj.take i++r.aI.aj.drop (i+1)) (r.aI.in_.take i++r.aI.in_.drop (i+1)) z=(MN.aX g p.1 p.2 s).ins (mp z):=λz=>by
  rw[j6q hi t L.nd,G,MN.cM,l.ins]
  by_cases h:z=gp p
  . rw[if_pos h,if_pos (by rw[h];rfl)]
  rw[if_neg h,if_neg λe=>h (zy8 (e.trans (jc8 p).symm))]
 obtain⟨tw,to,te⟩:=MN.take_same g p.1 p.2 s;have bc:(r.aI.aj.take i++r.aI.aj.drop (i+1)).length+1=r.aI.aj.length:=by simp;omega
 have Z:∀(d:aq) (N A:Int),d.g=g->d.table=r.table->d.aL=r.aL->d.outs=r.outs->d.work=r.work->d.aI.aj=r.aI.aj.take i++r.aI.aj.drop (i+1)->N+A<=T1+K->
  cT g d.ay.aj d.ay.in_ A->(∀q∈d.ay.aj,q∈r.ay.aj\/q=gp p)->
  (∀m:Int,(MN.aX g p.1 p.2 s).ay m=(d.ay.aj.filter λq=>decide (q.Node=m)).map λq=>⟨q.Time,1⟩)->(∀i (h:i<d.ay.aj.length) (U:i<d.ay.in_.length),(MN.aX g p.1 p.2 s).aE (mp d.ay.aj[i])=d.ay.in_[i].a0)->
  ∀(b:List a7) (v:Bool×aq),MN.bB g s p=b->((v.1=false->MN.bM (nd g p.1) r.aI.in_[i].a0 b=none)/\(v.1=true->∃o,MN.bM (nd g p.1) r.aI.in_[i].a0 b=some o/\∃u w,Gvn g d (MN.put g p o (MN.aX g p.1 p.2 s)) N u/\v.2=⟨u.aI,u.g,u.table,u.ay,u.work,u.aL++[w],u.outs⟩))->
  ((v.1=false->MN.opB g s p=none)/\(v.1=true->∃o,MN.opB g s p=some o/\Made g p r v.2 (MN.pit g p o s) (T1+K))):=by
  intro d N A e1 e2 e3 e4 e5 e6 cb V a6 B C b v hb X;have ao:MN.opB g s p=MN.bM (nd g p.1) r.aI.in_[i].a0 b:=by unfold MN.opB;rw[hb,M]
  refine⟨λh=>by rw[ao];exact X.1 h,λh=>?_⟩;obtain⟨o,ho,u,w,I,rfl'⟩:=X.2 h;obtain⟨b1,b2,cc,_⟩:=MN.bC (g:=g) p o (MN.aX g p.1 p.2 s);refine⟨o,by rw[ao];exact ho,?_⟩;rw[rfl'];have D:=I.ay;refine⟨⟨I.gr.trans e1,I.ins,λm=>?_,λi h U=>?_,I.wk.symm,I.outs.symm,?_⟩,I.table.trans e2,?_,by have:=I.fU;rw[e4]at this;exact this,by have:=I.work;rw[e5]at this;exact this,⟨_,A,?_,I.aI,?_⟩,?_,λq f=>?_⟩
  .
   show (MN.put g p o (MN.aX g p.1 p.2 s)).ay m=(u.ay.aj.filter _).map _
   rw[b1,D];exact B m
  .
   show (MN.put g p o (MN.aX g p.1 p.2 s)).aE (mp u.ay.aj[i])=u.ay.in_[i].a0
   rw[b2];have h2:i<d.ay.aj.length:=by rw[<-D];exact h
   have h3:i<d.ay.in_.length:=by rw[<-D];exact U
   have:=C i h2 h3;simp only[D];exact this
  . rw[MN.du];exact l.e
  .
   show (u.aL++[w]).length=_
   rw[I.aL,e3];simp
  .
   show N+(u.work-d.work)+A<=T1+K+(u.work-r.work)
   rw[e5];omega
  .
   show cT g u.ay.aj u.ay.in_ A
   rw[D];exact V
  .
   have:=I.many;rw[e5,e6]at this
   show (u.aI.aj.length:Int)+1<=r.aI.aj.length+(u.work-r.work)
   omega
  have f:q∈u.ay.aj:=f;rw[D]at f;exact a6 q f
 unfold q15 q8l q8m z2m;rw[iw hi (by omega)];refine Ok.bind (k2i hi (Ok.bind (k2i t (Ok.bind (Ok.guard (by omega) (Ok.some (Ok.bind (Ok.guard (by omega) (Ok.some (Ok.guard (by omega) (Ok.bind ?_)))))))))));rw[G,l.gr,Xj,Xj]
 show Ok (idx g.al (p.1:Int)) _
 refine k2i hn ?_;rw[q7i hn];refine k2h (λE=>?_) (λE=>?_)
 .
  have E:(nd g p.1).Kind=14:=by simpa using E
  have b3:r.aI.in_[i].a1=[]:=by rw[M];exact b0 E
  have hz:r.aI.in_[i].a0≠[]:=λe=>by
   unfold bt at T;rw[e,b3]at T;exact absurd T (by show ¬(1:Int)<=0+0;decide)
  rw[if_neg (by simpa using hz)];have h3:=qe3 P.1 hz;have W:=ar E;refine k2g (j1e (by omega)) λv hv=>?_;obtain⟨rfl,_⟩:=hv.resolve_right λ⟨k,b4,_,b5⟩=>W (by rw[<-b5];exact Xa b4);rw[if_pos (by simp)];refine Ok.guard (by simp;omega) (Ok.guard (by simp;omega) ?_);unfold q0r;rw[l.gr,<-S];refine Ok.bind (k2i (i:=r.ay.in_.length) (by simp) ?_);rw[X3 (X7 _)];simp only[Nat.sub_self,Xm];obtain⟨c1,c2,c3,_⟩:=aY MN.Fn.nil P.1 (show tot []+tot r.aI.in_[i].a0<=50000000 by rw[show tot ([]:List a7)=0 from rfl];omega);rw[c1];refine Ok.bind (Ok.some ?_);rw[MN.ff P.1 (by omega),Xj,MN.dH rfl];have R:cT g (r.ay.aj++[gp p]) (r.ay.in_++[(⟨r.aI.in_[i].a0,[]⟩:aP (List a7))]) (K+tot r.aI.in_[i].a0):=by
   refine⟨by simp[S],λq f=>?_,?_,λy J=>?_,λy J=>?_,?_⟩
   .
    rcases Xe.1 f with f|f
    . exact O.pt q f
    rw[Xb.1 f];exact qk7 H
   . exact Y4.2 ⟨O.nd,by simp,λa ha b hb=>by rw[Xb.1 hb];exact λe=>W (e▸ha)⟩
   .
    rcases Xe.1 J with J|J
    . exact O.bag y J
    rw[Xb.1 J];exact⟨P.1,MN.Fn.nil⟩
   .
    rcases Xe.1 J with J|J
    . exact O.pos y J
    rw[Xb.1 J];show 1<=tot r.aI.in_[i].a0+0;omega
   rw[Xv,Yc];have:=O.tot
   show _+([tot r.aI.in_[i].a0+0]:List Int).sum<=_
   simp;omega
  have B:∀m:Int,(MN.aX g p.1 p.2 s).ay m=((r.ay.aj++[gp p]).filter λq=>decide (q.Node=m)).map λq=>⟨q.Time,1⟩:=λm=>by
   rw[MN.cD,l.ay,List.filter_append,Xv]
   by_cases hm:m=(p.1:Int)
   .
    have hf:[gp p].filter (λq=>decide (q.Node=m))=[gp p]:=by simp[gp,hm]
    rw[if_pos ⟨E,hm⟩,hf];rfl
   have hf:[gp p].filter (λq=>decide (q.Node=m))=[]:=by
    simp only[List.filter_cons,Yu];rw[if_neg λe=>hm (of_decide_eq_true e).symm]
   rw[if_neg λc=>hm c.2,hf];simp
  have C:∀j (h:j<(r.ay.aj++[gp p]).length) (U:j<(r.ay.in_++[(⟨r.aI.in_[i].a0,[]⟩:aP (List a7))]).length),(MN.aX g p.1 p.2 s).aE (mp (r.ay.aj++[gp p])[j])=(r.ay.in_++[(⟨r.aI.in_[i].a0,[]⟩:aP (List a7))])[j].a0:=λj h U=>by
   rw[MN.cA]
   by_cases hj:j<r.ay.aj.length
   . rw[X5 hj,X5 (by omega),if_neg,l.aE j hj (by omega)];rintro⟨_,e⟩;have:=zy8 (e.trans (jc8 p).symm);exact W (by rw[<-this];exact Xa hj)
   have b6:j=r.ay.aj.length:=by simp at h;omega
   subst b6;rw[X3 (by omega),X3 (by omega)];simp only[Nat.sub_self,S,Xm];rw[if_pos ⟨E,rfl⟩,M];rfl
  refine k2g (z5z (g:=g) (r:=⟨⟨r.aI.aj.take i++r.aI.aj.drop (i+1),r.aI.in_.take i++r.aI.in_.drop (i+1)⟩,g,r.table,⟨r.ay.aj++[gp p],r.ay.in_++[(⟨r.aI.in_[i].a0,[]⟩:aP (List a7))]⟩,r.work,r.aL,r.outs⟩) B C R (by omega) p) λv ⟨v1,v2,v3,v4⟩=>?_;rw[v1];dsimp only;exact (jc9 hG (r:=⟨⟨r.aI.aj.take i++r.aI.aj.drop (i+1),r.aI.in_.take i++r.aI.in_.drop (i+1)⟩,g,r.table,⟨r.ay.aj++[gp p],r.ay.in_++[(⟨r.aI.in_[i].a0,[]⟩:aP (List a7))]⟩,r.work,r.aL,r.outs⟩) rfl hD Q (tw.trans l.work) (to.trans l.outs) H (by omega) (by dsimp only;omega) (by dsimp only;omega) (by dsimp only;omega) P (by omega) (b:=v.1) (by omega)).mono
   λw X=>Z ⟨⟨r.aI.aj.take i++r.aI.aj.drop (i+1),r.aI.in_.take i++r.aI.in_.drop (i+1)⟩,g,r.table,⟨r.ay.aj++[gp p],r.ay.in_++[(⟨r.aI.in_[i].a0,[]⟩:aP (List a7))]⟩,r.work,r.aL,r.outs⟩ _ (K+tot r.aI.in_[i].a0) rfl rfl rfl rfl rfl rfl (by omega) R (λq f=>by
    rcases Xe.1 f with h|h
    . exact .inl h
    exact .inr (Xb.1 h)) B C v.1 w (by unfold MN.bB;rw[if_pos E,v2]) X
 have E:(nd g p.1).Kind≠14:=by simpa using E
 have B:∀m:Int,(MN.aX g p.1 p.2 s).ay m=(r.ay.aj.filter λq=>decide (q.Node=m)).map λq=>⟨q.Time,1⟩:=λm=>by
  rw[MN.cD,if_neg λc=>E c.1];exact l.ay m
 have C:∀j (h:j<r.ay.aj.length) (U:j<r.ay.in_.length),(MN.aX g p.1 p.2 s).aE (mp r.ay.aj[j])=r.ay.in_[j].a0:=λj h U=>by
  rw[MN.cA,if_neg λc=>E c.1];exact l.aE j h U
 exact (jc9 hG (r:=⟨⟨r.aI.aj.take i++r.aI.aj.drop (i+1),r.aI.in_.take i++r.aI.in_.drop (i+1)⟩,g,r.table,r.ay,r.work,r.aL,r.outs⟩) rfl hD Q (tw.trans l.work) (to.trans l.outs) H (by omega) (by dsimp only;omega) (by dsimp only;omega) (by dsimp only;omega) P (by omega) (b:=r.aI.in_[i].a1) (by omega)).mono
  λw X=>Z ⟨⟨r.aI.aj.take i++r.aI.aj.drop (i+1),r.aI.in_.take i++r.aI.in_.drop (i+1)⟩,g,r.table,r.ay,r.work,r.aL,r.outs⟩ _ K rfl rfl rfl rfl rfl rfl (by omega) O (λq f=> .inl f) B C _ w (by unfold MN.bB;rw[if_neg E,M]) X
end
end WV
end
section
open Go Go.RowKit TS VA BG
namespace MN
open Classical
noncomputable def ix:List (Nat×af)->Nat×af->Nat
 |[],_=>0
 |a::L,p=>if a=p then 0 else ix L p+1
theorem zc2:∀{L:List (Nat×af)} {p:Nat×af},p∈L->∃A B,L=A++p::B/\p∉A/\ix L p=A.length
 |a::L,p,h=>by
  by_cases b:a=p
  . exact⟨[],L,by rw[b];rfl,by simp,by unfold ix;rw[if_pos b];rfl⟩
  obtain⟨A,B,c,d,f⟩:=zc2 ((X8.1 h).resolve_left λe=>b e.symm);refine⟨a::A,B,by rw[c];rfl,λg=>?_,by unfold ix;rw[if_neg b,f];rfl⟩;exact (X8.1 g).elim (λe=>b e.symm) d
theorem j6x:∀{A:List (Nat×af)} {L:List (Nat×af)} {q:Nat×af},q∉A->ix (A++L) q=A.length+ix L q
 |[],L,q,_=>by simp
 |a::A,L,q,h=>by
  rw[Xd,ix,if_neg λe=>h (by rw[e];simp),j6x λb=>h (by simp[b]),Xl];omega
theorem j4h{A B:List (Nat×af)}{p q:Nat×af}(b:q∉A)(a:q≠p):A.length<ix (A++p::B) q:=by
 rw[j6x b,ix,if_neg a.symm];omega
theorem jd1:∀{A B:List (Nat×af)} {p:Nat×af},ix (A++p::B) p<=A.length
 |[],B,p=>by rw[Ys,ix,if_pos rfl];exact Xi _
 |a::A,B,p=>by
  rw[Xd,ix]
  split
  . exact Xi _
  have:=jd1 (A:=A) (B:=B) (p:=p);simp only[Xl];omega
theorem j4i:∀{A B:List (Nat×af)} {p:Nat×af},p∈A->ix (A++B) p<A.length
 |a::A,B,p,h=>by
  rw[Xd,ix]
  split
  . simp
  rename_i b
  have:=j4i (B:=B) ((X8.1 h).resolve_left λe=>b e.symm);simp only[Xl];omega
def Bn(g:aa)(p:Nat×af):Prop:=∀c∈anc g.ae (q0s g (nd g p.1)),c≠0->at_ p.2 (dep g c)<bnd g c
def Vd(g:aa)(a:List Int)(p:Nat×af):Prop:=PtM g (pt p)/\Bn g p/\p.2.C.a0∈a
section
variable {g:aa} (hG:VA.Good g)
include hG
theorem eK{n:Nat}(d:n<g.al.length):0<=q0s g (nd g n)/\q0s g (nd g n)<g.ae.length:=by
 obtain⟨b,c,e⟩:=aQ hG d;unfold q0s
 split
 .
  rename_i a
  obtain⟨f,j,_⟩:=(bb hG b c).2.2 (e (.inl a));exact⟨f,j⟩
 exact⟨b,c⟩
theorem Vd.step{G:List Int}{p q:Nat×af}(h:Vd g G p)(H:gv g p (pt q)):Vd g G q:=by
 obtain⟨hp,hb,O⟩:=h;obtain⟨P,w,d,I,_,y,m,Q,_⟩:=z9e hG hp H;obtain⟨o,t,L⟩:=aQ hG y;refine⟨P,λc e j=>?_,by rw[w];show (q05 g p.1 p.2).1.C.a0∈G;rw[zc6 hG y hp d];exact O⟩;have n:∀{s:Int},0<=s->s<g.ae.length->c∈anc g.ae s->0<=c/\c<g.ae.length/\1<=dep g c/\dep g c<=dep g s:=λB E a=>by
  have:=bF hG B E a;exact⟨this.1,by omega,(bb hG this.1 (by omega)).1,cS hG B E a⟩
 rw[w];rw[<-I]at e
 by_cases f:(nd g p.1).Kind=10
 .
  have k:q3n g (nd g p.1)=(nd g p.1).Scope:=by unfold q3n;rw[if_neg (by omega)]
  rw[k]at e;rw[bY f]at d⊢
  split at d
  .
   rename_i u
   rw[if_pos u];have b:q0s g (nd g p.1)=g.ae.getD (nd g p.1).Scope.toNat 0:=by unfold q0s;rw[if_pos f]
   have J:=L (.inl f);obtain⟨M,N,R,S⟩:=(bb hG o t).2.2 J
   by_cases a:c=(nd g p.1).Scope
   .
    have z:lev g p.1=dep g (g.ae.getD (nd g p.1).Scope.toNat 0):=by unfold lev;rw[b]
    have B:=(zt6 m u.2).2;have K:(enT p.2).D=(dep g c:Int):=by show p.2.D+1=_;rw[a];omega
    rw[<-K]
    show at_ (enT p.2) (enT p.2).D<_
    rw[j35,B];have:=j33 hG (n o t e).1 (n o t e).2.1 j;omega
   have E:=(cJ hG o t e a).2
   show at_ (enT p.2) _<_
   exact hb c (by rw[b];exact E) j
  cases d
 by_cases l:(nd g p.1).Kind=11
 .
  have k:q3n g (nd g p.1)=g.ae.getD (nd g p.1).Scope.toNat 0:=by unfold q3n;rw[if_pos l]
  have b:q0s g (nd g p.1)=(nd g p.1).Scope:=by unfold q0s;rw[if_neg f]
  have z:lev g p.1=dep g (nd g p.1).Scope:=by unfold lev;rw[b]
  rw[k]at e;have J:=L (.inr (.inl l));obtain⟨M,N,R,S⟩:=(bb hG o t).2.2 J;rw[bN l]at d⊢
  split at d
  .
   rename_i u
   rw[if_pos u];obtain⟨_,_,T,U⟩:=n M N e
   show at_ (leT p.2) _<_
   rw[jv2 m (by omega) (by omega)];refine hb c ?_ j;rw[b,q46 hG.wp o t];exact List.mem_cons_of_mem _ e
  cases d
 have k:q3n g (nd g p.1)=(nd g p.1).Scope:=by unfold q3n;rw[if_neg l]
 have b:q0s g (nd g p.1)=(nd g p.1).Scope:=by unfold q0s;rw[if_neg f]
 have z:lev g p.1=dep g (nd g p.1).Scope:=by unfold lev;rw[b]
 rw[k]at e
 by_cases A:(nd g p.1).Kind=12
 .
  rw[bz A]at d⊢
  split at d
  .
   rename_i u
   rw[if_pos u];have d:bj (nxT p.2)<bnd g (nd g p.1).Scope:=by simpa using d
   show at_ (nxT p.2) _<_
   obtain⟨_,_,T,U⟩:=n o t e
   by_cases a:c=(nd g p.1).Scope
   .
    have K:(nxT p.2).D=(dep g c:Int):=by rw[z6m m,a];omega
    rw[<-K,j35,a];exact d
   have:=j7d hG o t e a;rw[jv1 m (by omega) (by omega)];exact hb c (by rw[b];exact e) j
  cases d
 rw[cg f l A];exact hb c (by rw[b];exact e) j
noncomputable def FL(g:aa)(a:List Int):List (Nat×af):=a.flatMap (qm3 g)
theorem j1g{d:List Int}(k:∀e∈d,0<=e/\e<=1048576){p:Nat×af}(h:Vd g d p):p∈FL g d:=by
 obtain⟨hp,hb,j⟩:=h;obtain⟨a,b,f⟩:=bm (m:=p.1) (v:=p.2) hp;have o:=hG.pl;refine X9.2 ⟨_,j,?_⟩;obtain⟨t0,q⟩:=eK hG a;refine z7u hG 8 (zk1 hG) (by omega) (zg2 (k _ j)) (by rw[fT hG];rfl) (Xi _) a b f (.inl ⟨?_,rfl,λh=>absurd h (by show ¬(1:Int)<1;decide),λh=>absurd h (by show ¬(2:Int)<1;decide),λh=>absurd h (by show ¬(3:Int)<1;decide)⟩) λc l n=>hb c l (by omega)
 show (1:Int)<=p.2.D
 exact b.1
theorem j56:∀(b:List Int),b.Pairwise (· <·)->(∀e∈b,0<=e/\e<=1048576)->Bf g (FL g b)
 |[],_,_=>Bf.nil g
 |e::b,s,q=>by
  obtain⟨t,u⟩:=Yf.1 s;have w:=hG.pl;unfold FL;rw[List.flatMap_cons];refine Bf.app (zw6 hG 8 (zk1 hG) (by omega) (ep e) (zg2 (q e (by simp))) (by rw[fT hG];rfl)) (j56 b u λx c=>q x (by simp[c])) λp hp _ a x c=>?_;obtain⟨y,d,f⟩:=X9.1 hp;obtain⟨j,k,z⟩:=bm (m:=p.1) (v:=p.2) a;have A:=z19 p f k;have B:=t y d;refine⟨λl=>?_,λ⟨_,_,hle⟩=>?_⟩
  . obtain⟨C,n,D,_⟩:=z9e hG a l;obtain⟨_,o,_⟩:=bm (m:=x.1) (v:=x.2) C;have E:=z19 x c o;have:=zc6 hG j a D;rw[<-n]at this;omega
  have E:=z19 x c hle.2.1;have:=hle.2.2.2.1;omega
variable {es:List Int} (hs:es.Pairwise (· <·)) (hr:∀e∈es,0<=e/\e<=1048576)
include hs hr
theorem gk{p q:Nat×af}(h:Vd g es p)(a:gv g p (pt q)):ix (FL g es) p<ix (FL g es) q:=by
 obtain⟨A,B,d,f,j⟩:=zc2 (j1g hG hr h);rw[j];have b:q≠p:=λe=>j08 hG h.1 (by rw[e]at a;exact a);have c:q∉A:=λk=>(j56 hG es hs hr A p B d f h.1 q k).1 a;rw[d];exact j4h c b
theorem k1f{p q:Nat×af}(h:Vd g es p)(f:p.1=q.1)(j:(nd g p.1).Kind=14)(k:le p.2 q.2)(a:p≠q):ix (FL g es) p<ix (FL g es) q:=by
 obtain⟨A,B,d,l,m⟩:=zc2 (j1g hG hr h);rw[m];have b:q∉A:=λc=>(j56 hG es hs hr A p B d l h.1 q c).2 ⟨f,j,k⟩;rw[d];exact j4h b a.symm
theorem gq{w a:Nat×af}(h:Vd g es w)(hp:Pa g w a):Vd g es a/\ix (FL g es) w<=ix (FL g es) a:=by
 induction hp with
 |refl=>exact⟨h,X7 _⟩
 |snoc _ b c=>exact⟨c.1.step hG b,Nat.le_of_lt (Nat.lt_of_le_of_lt c.2 (gk hG hs hr c.1 b))⟩
omit hG hs hr in
theorem jl6(M:Int)(s:MS)(p:Nat×af):(bh g M s p.1 p.2).2=evB g M s p:=by
 unfold evB evW bh bB pt
 split<;>rfl
theorem ec{C M:Int}(u:0<=C)(f:C+M<=1000000):∀(B A:List (Nat×af)) (s:MS),FL g es=A++B->(s.e=0->Sd g C M s/\∀p,s.ins (pt p)≠no2->Vd g es p/\A.length<=ix (FL g es) p)->Rn g M s (bZ g M B s)
 |[],A,s,l,h=>by
  refine .done ?_
  by_cases b:s.e=0
  . refine .inr λp=>Xg λhp=>?_;obtain⟨v,c⟩:=(h b).2 p hp;have:=j1g hG hr v;rw[Xq]at l;rw[l]at this c;have J:=j4i (B:=[]) this;rw[Xq]at J;omega
  exact .inl b
 |a::B,A,s,l,h=>by
  by_cases b:s.e=0
  .
   obtain⟨y,t⟩:=h b;have n:FL g es=(A++[a])++B:=by rw[l];simp
   have more:∀p,Vd g es p->A.length<=ix (FL g es) p->p≠a->A.length<ix (FL g es) p:=λp Q c j=>by
    rw[l]at c⊢;have z:p∉A:=λhp=>by have:=j4i (B:=a::B) hp;omega
    exact j4h z j
   rw[qy5,jl6]
   by_cases m:s.ins (pt a)=no2
   . rw[j0j m];refine ec u f B (A++[a]) s n λ_=>⟨y,λp hp=>?_⟩;obtain⟨v,c⟩:=t p hp;have:=more p v c λe=>hp (by rw[e];exact m);exact⟨v,by rw[Xu,Ya];omega⟩
   obtain⟨G,K⟩:=t a m;have L:ix (FL g es) a=A.length:=by
    have:ix (FL g es) a<=A.length:=by rw[l];exact jd1
    omega
   have D:Fr g s a:=⟨m,λw N j x c=>by
    obtain⟨H,E⟩:=t w N;have R:=more w H E j;obtain⟨O,q⟩:=gq hG hs hr H c;refine⟨λe=>by rw[e]at q;omega,λ⟨k1,k2,P⟩=>?_⟩
    by_cases d:x=a
    . rw[d]at q;omega
    have:=k1f hG hs hr O k1 (by rw[k1];exact k2) P d;omega⟩
   refine .step b D (ec u f B (A++[a]) _ n λI=>⟨y.step hG u f b m I,λp hp=>?_⟩);obtain⟨o,_,_,_,hd⟩:=cY hG y b m I;rw[Xu,Ya];rcases hd _ hp with⟨k1,k2⟩|k
   . obtain⟨v,c⟩:=t p k1;have:=more p v c λe=>k2 (by rw[e]);exact⟨v,by omega⟩
   have:=gk hG hs hr G k;exact⟨G.step hG k,by omega⟩
  rw[z6t (.inl b)];exact .done (.inl b)
end
end MN
end
section
open Go Go.RowKit TS VA BG
namespace MN
open Classical
def Ord(outs:List aB):Prop:=outs.Pairwise λx y=>x.Node=y.Node->x.aJ<y.aJ\/x.aJ=y.aJ/\¬BG.lt y.Rec x.Rec
def fx(e:Int)(n:Nat)(outs:List aB):Prop:=Ord outs/\∀o∈outs,o.aJ<e\/(o.aJ=e/\o.Node<n)
theorem fx.mono{e:Int}{n m:Nat}{outs:List aB}(h:fx e n outs)(a:n<=m):fx e m outs:=⟨h.1,λo b=>by
 rcases h.2 o b with h|⟨c,d⟩
 . exact .inl h
 exact .inr ⟨c,by omega⟩⟩
theorem all_cons(y:a7)(b:List a7):all (y::b)=Xc y.N.toNat y.Rec++all b:=rfl
theorem j3b{r:aR}:∀{b:List a7},r∈all b->∃y∈b,y.Rec=r
 |[],h=>by cases h
 |y::b,h=>by
  rw[all_cons]at h;rcases Xe.1 h with h|h
  . exact⟨y,by simp,(X4 h).symm⟩
  obtain⟨z,a,c⟩:=j3b h;exact⟨z,by simp[a],c⟩
theorem e8:∀{b:List a7},b.Pairwise (λp q=>BG.lt p.Rec q.Rec)->(all b).Pairwise λx y=>¬BG.lt y x
 |[],_=>Yl
 |y::b,h=>by
  obtain⟨c,d⟩:=Yf.1 h;rw[all_cons];refine Yd.2 ⟨?_,e8 d,λx e z f a=>?_⟩
  . exact List.pairwise_replicate.2 (.inr (qi4 y.Rec))
  rw[X4 e]at a;obtain⟨q,g,rfl⟩:=j3b f;exact qi4 _ (z3z (c q g) a)
theorem zo3{n:Nat}{u:af}{out:List a7}:∀(a:List aU) (s:MS),(q3b n u out a s).outs=s.outs
 |[],_=>rfl
 |x::a,s=>by
  refine (zo3 a (ba n u out s x)).trans ?_;unfold ba
  split
  . exact (z7e s ⟨x.To,u⟩ x.Port out).2.2.2.1
  rfl
theorem j5m(g:aa)(n:Nat)(t:af)(s:MS):(aX g n t s).outs=s.outs:=by unfold aX;split<;>rfl
theorem zr0{g:aa}{aC:Int}{s:MS}{n:Nat}{t:af}:(bh g aC s n t).2.outs=s.outs\/((nd g n).Kind=15/\∃o,Fn o/\(bh g aC s n t).2.outs=s.outs++(all o).map λr=>⟨n,t.C.a0,r⟩):=by
 unfold bh
 split
 . exact .inl rfl
 generalize (if (nd g n).Kind=14 then dW (aX g n t s) n t else (s.ins ⟨n,t⟩).a1)=b
 have c:=j5m g n t s
 generalize aX g n t s=x at*
 unfold cm
 cases d:bM (nd g n) (s.ins ⟨n,t⟩).a0 b with
 |none=>exact .inl c
 |some out=>
  dsimp only
  by_cases a:(nd g n).Kind=15
  . rw[if_pos a];exact .inr ⟨a,out,(z4n d).1,by dsimp only;rw[c]⟩
  rw[if_neg a]
  split
  . exact .inl c
  left
  dsimp only
  split<;>exact (zo3 g.aw x).trans c
section
variable {g:aa} (hG:VA.Good g) {aC:Int}
include hG
theorem eu{n:Nat}(a:n<g.al.length)(h:(nd g n).Kind=15):(nd g n).Scope=0:=(q7t (hG.no n a)).2.2.2.1 (.inr h)
theorem k1e:anc g.ae 0=[0]:=by
 have hp:=hG.pl;rw[q46 hG.wp (by omega) (by omega),(hG.wp.2 0 (by omega) (by omega)).2.2 rfl,q6p]
theorem z8p{d:Nat}{e:Int}:∀(f n:Nat) (s:MS),n<=g.al.length->fx e n s.outs->fx e g.al.length (bZ g aC (q7g g (sched g d) g.al.length 0 (ep e) f n) s).outs
 |0,_,_,j,h=>h.mono j
 |f+1,n,s,j,h=>by
  unfold q7g
  split
  .
   rename_i l
   split
   .
    rename_i z
    rw[z4d];obtain⟨B,C,D,_⟩:=qc0 g (nd g n).Scope g.al.length (g.al.length-n) n j;refine z8p f _ _ C (fx.mono ?_ B);refine bV (P:=λx=>fx e n x.outs) (λp hp x a=>?_) h;have A:n<=p.1/\p.1<q9i g (nd g n).Scope g.al.length (g.al.length-n) n:=by
     refine qa9 (H:=λ_=>True) (Q:=λp=>n<=p.1/\p.1<q9i g (nd g n).Scope g.al.length (g.al.length-n) n) (λ_ _=>trivial) (λu _ q E=>?_) _ _ trivial p hp;obtain⟨G,I,_⟩:=q6q d _ _ _ u q E;exact⟨G,I⟩
    rcases zr0 (g:=g) (aC:=aC) (s:=x) (n:=p.1) (t:=p.2)with b|⟨b,_⟩
    . rw[b];exact a
    exfalso
    have k:=D p.1 A.1 A.2;rw[eu hG (by omega) b,k1e hG,Xb]at k;exact z k
   rename_i z
   rw[qy5];refine z8p f _ _ l ?_;rcases zr0 (g:=g) (aC:=aC) (s:=s) (n:=n) (t:=atA g n (ep e))with b|⟨b,o,J,k⟩
   . dsimp only;rw[b];exact h.mono (by omega)
   have m:atA g n (ep e)=ep e:=by unfold atA;rw[if_neg (by omega)]
   dsimp only;rw[k,m];refine⟨Yd.2 ⟨h.1,?_,λx a y K w=>?_⟩,λx a=>?_⟩
   . rw[Y5];exact (e8 J.rt.inc).imp λ{x y} L _=> .inr ⟨rfl,L⟩
   .
    obtain⟨r,_,rfl⟩:=Xt.1 K;dsimp only at w⊢;rcases h.2 x a with c|⟨_,M⟩
    . exact .inl c
    omega
   rcases Xe.1 a with a|a
   .
    rcases h.2 x a with c|⟨c,M⟩
    . exact .inl c
    exact .inr ⟨c,by omega⟩
   obtain⟨r,_,rfl⟩:=Xt.1 a;exact .inr ⟨rfl,by dsimp only;omega⟩
  exact h.mono j
theorem j09:∀(a:List Int) (s:MS),a.Pairwise (· <·)->Ord s.outs->(∀o∈s.outs,∀e∈a,o.aJ<e)->Ord (z2d g aC a s).outs
 |[],_,_,h,_=>h
 |e::a,s,d,h,hb=>by
  obtain⟨f,j⟩:=Yf.1 d;rw[z2c];have c:fx e g.al.length (bZ g aC (qm3 g e) s).outs:=by
   unfold qm3 sched;exact z8p hG _ _ _ (Xi _) ⟨h,λo b=> .inl (hb o b e (by simp))⟩
  refine j09 a _ j c.1 λo b x k=>?_;have:=f x k;rcases c.2 o b with l|⟨l,_⟩<;>omega
end
theorem fE{g:aa}{aA:List aT}{aC:Int}(a:Ask g aA aC)(b:aA.length<=1000):Ord (dV g aC aA).outs:=by
 rw[en a.1 a.2.2.2 b λf d=>d];have c:=(dj aA b).2.2.2.2.1;exact j09 a.1 _ _ (cw aA).inc (by rw[c];exact Yl) (by rw[c];simp)
theorem ey{S Z:List aB}(h:SO.Srt (λo=>o.Node) S Z)(d:Ord S):Z.Pairwise λx y=>x.Node<y.Node\/x.Node=y.Node/\(x.aJ<y.aJ\/x.aJ=y.aJ/\¬BG.lt y.Rec x.Rec):=by
 refine Xh.2 λ{x y} a=>?_;have f:=Xh.1 h.inc a;rcases (by omega:x.Node<y.Node\/x.Node=y.Node)with b|b
 . exact .inl b
 refine .inr ⟨b,?_⟩;have c:=a.filter (λo=>decide (o.Node=y.Node));rw[Xn (by simpa using b),Xn (by simp),Yu]at c;have e:=h.fil y.Node;rw[e]at c;exact Xh.1 (d.sublist Y0) c b
end MN
end
section
open Go Go.RowKit TS VA BG
namespace WV
open Classical
open MN (bt qs4 q7m q6m no2 qe3 MS PtM gv q05 pt Pa Fr Sd Rn Vd evB opB pit)
theorem jb4:q8d=some true:=by kernel_rfl
theorem j8p(g:aa)(aA:List aT):Ok (q6v g aA) λr=>r=true->aA.length<=40/\∀x∈g.al,x.Prog.length<=100:=by
 unfold q6v;refine k2g (UN.dL g) λb hb=>Ok.some λh=>?_;simp only[Bool.and_eq_true,decide_eq_true_eq]at h;exact⟨by omega,(hb h.1).2⟩
theorem cO(g:aa)(aA:List aT)(aC:Int)(n:aA.length<1000000000):qn6 g aA aC=some (decide (VA.Good g/\0<=aC/\aC<=1048576/\∀f∈aA,MN.cB g f)):=by
 unfold qn6;rw[zd9];refine k2k (Ok.bind (Ok.some (k2h (λh=>Ok.some ?_) (λh=>?_))))
 .
  symm
  rw[decide_eq_false_iff_not];rintro⟨a,o,c,_⟩;have:=z3o.2 a;simp[this]at h;omega
 simp only[Xz,Yg,beq_iff_eq,decide_eq_false_iff_not]at h;have m:=z3o.1 h.1.1;rw[MN.cX (p:=λf=>decide (¬MN.cB g f)) (by omega) (λf _=>by
  unfold qe9;refine k2k (k2h (λd=>Ok.some ?_) (λd=>?_))
  .
   symm;simp only[decide_eq_true_eq]
   intro b;simp only[Bool.or_eq_true,decide_eq_true_eq]at d;have:=b.1;have:=b.2.1;omega
  simp only[Xz,decide_eq_false_iff_not]at d;refine Ok.bind (Ok.dg (by omega) (by omega) λx e=>Ok.some ?_);have j:nd g f.Node.toNat=x:=by unfold nd;rw[List.getD_eq_getElem?_getD,e];rfl
  rw[Bool.eq_iff_iff];simp only[Bool.or_eq_true,Bool.not_eq_true',beq_eq_false_iff_ne,decide_eq_true_eq,MN.cB,j]
  constructor
  .
   rintro a ⟨_,_,c,k,l⟩;rcases a with (a|a)|a
   . exact a c
   . omega
   omega
  intro a
  by_cases c:x.Kind=1
  .
   by_cases k:0<=f.aJ
   . exact .inr (Int.not_le.1 λl=>a ⟨by omega,by omega,c,k,l⟩)
   exact .inl (.inr (by omega))
  exact .inl (.inl c))]
 refine Ok.bind (Ok.some (Ok.some ?_));rw[Bool.eq_iff_iff];simp only[Yj,Y3,decide_eq_true_eq,Classical.not_not];exact⟨λb=>⟨m,by omega,by omega,b⟩,λb=>b.2.2.2⟩
theorem jx7{g:aa}{q:ax}(h:q88 g q):q=gp (q.Node.toNat,q.Time):=by
 obtain⟨n,_,e,_⟩:=h;obtain⟨a,b⟩:=q;dsimp only at e;unfold gp;rw[e];simp
def NR(g:aa)(s:MS)(x:Nat×af):Prop:=∀w,s.ins (pt w)≠no2->¬Pa g w x
structure WI(g:aa)(tb:List (List (List aH)))(es:List Int)(C aC:Int)(s0:MS)(r:aq)(s:MS):Prop where
 rl:Rl g r s
 tbl:r.table=tb
 sd:Sd g C aC s
 vd:∀p,s.ins (pt p)≠no2->Vd g es p
 k14:∀p:Nat×af,(nd g p.1).Kind=14->(s.ins (pt p)).a1=[]
 np:∀q∈r.ay.aj,∃x,q=gp x/\NR g s x
 od:s.outs.Pairwise λx y=>x.Node=y.Node->x.aJ=y.aJ->¬BG.lt y.Rec x.Rec
 os:∀o∈s.outs,∃x:Nat×af,o.Node=(x.1:Int)/\o.aJ=x.2.C.a0/\(nd g x.1).Kind=15/\PtM g (pt x)/\NR g s x
 fa:∃T1 T2,T1+T2<=C+r.work/\cT g r.aI.aj r.aI.in_ T1/\cT g r.ay.aj r.ay.in_ T2
 few:(r.aL.length:Int)+r.aI.aj.length<=C+r.work
 fU:r.outs.length<=65536*r.aL.length
 acc:∀z,Rn g aC s z->Rn g aC s0 z
section
variable {g:aa} (hG:VA.Good g) {es:List Int} (hs:es.Pairwise (· <·)) (hr:∀e∈es,0<=e/\e<=1048576)
include hG
theorem jy8{p q:Nat×af}{o:List a7}(a:(nd g q.1).Kind=14)(x:aP (List a7)):(MN.ad g p o (pt q) x).a1=x.a1:=by
 unfold MN.ad
 split
 .
  unfold MN.dX;dsimp only;rw[if_neg];rintro⟨e,b,_,c,d⟩;have h:=(hG.ed.at b).2.2.2.1;have f:ndI g e.To=nd g q.1:=by rw[c];show ndI g (q.1:Int)=_;unfold ndI;rw[Xj]
  rw[f,a,d]at h;exact absurd h.2 (by decide)
 rfl
theorem zw3{x:Nat×af}(b:PtM g (pt x))(c:(nd g x.1).Kind=15):x.2=MN.ep x.2.C.a0:=by
 obtain⟨d,f,a⟩:=MN.bm (m:=x.1) (v:=x.2) b;have hs:=MN.eu hG d c;have j:MN.lev g x.1=1:=by unfold MN.lev q0s;rw[if_neg (by omega),hs,MN.fT hG]
 obtain⟨_,_,_,a1,a2,a3⟩:=f;rw[j]at a;obtain⟨n,⟨D,⟨c0,k,l,c3⟩⟩⟩:=x;dsimp only at*;subst a;simp at a1 a2 a3;unfold MN.ep;have o:k=0:=by omega
 have p:l=0:=by omega
 have q:c3=0:=by omega
 rw[o,p,q];rfl
include hs hr
theorem WI.step{S:List (List (List aH))}{C aC:Int}(X:0<=C)(N:C+aC<=1000000){s0:MS}{r v:aq}{s:MS}(h:WI g S es C aC s0 r s){p:Nat×af}(j:Fr g s p){o:List a7}(T:opB g s p=some o){T1 U:Int}(Y:T1+U<=C+r.work)(d:Made g p r v (pit g p o s) (T1+U))(Z:v.work<=aC):
 WI g S es C aC s0 v (pit g p o s):=by
 have B:=h.rl.e;have O:(pit g p o s).work<=aC:=by rw[d.rl.work];exact Z
 have f:evB g aC s p=pit g p o s:=by rw[MN.ch B h.sd.w j.act T,MN.cP O]
 have D:(evB g aC s p).e=0:=by rw[f,MN.du];exact B
 obtain⟨_,_,_,_,hd⟩:=MN.cY hG h.sd B j.act D;rw[f]at hd;have E:=MN.Sd.step hG X N h.sd B j.act D;rw[f]at E;have G:=h.vd p j.act;have H:∀x,NR g s x->NR g (pit g p o s) x:=λx K w l c=>by
  rcases hd _ l with⟨k1,_⟩|k
  . exact K w k1 c
  exact K p j.act ((Pa.one k).trans c)
 have I:NR g (pit g p o s) p:=λw l c=>by
  rcases hd _ l with⟨k1,k2⟩|k
  . exact (j.front w k1 (λe=>k2 (by rw[e])) p c).1 rfl
  have P:=MN.gk hG hs hr G k;have L:=(MN.gq hG hs hr (G.step hG k) c).2;omega
 have Q:=(MN.dP T).1;have a6:=d.work;refine⟨d.rl,d.table.trans h.tbl,E,λq R=>?_,λq V=>?_,λq R=>?_,?_,λy M=>?_,?_,?_,?_,λz hz=>h.acc z (.step B j (by rw[f];exact hz))⟩
 .
  rcases hd _ R with⟨k1,_⟩|k
  . exact h.vd q k1
  exact G.step hG k
 .
  rw[MN.cr (MN.cU hG),jy8 hG V]
  split
  . rfl
  exact h.k14 q V
 .
  rcases d.ay q R with k|k
  . obtain⟨x,P,L⟩:=h.np q k;exact⟨x,P,H x L⟩
  exact⟨p,k,I⟩
 .
  rw[MN.cj];unfold MN.ou
  split
  .
   rename_i A
   refine Yd.2 ⟨h.od,?_,λx K y M e1 W=>?_⟩
   . rw[Y5];exact (MN.e8 Q.rt.inc).imp λhl _ _=>hl
   obtain⟨J,a1,a2,a3,a4,a5⟩:=h.os x K;obtain⟨rec,_,rfl⟩:=Xt.1 M;dsimp only at e1 W
   exfalso
   refine a5 p j.act ?_;have b1:=zw3 hG a4 a3;have b2:=zw3 hG G.1 A;have b3:J=p:=by
    obtain⟨n,t⟩:=J;obtain⟨m,u⟩:=p;dsimp only at*;have:n=m:=by omega
    rw[this,b1,b2,<-a2,W]
   rw[b3];exact .refl
  rw[Xq];exact h.od
 .
  rw[MN.cj]at M;rcases Xe.1 M with k|k
  . obtain⟨J,a1,a2,a3,a4,a5⟩:=h.os y k;exact⟨J,a1,a2,a3,a4,H J a5⟩
  unfold MN.ou at k
  split at k
  .
   rename_i A
   obtain⟨rec,_,rfl⟩:=Xt.1 k;exact⟨p,rfl,rfl,A,G.1,I⟩
  cases k
 . obtain⟨a,b,P,L,h3⟩:=d.fa;exact⟨a,b,by omega,L,h3⟩
 . have:=d.many;have:=d.aL;have:=h.few;omega
 have:=d.outs;have:=d.aL;have:=h.fU;omega
end
def DO(o:aB):Prop:=0<=o.aJ/\o.aJ<=1048576
def ko(o:aB):Int:=o.Node*4194304+o.aJ
theorem ju3(x y:aB)(a:DO x)(b:DO y):∃n,q97 x y=some n/\(n<0↔ko x<ko y):=by
 have h:Ok (q97 x y) λn=>n<0↔ko x<ko y:=by
  unfold q97;rw[ja6,ja6];refine Ok.bind (Ok.some (Ok.bind (Ok.some ?_)));rw[or2];refine Ok.bind (Ok.some (Ok.some ?_));unfold DO at a b;unfold ko
  repeat' split
  all_goals omega
 obtain⟨n,c,d⟩:=h;exact⟨n,c,d⟩
def RO(x y:aB):Prop:=x.Node<y.Node\/x.Node=y.Node/\(x.aJ<y.aJ\/x.aJ=y.aJ/\¬BG.lt y.Rec x.Rec)
theorem jn7{x y:aB}(h:RO x y)(k:RO y x):x=y:=by
 unfold RO at h k;obtain⟨a,b,c⟩:=x;obtain⟨d,e,f⟩:=y;dsimp only at h k;have l:a=d:=by omega
 have m:b=e:=by omega
 have j:¬BG.lt f c/\¬BG.lt c f:=by
  rcases h with h|⟨_,h|⟨_,h⟩⟩<;>rcases k with k|⟨_,k|⟨_,k⟩⟩<;>first|omega|exact⟨h,k⟩
 rcases j6m c f with g|g|g
 . exact absurd g j.2
 . rw[l,m,g]
 exact absurd g j.1
theorem j5p{S Z:List aB}(h:SO.Srt ko S Z)(d:∀o∈S,DO o)(e:S.Pairwise λx y=>x.Node=y.Node->x.aJ=y.aJ->¬BG.lt y.Rec x.Rec):Z.Pairwise RO:=by
 refine Xh.2 λ{x y} a=>?_;have f:=Xh.1 h.inc a;have g:=d x ((h.mem x).1 (a.subset (by simp)));have j:=d y ((h.mem y).1 (a.subset (by simp)));unfold DO at g j;unfold ko at f;unfold RO;rcases (by omega:x.Node<y.Node\/x.Node=y.Node/\x.aJ<y.aJ\/x.Node=y.Node/\x.aJ=y.aJ)with b|b|b
 . exact .inl b
 . exact .inr ⟨b.1,.inl b.2⟩
 refine .inr ⟨b.1,.inr ⟨b.2,?_⟩⟩;have k:ko x=ko y:=by unfold ko;omega
 have c:=a.filter (λo=>decide (ko o=ko y));rw[Xn (by simpa using k),Xn (by simp),Yu]at c;rw[h.fil (ko y)]at c;exact Xh.1 (e.sublist Y0) c b.1 b.2
def jv8(g:aa)(aC:Int)(s0:MS)(v:List bn×List aB×Int):Prop:=
 ∃z,Rn g aC s0 z/\((z.e≠0/\v=([],[],9))\/(z.e=0/\v.2.2=0/\v.2.1.Perm z.outs/\v.2.1.Pairwise RO/\v.2.1.length<=100000000))
section
variable {g:aa} (hG:VA.Good g) {es:List Int} (hs:es.Pairwise (· <·)) (hr:∀e∈es,0<=e/\e<=1048576)
include hG hs hr
theorem jj4{A:List (List (List aH))}(O:Tb g A){C aC:Int}(hC:0<=C/\C<=500)(P:0<=aC/\aC<=1000){s0:MS}{r:aq}{s:MS}(b:WI g A es C aC s0 r s){i:Int}(Q:Next A r.aI.aj i):
 Ok (q02 (qt9 aC) rounds (i,r.g.ae,r.g.aG,r.g.al,r.g.aw,r.table,r.work,r.aI.aj,r.aI.in_,r.ay.aj,r.ay.in_,r.aL,r.outs)) (jv8 g aC s0):=by
 refine k2j (λa=>∃(i:Int) (r:aq) (s:MS),a=(i,r.g.ae,r.g.aG,r.g.al,r.g.aw,r.table,r.work,r.aI.aj,r.aI.in_,r.ay.aj,r.ay.in_,r.aL,r.outs)/\WI g A es C aC s0 r s/\Next A r.aI.aj i)
  (λa=>a.2.2.2.2.2.2.2.1.length+(aC-a.2.2.2.2.2.2.1).toNat) ?_ ⟨i,r,s,rfl,b,Q⟩ ?_
 .
  rintro rec _ ⟨i,r,s,rfl,b,Q⟩ B;have E:=b.few;have b5:=b.fU;have R:=b.rl.work;have b6:0<=r.work/\r.work<=aC:=by have y:=b.sd.bd.w0;have h2:=b.sd.w;omega
  obtain⟨T1,T2,S,q,hQ⟩:=b.fa;have bc:=q.many;have bi:=hQ.many;have f:∀w,s.ins (pt w)≠no2->gp w∈r.aI.aj:=λw hw=>by
   refine Xg λT=>hw ?_;have:=b.rl.ins (gp w);rw[zt4 T]at this;exact this.symm
  unfold qt9;dsimp only;rcases Q with⟨rfl,t⟩|⟨k,U,rfl,hf,b2⟩
  .
   rw[if_neg (by simp)];unfold qt7;have j:r.aI.aj=[]:=Xg λV=>by
    obtain⟨p,hp,W⟩:=j9r hG O q.pt V;exact t p hp W
   have G:∀o∈r.outs,DO o:=λo z=>by
    rw[<-b.rl.outs]at z;obtain⟨x,_,a2,_,a4,_⟩:=b.os o z;obtain⟨_,X,_⟩:=MN.bm (m:=x.1) (v:=x.2) a4;have:=X.2.2.1;unfold DO;omega
   refine k2g (SO.dz (key:=ko) (D:=DO) ju3 G (by omega)) λl M=>Ok.guard M.perm.length_eq (Ok.some ⟨s,b.acc s (.done (.inr λp=>Xg λhp=>?_)),.inr ⟨b.rl.e,rfl,?_,?_,?_⟩⟩)
   . have:=f p hp;rw[j]at this;cases this
   .
    show l.Perm s.outs
    rw[b.rl.outs];exact M.perm
   . exact j5p M G (by rw[<-b.rl.outs];exact b.od)
   have:=M.perm.length_eq
   show l.length<=_
   omega
  rw[if_pos (by simp)];have Y:=q.pt _ (Xa U);obtain⟨p,n⟩:∃p,r.aI.aj[k]=gp p:=⟨_,jx7 Y⟩;have H:k<r.aI.in_.length:=by have:=q.len;omega
  have Z:r.aI.in_[k]=s.ins (pt p):=by
   have:=b.rl.ins (gp p);rw[<-n,zt5 U H q.nd,n]at this;exact this
  have d:s.ins (pt p)≠no2:=λe=>by
   have:=q.pos _ (Xa H);rw[Z,e]at this;exact absurd this (by show ¬(1:Int)<=0+0;decide)
  have I:Fr g s p:=j9q hG O b.sd.wp f d (by rw[<-n];exact hf);have a6:(⟨⟨r.aI.aj,r.aI.in_⟩,⟨r.g.ae,r.g.aG,r.g.al,r.g.aw⟩,r.table,⟨r.ay.aj,r.ay.in_⟩,r.work,r.aL,r.outs⟩:aq)=r:=rfl;rw[a6];refine k2g (jj5 hG b.rl (by omega) (by omega) (by omega) q hQ (by omega) U n (λ_ ao=>?_) (λar=>b.k14 p ar)) λv hv=>k2h (λN=>Ok.some ?_) (λN=>?_)
  . obtain⟨x,e1,e2⟩:=b.np _ ao;have:p=x:=MN.dC (congrArg mp e1);exact e2 p d (by rw[this];exact .refl)
  .
   refine⟨evB g aC s p,b.acc _ (.step b.rl.e I (.done (.inl ?_))),.inl ⟨?_,rfl⟩⟩
   all_goals
    by_cases y:v.1=true
    .
     obtain⟨o,z,J⟩:=hv.2 y;rw[MN.ch b.rl.e b.sd.w d z];refine MN.dE ?_;rw[J.rl.work]
     simpa [y]using N
    exact MN.cH b.rl.e b.sd.w d (hv.1 (by simpa using y))
  simp only[Xz,Yg,decide_eq_false_iff_not]at N;obtain⟨o,z,J⟩:=hv.2 N.1;have c:=b.step hG hs hr hC.1 (by omega) I z S J (by omega);obtain⟨bk,bs,b3,K,_⟩:=c.fa;have b4:=K.many;have bv:=c.few;have c1:0<=v.2.work/\v.2.work<=aC:=by have y:=c.sd.bd.w0;have h2:=c.sd.w;have h3:=c.rl.work;omega
  have b0:Tb g v.2.table:=by rw[c.tbl];exact O
  refine k2g (j2n hG b0 K.pt (by omega)) λu ⟨b1,L⟩=>?_;rw[b1];refine B _ ⟨_,v.2,_,rfl,c,by rw[c.tbl]at L;exact L⟩ ?_;have hm:=J.many;have c2:=J.work;dsimp only;omega
 have E:=b.few;have R:=b.rl.work;have y:=b.sd.bd.w0;have h2:=b.sd.w;simp only[rounds];omega
end
end WV
end
section
open Go Go.RowKit TS VA BG
namespace WV
open Classical
open MN (bt qs4 q7m q6m no2 qe3 MS PtM gv q05 pt Pa Fr Sd Rn Vd evB opB pit)
end WV
namespace MN
open Classical
theorem fe(aA:List aT)(j:aA.length<=1000)(p:ah):tot ((bK aA).ins p).a0<=aA.length:=by
 have key:∀(l:List aT) (K:Int) (s:MS),(∀p,Fn (s.ins p).a0/\tot (s.ins p).a0<=K)->0<=K->K+l.length<=1000000->∀p,tot ((l.foldl bJ s).ins p).a0<=K+l.length:=by
  intro l
  induction l with
  |nil=>intro K s h _ _ p;have:=(h p).2;simpa using this
  |cons f l d=>
   intro K s h k e p;rw[List.foldl_cons];simp only[Xl]at e⊢;obtain⟨f1,m⟩:=ew f.Rec;have:=d (K+1) (bJ s f) (λq=>?_) (by omega) (by omega) p
   . omega
   unfold bJ;rw[bH]
   split
   .
    rename_i c
    obtain⟨a,b⟩:=h ⟨f.Node,ep f.aJ⟩;obtain⟨_,g,c3,_⟩:=aY a f1 (by omega);unfold q6m;rw[if_pos rfl];exact⟨g,by dsimp only;omega⟩
   obtain⟨a,b⟩:=h q;exact⟨a,by omega⟩
 have:=key aA 0 s0 (λp=>⟨Fn.nil,by simp[s0,no2,tot]⟩) (X0 _) (by omega) p;unfold bK;omega
end MN
namespace WV
open Classical
open MN (bt qs4 q7m q6m no2 qe3 MS PtM gv q05 pt Pa Fr Sd Rn Vd evB opB pit)
theorem jk5{g:aa}(a:VA.Good g){f:aT}(h:MN.cB g f):q88 g ⟨f.Node,MN.ep f.aJ⟩:=by
 obtain⟨f0,f1,b,f3,c⟩:=h;have:=MN.dI a (n:=f.Node.toNat) (by omega) b ⟨f3,c⟩;rw[Yy f0]at this;exact qk7 this
theorem j2t{g:aa}{aA:List aT}{aC:Int}(o:MN.Ask g aA aC)(z:aA.length<=500):Sd g aA.length aC (MN.bK aA)/\∀p,(MN.bK aA).ins (pt p)≠no2->Vd g (MN.dx aA) p:=by
 obtain⟨a,q,_,s⟩:=o;have t:=MN.cw aA;obtain⟨i1,i2,i3,u,A,B⟩:=MN.dj aA (by omega);have b:=MN.fj a aA s;have hb:=MN.fe aA (by omega);refine⟨⟨⟨λp=>?_,λp=>?_,by omega⟩,by omega,b⟩,λp hp=>?_⟩
 . obtain⟨a1,a2,_⟩:=i1 p;exact⟨a1,by rw[a2];exact MN.Fn.nil⟩
 . obtain⟨_,a2,_⟩:=i1 p;rw[a2,u];have:=hb p;exact⟨by omega,by show (0:Int)<=_;omega⟩
 obtain⟨f,w⟩:=MN.e9 (by omega) hp;have d:=b _ hp;refine⟨d,λc l j=>?_,(t.mem _).2 w⟩;obtain⟨k,_,e⟩:=MN.bm (m:=p.1) (v:=p.2) d;obtain⟨t0,n⟩:=MN.eK a k;have y:=MN.bF a t0 n l;have C:=((MN.bb a y.1 (by omega)).2.2 j).2.2.2;have E:=MN.cS a t0 n l;have f:p.2.D=1:=f;rw[f]at e;unfold MN.lev at e;omega
theorem j1a{g:aa}{aA:List aT}{aC:Int}(V:MN.Ask g aA aC)(Z:aC<=1000)(hl:aA.length<=500):Ok (qb4 g aA aC) (jv8 g aC (MN.bK aA)):=by
 have E:=V;obtain⟨K,M,_,W⟩:=V;unfold qb4;rw[cO g aA aC (by omega)];refine Ok.bind (Ok.some (k2h (λh=>by simp only[Yj,decide_eq_false_iff_not]at h;exact absurd E h) (λ_=>?_)));obtain⟨N,O,hT⟩:=HP.fb K;have G:Tb g N:=hT;refine Ok.bind (Ok.of_eq O ?_);have X:=MN.cw aA;have hr:∀e∈MN.dx aA,0<=e/\e<=1048576:=λe h=>by
  obtain⟨f,hf,rfl⟩:=Xt.1 ((X.mem e).1 h);exact (W f hf).2.2.2
 refine Ok.each (l:=aA) (s0:=(([]:List ax),([]:List (aP (List a7))))) (by omega) (λi a=>cT g a.1 a.2 i/\a.1.length<=i/\∀z,lk a.1 a.2 z=((aA.take i).foldl MN.bJ MN.s0).ins (mp z)) 0 (λrec i hi a _ t H=>?_) (λrec a t=>?_) ⟨⟨rfl,by simp,by simp,by simp,by simp,by simp⟩,by simp,λz=>rfl⟩ (Xi _)
 .
  obtain⟨w,ins⟩:=a;obtain⟨t,A,d⟩:=t;dsimp only at t A d;have a6:=t.many;have B:(aA.take (i+1)).foldl MN.bJ MN.s0=MN.bJ ((aA.take i).foldl MN.bJ MN.s0) aA[i]:=by
   rw[Xk hi,Yk];rfl
  generalize (aA.take i).foldl MN.bJ MN.s0=s at*
  unfold qi7;dsimp only;rw[if_pos (by simpa using hi)];refine Ok.bind (k2i hi ?_);rw[if_neg (by simp)];have P:q88 g ⟨aA[i].Node,⟨1,⟨aA[i].aJ,0,0,0⟩⟩⟩:=jk5 K (W _ (Xa hi));refine zx9 (J:=λi' y c=>qa2 (i:Int) rec aA[i] i' y c) t P (by omega) λk y c D=>?_;have Q:k<c.length:=by rw[D.len];exact D.hi
  have L:=D.bag _ (Xa Q);have R:=D.each _ (Xa Q);have ao:=D.grow;have h1:=L.1.len;have h2:=L.2.len;unfold bt at R;obtain⟨h3,h4⟩:=MN.ew aA[i].Rec;unfold qa2;obtain⟨c1,c2,c3,_⟩:=MN.aY L.1 h3 (by omega);refine Ok.bind (k2i Q ?_);rw[c1];refine Ok.bind (Ok.some ?_);rw[iw hi (by omega),Xj];refine H (_,_) ⟨?_,by dsimp only;omega,λz=>?_⟩
  .
   have:=D.set (x:=⟨MN.aS c[k].a0 [⟨aA[i].Rec,1⟩],c[k].a1⟩) (m:=1) ⟨c2,L.2⟩ (by omega) (by show tot (MN.aS c[k].a0 _)+tot c[k].a1=tot c[k].a0+tot c[k].a1+1;omega)
   exact_mod_cast this
  dsimp only;rw[j31 D d (port:=0) (b:=[⟨aA[i].Rec,1⟩]) (x:=⟨MN.aS c[k].a0 [⟨aA[i].Rec,1⟩],c[k].a1⟩) (by simp) rfl z,B];rfl
 obtain⟨w,ins⟩:=a;obtain⟨t,A,d⟩:=t;dsimp only at t A d;rw[Xo]at d;have d:∀z,lk w ins z=(MN.bK aA).ins (mp z):=d;unfold qi7;dsimp only;rw[if_neg (by simp)];unfold qt8;refine k2g (j2n (r:=⟨⟨w,ins⟩,g,N,⟨[],[]⟩,0,[],[]⟩) K G t.pt (by dsimp only;omega)) λu ⟨S,T⟩=>?_;rw[S];obtain⟨i1,i2,i3,i4,U,i6⟩:=MN.dj aA (by omega);have I:=j2t E hl;refine jj4 K X.inc hr G (C:=aA.length) (by omega) ⟨M,Z⟩ (r:=⟨⟨w,ins⟩,g,N,⟨[],[]⟩,0,[],[]⟩) (s:=MN.bK aA)
  ⟨⟨rfl,d,λn=>by rw[i2];rfl,λj h=>by simp at h,i4,U,i6⟩,rfl,I.1,I.2,λp _=>(i1 _).2.1,λq hq=>by simp at hq,by rw[U];exact Yl,λo Y=>by rw[U]at Y;simp at Y,
   ⟨aA.length,0,by simp,t,⟨rfl,by simp,by simp,by simp,by simp,by simp⟩⟩,by simp;omega,by simp,λz hz=>hz⟩ T
theorem j8w{g:aa}{aA:List aT}{aC:Int}(h:¬MN.Ask g aA aC)(b:aA.length<=500):qb4 g aA aC=some ([],[],1):=by
 unfold qb4;rw[cO g aA aC (by omega)];refine k2k (Ok.bind (Ok.some (k2h (λ_=>Ok.some rfl) (λa=>absurd (by simpa [MN.Ask]using a) h))))
theorem j8x{g:aa}{aA:List aT}{aC:Int}(h:¬MN.Ask g aA aC)(b:aA.length<=500):qh9 g aA aC=some ([],1):=by
 unfold qh9;rw[MN.cO g aA aC (by omega)];refine k2k (Ok.bind (Ok.some (k2h (λ_=>Ok.some rfl) (λa=>absurd (by simpa [MN.Ask]using a) h))))
theorem jl5{g:aa}{aC:Int}{s:MS}(n:Nat)(t:af)(h:s.e=0\/s.e=9):(MN.bh g aC s n t).2.e=0\/(MN.bh g aC s n t).2.e=9:=by
 unfold MN.bh
 split
 . exact h
 have a:=(MN.take_same g n t s).2.2
 generalize MN.aX g n t s=x at*
 unfold MN.cm
 split
 . exact .inr rfl
 split
 . dsimp only;rw[a];exact h
 split
 . rw[a];exact h
 dsimp only
 split
 . exact .inr rfl
 rw[(MN.cE (n:=n) g.aw x).2.2.2.2,a];exact h
theorem dh(g:aa)(aA:List aT)(aC:Int)(_:Dat.ok g)(_:Dat.ok aA)(_:inI .i64 aC):q56 g aA aC=some true:=by
 unfold q56;rw[jb4];refine k2k (Ok.bind (Ok.some ?_));rw[if_neg (by simp)];refine k2g (j8p g aA) λb hb=>k2h (λ_=>Ok.some rfl) (λJ=>?_);simp only[Xz,Yg,Bool.and_eq_false_iff,decide_eq_false_iff_not]at J;obtain⟨S,_⟩:=hb J.1
 by_cases a:MN.Ask g aA aC
 case neg=>
  rw[j8w a (by omega),j8x a (by omega)];refine Ok.bind (Ok.some (Ok.bind (Ok.some ?_)));rw[if_pos (by simp),MN.dn (by simp)];exact Ok.bind (Ok.some (Ok.some (by simp)))
 have hm:aC<=400:=by have:=a.2.2.1;omega
 have w:=a.1;have K:=a.2.2.2;have L:=MN.cw aA;have T:∀e∈MN.dx aA,0<=e/\e<=1048576:=λe h=>by
  obtain⟨f,A,rfl⟩:=Xt.1 ((L.mem e).1 h);exact (K f A).2.2.2
 refine k2g (j1a a (by omega) (by omega)) λv B=>k2g (MN.eR g aA (by omega) (by omega)) λm D=>?_;obtain⟨z,U,B⟩:=B;obtain⟨E,l⟩:=D;obtain⟨r,d,G⟩:=l a
 have n:MN.dV g aC aA=MN.bZ g aC (MN.FL g (MN.dx aA)) (MN.bK aA):=MN.en w K (by omega) λf A=>A;have V:(MN.dV g aC aA).e=0\/(MN.dV g aC aA).e=9:=by
  rw[n];exact MN.bV (P:=λs=>s.e=0\/s.e=9) (λp _ s N=>jl5 p.1 p.2 N) (.inl (MN.dj aA (by omega)).2.2.2.2.2)
 have j:Sd g aA.length aC (MN.bK aA)/\∀p,(MN.bK aA).ins (pt p)≠no2->Vd g (MN.dx aA) p:=j2t a (by omega);have o:=MN.ec w L.inc T (C:=aA.length) (M:=aC) (by omega) (by omega) (MN.FL g (MN.dx aA)) [] (MN.bK aA) rfl λ_=>⟨j.1,λp hp=>⟨j.2 p hp,Xi _⟩⟩;rw[<-n]at o;have O:=MN.Rn.uniq w (C:=aA.length) (by omega) (by omega) U o j.1;rw[E];rcases B with⟨q,rfl⟩|⟨q,H,Q,W,h5⟩
 .
  have t:(MN.dV g aC aA).e≠0:=O.elim (λh=>h.2) λh=>absurd h.1 q;have k:MN.fr g aA aC=([],9):=by unfold MN.fr;rw[if_pos a,if_pos t,V.resolve_left t]
  rw[k];rw[if_pos (by simp),MN.dn (by simp)];exact Ok.bind (Ok.some (Ok.some (by simp)))
 obtain⟨_,X,R⟩:=O.resolve_left λh=>h.1 q;have k:MN.fr g aA aC=(MN.cv (MN.dV g aC aA).outs,0):=by unfold MN.fr;rw[if_pos a,if_neg (by simpa using X)]
 rw[k];have I:(MN.dV g aC aA).outs.length<100000000:=by
  have:=R.outs.length_eq;have:=Q.length_eq;have u:=d.inv.pot;have N:=d.inv.eI;have Y:=d.wx;have Z:r.outs=(MN.dV g aC aA).outs:=by rw[<-G];rfl
  rw[Z]at u;omega
 obtain⟨_,c⟩:=MN.cV I;have heq:v.2.1=MN.cv (MN.dV g aC aA).outs:=
  List.Perm.eq_of_pairwise (le:=RO) (λx y _ _ q H=>jn7 q H) W (MN.ey c (MN.fE a (by omega))) (Q.trans (R.outs.trans c.perm.symm))
 rw[H];dsimp only;rw[if_pos (by simp),<-heq,MN.dn (by omega)];exact Ok.bind (Ok.some (Ok.some (by simp)))
end WV
end
end Go.Proofs.YtdcdfkdhomekeaaGreat

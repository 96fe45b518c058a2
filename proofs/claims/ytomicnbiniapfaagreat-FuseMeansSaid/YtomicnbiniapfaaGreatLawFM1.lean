/-
  The laws in plain words: what the plain functions give. No condition beyond those that each theorem names.
-/
import Derived.Test.YtomicnbiniapfaaGreatWalkFM1
import Derived.Test.YtomicnbiniapfaaGreatLawFM0
import Derived.Test.YtomicnbiniapfaaGreatWalkFM2
import Derived.Test.YtomicnbiniapfaaGreatLibD
import Derived.Test.YtomicnbiniapfaaGreatWalkFM0
set_option linter.unusedSimpArgs false
set_option linter.unusedVariables false
set_option linter.unusedSectionVars false
open List renaming length_append->Xa,append_assoc->Xc,take_succ_eq_append_getElem->Xd,pairwise_append->Xf,length_take->Xg,mem_cons->Xi,take_append_drop->Xj,length_cons->Xk,filter_append->Xl,mem_append->Xm,eq_nil_of_length_eq_zero->Xo,pairwise_cons->Xp,cons_append->Xq,filter_cons_of_pos->Xr,take_length->Xs,drop_eq_getElem_cons->Xt,nil_append->Xu,length_drop->Xv,mem_cons_of_mem->Xx,filter_cons_of_neg->Xy,append_nil->Xz,map_cons->X3,sum_cons->X4,length_nil->X6,drop_of_length_le->X7,length_map->X8,foldl_append->X9,getElem?_eq_getElem->Ya,mem_map->Yb,length_pos_iff->Yc,mem_filter->Yd,getElem_mem->Ye,nodup_cons->Yf,set_cons_zero->Yg,mem_singleton->Yh,flatMap_cons->Yi,drop_length->Yj,length_set->Ym,getD_eq_getElem?_getD->Yp,mem_or_eq_of_mem_set->Yr,getElem_append_right->Ys,mem_of_mem_eraseIdx->Yu,eraseIdx_cons_zero->Yx,eraseIdx_cons_succ->Yy,foldl_cons->Y0,getElem_cons_zero->Y3,getElem_cons_succ->Y4,length_pos_of_mem->Y6,filter_eq_nil_iff->Y7,length_eq_one_iff->Y8,take_of_length_le->Y9,set_append_right->Za,mem_of_getElem?->Zb,length_eraseIdx->Zc,mem_iff_getElem->Ze,perm_iff_count->Zg,set_cons_succ->Zh,nodup_append->Zk,count_filter->Zl,drop_sublist->Zm,take_sublist->Zn,any_eq_false->Zo
open Classical renaming byContradiction->Xb
open Int renaming toNat_natCast->Xe,le_refl->Xw,toNat_of_nonneg->Yn,le_trans->Yt,le_of_lt->Yv
open Nat renaming le_refl->Xh,zero_le->X0,eq_zero_or_pos->Yo,lt_or_ge->Yw,mul_le_mul_right->Zd,eq_or_lt_of_le->Zi,add_mul->Zp,one_mul->Zq
open Bool renaming and_eq_true->X5,and_eq_false_iff->Yk,not_eq_true'->Yq,or_eq_true->Yz,or_eq_false_iff->Zf
open Option renaming some.inj->Yl,map_eq_some_iff->Y5
open Prod renaming mk->Zj
namespace Go.Proofs.YtomicnbiniapfaaGreat
section
open Go Go.RowKit TS VA BG
namespace MN
open Classical
structure Fn(l:List a8):Prop where
 rt:Rt l
 pos:OP.Pos l
 rg:OP.bR l
theorem Fn.nil:Fn []:=⟨Rt.nil,by simp[OP.Pos],fun x G=>by cases G⟩
theorem Fn.len{l:List a8}(h:Fn l):(l.length:Int)<=tot l:=h.pos.b8
theorem Fn.of{l:List a8}(h:CE.dt l)(G:OP.bR l):Fn l/\tot l<=65536:=⟨⟨h.rt,h.pos,G⟩,by rw[<-h.pos.big];exact h.big⟩
theorem j45{l:List a8}(h:Fn l)(G:l≠[]):1<=tot l:=by
 have:=h.len
 cases l with
 |nil=>exact absurd rfl G
 |cons x l=>simp only[Xk]at this;omega
theorem ju6{a b:List a8}(I:Fn a)(hb:Fn b)(h:tot a+tot b<=50000000):Ok (q5g a b) fun c=>Fn c/\tot c=tot a+tot b/\∀x,cnt c x=cnt a x+cnt b x:=by
 have h1:=I.len;have h2:=hb.len;refine (ju5 I.rt hb.rt (by rw[I.pos.big,hb.pos.big];omega) (by omega)).mono fun c G=>⟨⟨G.rt,fun y T=>?_,OP.dz G.rt fun r W=>by
  rw[G.cnt]at W
  by_cases Z:cnt a r=0
  . exact OP.cJ hb.rg (r:=r) (by omega)
  exact OP.cJ I.rg Z⟩,G.tot,G.cnt⟩
 have h3:=G.cnt y.Rec;rw[qy7 G.rt.inc T]at h3;have h4:=zu0 I.pos y.Rec;have h5:=zu0 hb.pos y.Rec;have h6:=(G.rt.num y T).1;omega
def bt(x:bA (List a8)):Int:=tot x.a0+tot x.a1
theorem j82{α:Type}{f:α->Int}:∀{l:List α},(∀x∈l,1<=f x)->(l.length:Int)<=(l.map f).sum
 |[],_=>by simp
 |x::l,h=>by
  have I:=h x (by simp);have T:=j82 (l:=l) fun y G=>h y (by simp[G]);simp only[X3,X4,Xk];omega
theorem zd7{α:Type}{f:α->Int}:∀{l:List α},(∀x∈l,0<=f x)->∀x∈l,f x<=(l.map f).sum/\0<=(l.map f).sum
 |[],_,x,G=>by simp at G
 |y::l,h,x,G=>by
  have W:=h y (by simp);simp only[X3,X4];rcases Xi.1 G with rfl|G
  .
   have:0<=(l.map f).sum:=by
    have I:∀z∈l,0<=f z:=fun z I=>h z (Xx _ I);clear G h W
    induction l with
    |nil=>simp
    |cons a l Z=>simp only[X3,X4];have:=I a (by simp);have:=Z fun z T=>I z (Xx _ T);omega
   omega
  have:=zd7 (l:=l) (fun z I=>h z (Xx _ I)) x G;omega
theorem zd6{α:Type}{f:α->Int}:∀{l:List α} {i:Nat} (hi:i<l.length) (x:α),((l.set i x).map f).sum=(l.map f).sum-f l[i]+f x
 |y::l,0,_,x=>by simp only[Yg,X3,X4,Y3];omega
 |y::l,i+1,hi,x=>by
  have:=zd6 (l:=l) (i:=i) (f:=f) (by simpa using hi) x;simp only[Zh,X3,X4,Y4];omega
theorem zr1{α:Type}{f:α->Int}(l:List α)(x:α):((l++[x]).map f).sum=(l.map f).sum+f x:=by simp
theorem zv0{α:Type}{f:α->Int}:∀{l:List α} {i:Nat} (hi:i<l.length),((l.eraseIdx i).map f).sum=(l.map f).sum-f l[i]
 |y::l,0,_=>by simp only[Yx,X3,X4,Y3];omega
 |y::l,i+1,hi=>by
  have:=zv0 (l:=l) (i:=i) (f:=f) (by simpa using hi);simp only[Yy,X3,X4,Y4];omega
def z0:ay:=⟨0,⟨0,0,0,0⟩⟩
def enT(t:ay):ay:=⟨t.D+1,t.C⟩
def leT(t:ay):ay:=if t.D=2 then⟨1,⟨t.C.a0,0,0,0⟩⟩else if t.D=3 then⟨2,⟨t.C.a0,t.C.a1,0,0⟩⟩else⟨3,⟨t.C.a0,t.C.a1,t.C.a2,0⟩⟩
def nxT(t:ay):ay:=if t.D=1 then⟨1,⟨t.C.a0+1,t.C.a1,t.C.a2,t.C.a3⟩⟩else if t.D=2 then⟨2,⟨t.C.a0,t.C.a1+1,t.C.a2,t.C.a3⟩⟩else if t.D=3 then⟨3,⟨t.C.a0,t.C.a1,t.C.a2+1,t.C.a3⟩⟩else⟨4,⟨t.C.a0,t.C.a1,t.C.a2,t.C.a3+1⟩⟩
def bb(t:ay):Int:=if t.D=1 then t.C.a0 else if t.D=2 then t.C.a1 else if t.D=3 then t.C.a2 else t.C.a3
def qj1(t:ay):Int:=if t.D=1 then 1048576 else 64
theorem j38(t:ay):qw3 t=some (if ok t/\t.D≠4 then (enT t,true)else (z0,false)):=by
 unfold qw3;rw[TS.bE];refine Ok.eq (Ok.bind (Ok.some ?_))
 by_cases h:ok t
 .
  have I:=h.1;have T:=h.2.1
  by_cases G:t.D=4
  . rw[if_pos (by simp[G]),if_neg (by simp[G])];exact Ok.some rfl
  rw[if_neg (by simp[G,h]),if_pos ⟨h,G⟩,wrap_i64 _ (by omega)];exact Ok.some rfl
 rw[if_pos (by simp[h]),if_neg (by simp[h])];exact Ok.some rfl
theorem j36(t:ay):qw2 t=some (if ok t/\t.D≠1 then (leT t,true)else (z0,false)):=by
 unfold qw2;rw[TS.bE];refine Ok.eq (Ok.bind (Ok.some (k3n (fun G=>?_) (fun G=>?_))))
 .
  have:¬(ok t/\t.D≠1):=fun h=>by simp[h.1]at G;exact h.2 G
  rw[if_neg this];exact Ok.some rfl
 have h:ok t/\t.D≠1:=by simpa using G
 rw[if_pos h];obtain⟨h,I⟩:=h;have T:=qj0 h;obtain⟨D,⟨a0,a1,a2,a3⟩⟩:=t;unfold ok at h;dsimp only at T I h⊢;rcases T with rfl|rfl|rfl|rfl
 . exact absurd rfl I
 .
  simp only[Int.reduceLT,if_false]at h;obtain⟨rfl,rfl⟩:a2=0/\a3=0:=by omega
  refine Ok.guard (by decide) ?_;refine Ok.bind (Ok.some (Ok.bind (Ok.some (Ok.bind (Ok.some (Ok.bind (Ok.some (Ok.some ?_))))))));rfl
 .
  simp only[Int.reduceLT,if_false]at h;obtain rfl:a3=0:=by omega
  refine Ok.guard (by decide) ?_;refine Ok.bind (Ok.some (Ok.bind (Ok.some (Ok.bind (Ok.some (Ok.bind (Ok.some (Ok.some ?_))))))));rfl
 refine Ok.guard (by decide) ?_;refine Ok.bind (Ok.some (Ok.bind (Ok.some (Ok.bind (Ok.some (Ok.bind (Ok.some (Ok.some ?_))))))));rfl
theorem j5f(t:ay):z0j t=some (if ok t/\bb t≠qj1 t then (nxT t,true)else (z0,false)):=by
 unfold z0j;rw[TS.bE];refine Ok.eq (Ok.bind (Ok.some ?_))
 by_cases h:ok t
 .
  have T:=qj0 h;rw[if_pos (by simp[h])];obtain⟨D,⟨a0,a1,a2,a3⟩⟩:=t;have I:=h;unfold ok at I;dsimp only at T I⊢;unfold qh1;rcases T with rfl|rfl|rfl|rfl
  .
   refine Ok.guard (by decide) ?_;refine Ok.bind (k3q rfl ?_);refine Ok.bind (k3q rfl ?_);refine k3n (fun G=>?_) (fun G=>?_)
   . rw[if_neg (fun e=>e.2 (by simpa [bb,qj1]using G))];exact Ok.some rfl
   rw[if_pos ⟨h,by simpa [bb,qj1]using G⟩];refine Ok.guard (by decide) ?_;refine Ok.bind (k3q rfl ?_);refine Ok.guard (by decide) ?_;refine Ok.bind (Ok.some (Ok.bind (Ok.some (Ok.bind (Ok.some (Ok.bind (Ok.some ?_)))))))
   show Ok (some ((⟨1,⟨IntKind.i64.wrap (a0+1),a1,a2,a3⟩⟩:ay),true)) _
   rw[wrap_i64 _ (by omega)];exact Ok.some rfl
  .
   refine Ok.guard (by decide) ?_;refine Ok.bind (k3q rfl ?_);refine Ok.bind (k3q rfl ?_);refine k3n (fun G=>?_) (fun G=>?_)
   . rw[if_neg (fun e=>e.2 (by simpa [bb,qj1]using G))];exact Ok.some rfl
   rw[if_pos ⟨h,by simpa [bb,qj1]using G⟩];refine Ok.guard (by decide) ?_;refine Ok.bind (k3q rfl ?_);refine Ok.guard (by decide) ?_;refine Ok.bind (Ok.some (Ok.bind (Ok.some (Ok.bind (Ok.some (Ok.bind (Ok.some ?_)))))))
   show Ok (some ((⟨2,⟨a0,IntKind.i64.wrap (a1+1),a2,a3⟩⟩:ay),true)) _
   rw[wrap_i64 _ (by simp at I;omega)];exact Ok.some rfl
  .
   refine Ok.guard (by decide) ?_;refine Ok.bind (k3q rfl ?_);refine Ok.bind (k3q rfl ?_);refine k3n (fun G=>?_) (fun G=>?_)
   . rw[if_neg (fun e=>e.2 (by simpa [bb,qj1]using G))];exact Ok.some rfl
   rw[if_pos ⟨h,by simpa [bb,qj1]using G⟩];refine Ok.guard (by decide) ?_;refine Ok.bind (k3q rfl ?_);refine Ok.guard (by decide) ?_;refine Ok.bind (Ok.some (Ok.bind (Ok.some (Ok.bind (Ok.some (Ok.bind (Ok.some ?_)))))))
   show Ok (some ((⟨3,⟨a0,a1,IntKind.i64.wrap (a2+1),a3⟩⟩:ay),true)) _
   rw[wrap_i64 _ (by simp at I;omega)];exact Ok.some rfl
  refine Ok.guard (by decide) ?_;refine Ok.bind (k3q rfl ?_);refine Ok.bind (k3q rfl ?_);refine k3n (fun G=>?_) (fun G=>?_)
  . rw[if_neg (fun e=>e.2 (by simpa [bb,qj1]using G))];exact Ok.some rfl
  rw[if_pos ⟨h,by simpa [bb,qj1]using G⟩];refine Ok.guard (by decide) ?_;refine Ok.bind (k3q rfl ?_);refine Ok.guard (by decide) ?_;refine Ok.bind (Ok.some (Ok.bind (Ok.some (Ok.bind (Ok.some (Ok.bind (Ok.some ?_)))))))
  show Ok (some ((⟨4,⟨a0,a1,a2,IntKind.i64.wrap (a3+1)⟩⟩:ay),true)) _
  rw[wrap_i64 _ (by simp at I;omega)];exact Ok.some rfl
 rw[if_neg (by simp[h]),if_neg (by simp[h])];exact Ok.some rfl
theorem zm6{t:ay}(h:ok t)(I:t.D≠4):ok (enT t):=by
 have G:=qj0 h;obtain⟨D,⟨a0,a1,a2,a3⟩⟩:=t;unfold ok enT at*;dsimp only at*;rcases G with rfl|rfl|rfl|rfl<;>simp at*<;>omega
theorem j8n{t:ay}(h:ok t)(I:t.D≠1):ok (leT t):=by
 have G:=qj0 h;obtain⟨D,⟨a0,a1,a2,a3⟩⟩:=t;unfold ok leT at*;dsimp only at*;rcases G with rfl|rfl|rfl|rfl<;>simp at*<;>omega
theorem za9{t:ay}(h:ok t)(I:bb t≠qj1 t):ok (nxT t):=by
 have G:=qj0 h;obtain⟨D,⟨a0,a1,a2,a3⟩⟩:=t;unfold ok nxT bb qj1 at*;dsimp only at*;rcases G with rfl|rfl|rfl|rfl<;>simp at*<;>omega
def okz(t:ay):Prop:=ok t\/t=z0
theorem j67:okz z0:=.inr rfl
end MN
end
section
open Go Go.RowKit TS VA BG
namespace MN
open Classical
section
variable {α β:Type} [Key α]
def look(m:List α×List β)(d:β)(k:α):β:=match q3e m.1 k with
 |none=>d
 |some i=>m.2.getD i d
theorem q9y(x:α)(r:List α)(v:β)(q:List β)(d:β)(k:α):look (x::r,v::q) d k=if x=k then v else look (r,q) d k:=by
 unfold look;simp only[q3e]
 by_cases h:x=k
 . rw[if_pos (Key.bn.2 h),if_pos h];rfl
 rw[if_neg (fun e=>h (Key.bn.1 e)),if_neg h]
 cases q3e r k with
 |none=>rfl
 |some i=>simp only[Option.map_some,List.getD_cons_succ]
theorem zg2:∀{G:List α} {k:α},k∉G->q3e G k=none
 |[],_,_=>rfl
 |x::r,k,h=>by
  simp only[Xi,not_or]at h;unfold q3e;rw[if_neg (fun e=>h.1 (Key.bn.1 e).symm),zg2 h.2];rfl
theorem qh7{m:List α×List β}{d:β}{k:α}(h:k∉m.1):look m d k=d:=by unfold look;rw[zg2 h]
theorem j8z{m:List α×List β}{d:β}{k:α}{i:Nat}(h:q3e m.1 k=some i):look m d k=m.2.getD i d:=by unfold look;rw[h]
theorem zi1:∀{G:List α} {vs:List β} {d:β} {k:α},G.length=vs.length->k∈G->look (G,vs) d k∈vs
 |[],_,_,_,_,h=>by simp at h
 |x::r,v::q,d,k,I,h=>by
  rw[q9y]
  split
  . simp
  rename_i T
  have:k∈r:=by rcases Xi.1 h with rfl|h;exact absurd rfl T;exact h
  exact Xx _ (zi1 (by simpa using I) this)
 |_::_,[],_,_,I,_=>by simp at I
theorem zi2:∀{I:List α} {vs:List β} {d:β} {k q:α} {x:β},I.length=vs.length->k∉I->look (I++[k],vs++[x]) d q=if q=k then x else look (I,vs) d q
 |[],[],d,k,q,x,_,_=>by
  simp only[Xu];rw[q9y]
  by_cases h:k=q
  . rw[if_pos h,if_pos h.symm]
  rw[if_neg h,if_neg (fun e=>h e.symm)]
 |y::r,v::p,d,k,q,x,G,T=>by
  simp only[Xi,not_or]at T;simp only[Xq];rw[q9y,q9y,zi2 (by simpa using G) T.2]
  by_cases h:y=q
  . rw[if_pos h,if_neg (fun e=>T.1 (by rw[h,e])),if_pos h]
  rw[if_neg h,if_neg h]
 |[],_::_,_,_,_,_,G,_=>by simp at G
 |_::_,[],_,_,_,_,G,_=>by simp at G
theorem zi0:∀{T:List α} {vs:List β} {d:β} {k q:α} {x:β} {i:Nat},T.length=vs.length->q3e T k=some i->look (T,vs.set i x) d q=if q=k then x else look (T,vs) d q
 |[],_,_,_,_,_,_,_,h=>by cases h
 |_::_,[],_,_,_,_,_,W,_=>by simp at W
 |y::r,v::p,d,k,q,x,i,W,h=>by
  unfold q3e at h
  split at h
  .
   rename_i I
   have I:=Key.bn.1 I
   cases h
   rw[Yg,q9y,q9y,I]
   by_cases G:k=q
   . rw[if_pos G,if_pos G.symm]
   rw[if_neg G,if_neg (fun e=>G e.symm),if_neg G]
  rename_i I
  simp only[Y5]at h;obtain⟨j,Z,rfl⟩:=h;rw[Zh,q9y,q9y,zi0 (by simpa using W) Z]
  by_cases G:y=q
  . rw[if_pos G,if_neg (fun e=>I (Key.bn.2 (by rw[G,e]))),if_pos G]
  rw[if_neg G,if_neg G]
theorem j1o:∀{T:List α} {vs:List β} {d:β} {k q:α} {i:Nat},T.length=vs.length->T.Nodup->q3e T k=some i->look (T.eraseIdx i,vs.eraseIdx i) d q=if q=k then d else look (T,vs) d q
 |[],_,_,_,_,_,_,_,h=>by cases h
 |_::_,[],_,_,_,_,W,_,_=>by simp at W
 |y::r,v::p,d,k,q,i,W,hn,h=>by
  have Z:=(Yf.1 hn).1;unfold q3e at h
  split at h
  .
   rename_i I
   have I:=Key.bn.1 I
   cases h
   simp only[Yx];rw[q9y]
   by_cases G:q=k
   . rw[if_pos G,qh7 (by rw[G,<-I];exact Z)]
   rw[if_neg G,if_neg (fun e=>G (by rw[<-e,I]))]
  rename_i I
  simp only[Y5]at h;obtain⟨j,hj,rfl⟩:=h;simp only[Yy];rw[q9y,q9y,j1o (by simpa using W) (Yf.1 hn).2 hj]
  by_cases G:y=q
  . rw[if_pos G,if_neg (fun e=>I (Key.bn.2 (by rw[G,e]))),if_pos G]
  rw[if_neg G,if_neg G]
theorem j0s{vs:List β}{n:Nat}(h:n=vs.length)(a b:β):(vs++[a]).set n b=vs++[b]:=by
 subst h;rw[Za _ _ (Xh _),Nat.sub_self,Yg]
theorem qo2{m:List α×List β}{d:β}{k:α}{i:Nat}(T:m.1.length=m.2.length)(h:q3e m.1 k=some i):i<m.2.length/\atK m.2 i=some (look m d k)/\m.2[i]?=some (look m d k)/\look m d k∈m.2:=by
 have W:=(List.getElem?_eq_some_iff.1 (z3v h)).1;have I:i<m.2.length:=by omega
 have G:m.2[i]?=some (look m d k):=by rw[j8z h,Yp,Ya I];rfl
 exact⟨I,G,G,Zb G⟩
theorem j9f{G:List α}{k:α}{i:Nat}(h:q3e G k=some i):k∈G:=Zb (z3v h)
end
theorem jq5{b:List a8}(h:Fn b)(W:tot b<=100000000):qy6 b=some (tot b):=by
 have hp:=h.len;unfold qy6;refine Ok.eq (k3p (fun s=>∃i:Nat,s=(tot (b.take i),(i:Int))/\i<=b.length) (fun s=>b.length-s.2.toNat) ?_ ⟨0,by simp[tot],X0 _⟩ (by simp only[rounds];omega));rintro rec _ ⟨i,rfl,hi⟩ G;unfold z1w;dsimp only;refine k3n (fun I=>?_) (fun I=>Ok.some ?_)
 .
  have hi':i<b.length:=by simpa using I
  have Z:=z8n h.pos (i+1);have T:=zg9 hi';refine Ok.bind (k3o hi' ?_);rw[<-T,wrap_i64 (tot (b.take (i+1))) (by omega),wrap_i64 ((i:Int)+1) (by omega)];exact G _ ⟨i+1,rfl,hi'⟩ (by simp only;omega)
 obtain rfl:i=b.length:=by simp at I;omega
 rw[Xs]
def dep(g:aa)(s:Int):Nat:=(anc g.af s).length
def lev(g:aa)(n:Nat):Nat:=dep g (q7w g (nd g n))
def PtM(g:aa)(p:ah):Prop:=∃n:Nat,n<g.ae.length/\p.node=(n:Int)/\ok p.time/\p.time.D=(lev g n:Int)
theorem zh8{n:Int}{t:ay}(I:0<=n/\n<1000000)(G:ok t):Key.okb (⟨n,t⟩:ah)=true:=by
 obtain⟨a,b,c,d,e,f⟩:=G
 show (Key.okb n&&Key.okb t.D&&Key.okb t.C.a0&&Key.okb t.C.a1&&Key.okb t.C.a2&&Key.okb t.C.a3)=true
 have:∀x:Int,0<=x->x<=1048576->Key.okb x=true:=fun x T W=>by
  show (decide (-9223372036854775808<=x)&&decide (x<9223372036854775808))=true
  rw[X5];exact⟨decide_eq_true (by omega),decide_eq_true (by omega)⟩
 rw[this n (by omega) (by omega),this t.D (by omega) (by omega),this _ c.1 c.2,this _ d.1 (by have:=d.2;split at this<;>omega),this _ e.1 (by have:=e.2;split at this<;>omega),this _ f.1 (by have:=f.2;split at this<;>omega)];rfl
theorem zs1{x:Int}(G:0<=x)(I:x<=1048576):Key.okb x=true:=by
 show (decide (-9223372036854775808<=x)&&decide (x<9223372036854775808))=true
 rw[X5];exact⟨decide_eq_true (by omega),decide_eq_true (by omega)⟩
theorem PtM.okb{g:aa}(G:VA.Good g){p:ah}(h:PtM g p):Key.okb p=true:=by
 obtain⟨n,T,W,I,_⟩:=h;have:=G.nl;exact zh8 (n:=p.node) (t:=p.time) (by omega) I
structure MS where
 ins:ah->bA (List a8)
 aK:Int->List aF
 aJ:ah->List a8
 work:Int
 outs:List aD
 e:Int
def no2:bA (List a8):=⟨[],[]⟩
def ab(r:a7):MS:=⟨look r.ins no2,look r.aK [],look r.aJ [],r.work,r.outs,r.e⟩
structure Inv(g:aa)(T:Int)(r:a7):Prop where
 gr:r.g=g
 il:r.ins.1.length=r.ins.2.length
 ind:r.ins.1.Nodup
 ipt:∀p∈r.ins.1,PtM g p
 cM:∀x∈r.ins.2,Fn x.a0/\Fn x.a1/\1<=bt x
 pl:r.aK.1.length=r.aK.2.length
 pnd:r.aK.1.Nodup
 bl:r.aJ.1.length=r.aJ.2.length
 bnd:r.aJ.1.Nodup
 cj:∀b∈r.aJ.2,Fn b/\tot b<=T
 pot:(r.ins.2.map bt).sum+(r.aK.2.map fun l=>(l.length:Int)).sum+r.outs.length<=T
 ptm:∀l∈r.aK.2,∀c∈l,ok c.Time
 dj:(r.ins.2.map bt).sum+(r.aJ.2.map tot).sum<=T
noncomputable def q0g(a b:List a8):List a8:=(q5g a b).getD []
theorem q7j{a b:List a8}(I:Fn a)(hb:Fn b)(h:tot a+tot b<=50000000):q5g a b=some (q0g a b)/\Fn (q0g a b)/\tot (q0g a b)=tot a+tot b/\∀x,cnt (q0g a b) x=cnt a x+cnt b x:=by
 obtain⟨c,G,T,W⟩:=ju6 I hb h;have:q0g a b=c:=by unfold q0g;rw[G];rfl
 rw[this];exact⟨G,T,W⟩
noncomputable def upd{α β:Type}(f:α->β)(k:α)(x:β):α->β:=fun q=>if q=k then x else f q
noncomputable def qg2(v:bA (List a8))(G:Int)(b:List a8):bA (List a8):=if G=0 then⟨q0g v.a0 b,v.a1⟩else⟨v.a0,q0g v.a1 b⟩
noncomputable def q9t(s:MS)(q:ah)(G:Int)(b:List a8):MS:=
 if b=[]then s else {s with ins:=upd s.ins q (qg2 (s.ins q) G b)}
theorem Inv.cU{g:aa}{T:Int}{r:a7}(h:Inv g T r):0<=(r.ins.2.map bt).sum/\0<=(r.aK.2.map fun l=>(l.length:Int)).sum/\∀x∈r.ins.2,bt x<=T:=by
 have Z:=j82 fun x G=>(h.cM x G).2.2;have I:0<=(r.aK.2.map fun l=>(l.length:Int)).sum:=by
  generalize r.aK.2=L
  induction L with
  |nil=>simp
  |cons a L ih=>simp only[X3,X4];omega
 refine⟨by omega,I,fun x G=>?_⟩;have h3:=(zd7 (f:=bt) (fun y W=>by have:=(h.cM y W).2.2;omega) x G).1;have:=h.pot;omega
theorem j58{g:aa}(hG:VA.Good g){T:Int}{r:a7}(I:Inv g T r){n:Int}{t:ay}(hq:PtM g ⟨n,t⟩){G:Int}(hp:G=0\/G=1){b:List a8}(hb:Fn b)(hT:T<=10000000)(an:tot b<=65536):
 Ok (q3j r n G t b) fun v=>Inv g (T+tot b) v/\ab v=q9t (ab r) ⟨n,t⟩ G b/\v.aB=r.aB/\v.work=r.work:=by
 have ao:=hq.okb hG;have b1:=hb.len;have b2:=I.pot;unfold q3j q9t;refine k3n (fun h=>Ok.some ?_) (fun h=>?_)
 .
  have a6:b=[]:=by simpa using h
  subst a6;rw[if_pos rfl];exact⟨by simpa [tot]using I,rfl,rfl,rfl⟩
 have a6:b≠[]:=by simpa using h
 rw[if_neg a6];have aq:=j45 hb a6;have W:0<=G/\G<2:=by omega
 cases hf:q3e r.ins.1 (⟨n,t⟩:ah)with
 |none=>
  have aj:=qi2 hf;obtain⟨p1,p2,p3,_⟩:=q7j Fn.nil hb (by simp[tot];simp[tot]at an;omega);have hz:tot ([]:List a8)=0:=by simp[tot]
  unfold qz6;refine Ok.guard ao (Ok.guard W ?_);have fin:∀w:bA (List a8),w=qg2 no2 G b->Ok (some (⟨r.g,(Zj (r.ins.1++[(⟨n,t⟩:ah)]) (List.set (r.ins.2++[no2]) (List.length r.ins.1) w)),r.aK,r.aJ,r.work,r.aB,r.outs,r.e⟩:a7)) fun v=>Inv g (T+tot b) v/\ab v={ab r with ins:=upd (ab r).ins ⟨n,t⟩ (qg2 ((ab r).ins ⟨n,t⟩) G b)}/\v.aB=r.aB/\v.work=r.work:=by
   rintro w rfl;have Z:Fn (qg2 no2 G b).a0/\Fn (qg2 no2 G b).a1/\bt (qg2 no2 G b)=tot b:=by
    unfold qg2 bt no2;rcases hp with rfl|rfl
    . rw[if_pos rfl];exact⟨p2,Fn.nil,by rw[p3];simp only[hz];omega⟩
    rw[if_neg (by omega)];exact⟨Fn.nil,p2,by rw[p3];simp only[hz];omega⟩
   rw[j0s I.il];refine Ok.some ⟨⟨I.gr,by simp[I.il],?_,?_,?_,I.pl,I.pnd,I.bl,I.bnd,fun x hx=>⟨(I.cj x hx).1,by have:=(I.cj x hx).2;omega⟩,?_,I.ptm,?_⟩,?_,rfl,rfl⟩
   . exact Zk.2 ⟨I.ind,by simp,fun a ha c hc e=>aj (by simp at hc;rw[<-hc,<-e];exact ha)⟩
   .
    intro p hp';rcases Xm.1 hp' with h|h
    . exact I.ipt p h
    simp at h;rw[h];exact hq
   .
    intro x hx;rcases Xm.1 hx with h|h
    . exact I.cM x h
    simp at h;rw[h];exact⟨Z.1,Z.2.1,by rw[Z.2.2];exact aq⟩
   . rw[zr1,Z.2.2];dsimp only;omega
   . rw[zr1,Z.2.2];have:=I.dj;dsimp only;omega
   unfold ab;simp only[MS.mk.injEq,and_true]
   funext q
   rw[zi2 I.il aj];unfold upd;rw[show look r.ins no2 ⟨n,t⟩=no2 from qh7 aj]
  rcases hp with rfl|rfl
  . refine Ok.bind (Ok.some ?_);rw[p1];refine Ok.bind (Ok.some (Ok.guard W (Ok.bind (Ok.some (Ok.bind (Ok.some ?_))))));exact fin _ (by simp[qg2,no2])
  refine Ok.bind (Ok.some ?_);rw[p1];refine Ok.bind (Ok.some (Ok.guard W (Ok.bind (Ok.some (Ok.bind (Ok.some ?_))))));exact fin _ (by simp[qg2,no2])
 |some i=>
  obtain⟨hi,ha,hg,hm⟩:=qo2 (d:=no2) I.il hf;obtain⟨f0,f1,f2⟩:=I.cM _ hm;have ar:=I.cU.2.2 _ hm;have z0:=f0.len;have z1:=f1.len;unfold qz6;dsimp only;rw[ha];refine Ok.bind (Ok.some (Ok.guard W ?_))
  generalize hv:look r.ins no2 (⟨n,t⟩:ah)=v at*
  have b3:tot v.a0+tot v.a1<=T:=ar;obtain⟨p1,p2,p3,_⟩:=q7j f0 hb (by omega);obtain⟨q1,q2,q3,_⟩:=q7j f1 hb (by omega);have fin:∀w:bA (List a8),w=qg2 v G b->Ok (some (⟨r.g,(Zj r.ins.1 (List.set r.ins.2 i w)),r.aK,r.aJ,r.work,r.aB,r.outs,r.e⟩:a7)) fun v=>Inv g (T+tot b) v/\ab v={ab r with ins:=upd (ab r).ins ⟨n,t⟩ (qg2 ((ab r).ins ⟨n,t⟩) G b)}/\v.aB=r.aB/\v.work=r.work:=by
   rintro w rfl;have Z:Fn (qg2 v G b).a0/\Fn (qg2 v G b).a1/\bt (qg2 v G b)=bt v+tot b:=by
    unfold qg2 bt;rcases hp with rfl|rfl
    . rw[if_pos rfl];exact⟨p2,f1,by rw[p3];dsimp only;omega⟩
    rw[if_neg (by omega)];exact⟨f0,q2,by rw[q3];dsimp only;omega⟩
   have ak:r.ins.2[i]=v:=by rw[Ya hi]at hg;exact Yl hg
   refine Ok.some ⟨⟨I.gr,by simp[I.il],I.ind,I.ipt,?_,I.pl,I.pnd,I.bl,I.bnd,fun x hx=>⟨(I.cj x hx).1,by have:=(I.cj x hx).2;omega⟩,?_,I.ptm,?_⟩,?_,rfl,rfl⟩
   .
    intro x hx;rcases Yr hx with h|rfl
    . exact I.cM x h
    exact⟨Z.1,Z.2.1,by rw[Z.2.2];omega⟩
   . rw[zd6 hi,Z.2.2,ak];dsimp only;omega
   . rw[zd6 hi,Z.2.2,ak];have:=I.dj;dsimp only;omega
   unfold ab;simp only[MS.mk.injEq,and_true]
   funext q
   rw[zi0 I.il hf];unfold upd;rw[hv]
  rcases hp with rfl|rfl
  . refine Ok.bind (Ok.some ?_);rw[p1];refine Ok.bind (Ok.some (Ok.guard W (Ok.bind (Ok.some (Ok.bind (Ok.some ?_))))));exact fin _ (by simp[qg2])
  refine Ok.bind (Ok.some ?_);rw[q1];refine Ok.bind (Ok.some (Ok.guard W (Ok.bind (Ok.some (Ok.bind (Ok.some ?_))))));exact fin _ (by simp[qg2])
end MN
end
section
open Go Go.RowKit TS VA BG
namespace MN
open Classical
noncomputable def q6o(s:MS)(n:Int)(t:ay):List a8:=(s.aK n).foldl (fun a c=>if le c.Time t then q0g a (s.aJ ⟨n,c.Time⟩)else a) []
theorem qx2{α R:Type}(a:Option R)(b:α->Option R):qz6 none a b=a:=rfl
theorem qx1{α R:Type}(i:α)(a:Option R)(b:α->Option R):qz6 (some i) a b=b i:=rfl
theorem j8w{R:Type}{body:(Unit->Option R)->Unit->Option R}{v:R}(h:∀rec,body rec ()=some v):d9 body rounds ()=some v:=by
 unfold rounds d9;exact h _
theorem zw9{α:Type}:∀{l m:List α},l.Nodup->(∀x∈l,x∈m)->l.length<=m.length
 |[],_,_,_=>X0 _
 |x::l,m,G,h=>by
  have I:=h x (by simp);have W:=zw9 (l:=l) (m:=m.erase x) (Yf.1 G).2 fun y T=>(List.mem_erase_of_ne (a:=y) (b:=x) (fun e=>(Yf.1 G).1 (by rw[<-e];exact T))).2 (h y (by simp[T]));rw[List.length_erase_of_mem I]at W;have:=Y6 I;simp only[Xk];omega
theorem j5v{b:List a8}(h:Fn b):(b.map (·.Rec)).Nodup:=by
 have:=h.rt.inc;rw[List.Nodup,List.pairwise_map];exact this.imp fun {x y} G (e:x.Rec=y.Rec)=>z2t x.Rec (by rw[<-e]at G;exact G)
theorem j5i{g:aa}{T:Int}{r:a7}(W:Inv g T r)(hT:T<=7000){n:Nat}(hn:n<1000000)(t:ay):
 Ok (q14 r n t) fun v=>v.2=r/\v.1=q6o (ab r) n t/\Fn v.1/\(v.1.length:Int)<=T:=by
 have ar:=zs1 (x:=(n:Int)) (by omega) (by omega);have ak:0<=T:=by have:=W.cU;have:=W.pot;omega
 unfold q14
 cases hf:q3e r.aK.1 (n:Int)with
 |none=>
  rw[qx2];refine Ok.guard ar ?_;have h0:(ab r).aK n=[]:=qh7 (qi2 hf);rw[j8w (v:=(([]:List a8),r)) fun rec=>by unfold q4k;simp];exact Ok.some ⟨rfl,by unfold q6o;rw[h0];rfl,Fn.nil,by simpa using ak⟩
 |some i=>
  obtain⟨hi,ha,hg,hm⟩:=qo2 (d:=[]) W.pl hf;rw[qx1];rw[ha];refine Ok.bind (Ok.some ?_);have hL:(ab r).aK n=look r.aK [] (n:Int):=rfl;unfold q6o;rw[hL]
  generalize look r.aK [] (n:Int)=L at hm
  have bv:(L.length:Int)<=T:=by
   have h1:=(zd7 (f:=fun l:List aF=>(l.length:Int)) (fun y _=>by omega) L hm).1;have h2:=W.cU.1;have:=W.pot;omega
  have bi:∀b∈r.aJ.2,0<=tot b:=fun b hb=>by have:=(W.cj b hb).1.len;omega
  let all:=(r.aJ.2.flatMap fun b=>b.map (·.Rec))
  have c0:(all.length:Int)<=T:=by
   have h1:(all.length:Int)<=(r.aJ.2.map tot).sum:=by
    have:∀l:List (List a8),(∀b∈l,Fn b)->((l.flatMap fun b=>b.map (·.Rec)).length:Int)<=(l.map tot).sum:=by
     intro l
     induction l with
     |nil=>intro _;simp
     |cons b l ih=>
      intro h;have h1:=(h b (by simp)).len;have h2:=ih fun c hc=>h c (by simp[hc]);simp only[Yi,Xa,X8,X3,X4];omega
    exact this _ fun b hb=>(W.cj b hb).1
   have:=W.dj;have:=W.cU.1;omega
  refine k3r (l:=L) (by omega) (fun i a=>a=(L.take i).foldl (fun a c=>if le c.Time t then q0g a ((ab r).aJ ⟨n,c.Time⟩)else a) []/\Fn a/\tot a<=i*7000/\∀x∈a,x.Rec∈all) 0 (fun rec i hi a _ a6 Z=>?_) (fun rec a a6=>?_) ⟨by simp,Fn.nil,by simp[tot],by simp⟩ (X0 _)
  .
   obtain⟨h1,h2,h3,h4⟩:=a6;unfold q37;dsimp only;rw[if_pos (by simpa using hi),iw hi (by omega)];refine Ok.bind (k3o hi ?_);rw[TS.le_eq];have G:(L.take (i+1)).foldl (fun a c=>if le c.Time t then q0g a ((ab r).aJ ⟨n,c.Time⟩)else a) []=if le L[i].Time t then q0g a ((ab r).aJ ⟨n,L[i].Time⟩)else a:=by
    rw[Xd hi,X9,<-h1];rfl
   have b1:tot a<=(i+1:Nat)*7000:=by push_cast;omega
   refine Ok.bind (Ok.some (k3n (fun I=>?_) (fun I=>?_)))
   .
    have I:le L[i].Time t:=by simpa using I
    rw[if_pos I]at G;have b2:Key.okb (⟨n,L[i].Time⟩:ah)=true:=zh8 ⟨by omega,by omega⟩ (W.ptm _ hm _ (Ye hi));have an:∀b,b=(ab r).aJ ⟨n,L[i].Time⟩->Fn b->tot b<=T->(∀x∈b,x.Rec∈all)->Ok (q9 (q5g a b) fun ao=>rec (((i+1:Nat):Int),ao)) fun v=>v.2=r/\v.1=L.foldl (fun a c=>if le c.Time t then q0g a ((ab r).aJ ⟨n,c.Time⟩)else a) []/\Fn v.1/\(v.1.length:Int)<=T:=by
     intro b hb b3 c1 b4;have c2:(i:Int)<7000:=by omega
     obtain⟨p1,p2,p3,p4⟩:=q7j h2 b3 (by omega);rw[p1];refine Ok.bind (Ok.some (Z _ ⟨by rw[G,hb],p2,by push_cast;omega,fun x hx=>?_⟩));have hc:=qy7 p2.rt.inc hx;rw[p4]at hc;have bs:=p2.pos x hx
     by_cases b5:cnt a x.Rec=0
     . obtain⟨y,hy,he⟩:=z9h (b:=b) (r:=x.Rec) (by omega);rw[<-he];exact b4 y hy
     obtain⟨y,hy,he⟩:=z9h b5;rw[<-he];exact h4 y hy
    cases aq:q3e r.aJ.1 (⟨n,L[i].Time⟩:ah)with
    |none=>
     rw[qx2];refine Ok.guard b2 ?_;exact an [] (qh7 (qi2 aq)).symm Fn.nil (by simp[tot];exact ak) (by simp)
    |some j=>
     obtain⟨_,b6,_,aj⟩:=qo2 (d:=[]) W.bl aq;rw[qx1];rw[b6];refine Ok.bind (Ok.some ?_);refine an _ rfl (W.cj _ aj).1 (W.cj _ aj).2 fun x hx=>?_;exact List.mem_flatMap.2 ⟨_,aj,Yb.2 ⟨x,hx,rfl⟩⟩
   have I:¬le L[i].Time t:=by simpa using I
   rw[if_neg I]at G;exact Z _ ⟨G.symm,h2,b1,h4⟩
  obtain⟨h1,h2,h3,h4⟩:=a6;unfold q37;dsimp only;rw[if_neg (by simp)];rw[Xs]at h1;refine Ok.some ⟨rfl,h1,h2,?_⟩;have:=zw9 (j5v h2) (m:=all) fun y hy=>by
   obtain⟨x,hx,rfl⟩:=Yb.1 hy;exact h4 x hx
  rw[X8]at this;dsimp only;omega
end MN
end
section
open Go Go.RowKit TS VA BG
namespace MN
open Classical
def bnd(g:aa)(s:Int):Int:=g.aG.getD s.toNat 0
noncomputable def q0b(g:aa)(n:Nat)(t:ay):ay×Bool:=
 if (nd g n).Kind=10 then (if ok t/\t.D≠4 then (enT t,true)else (z0,false))
 else if (nd g n).Kind=11 then (if ok t/\t.D≠1 then (leT t,true)else (z0,false))
 else if (nd g n).Kind=12 then (if ok t/\bb t≠qj1 t then (nxT t,decide (bb (nxT t)<bnd g (nd g n).Scope))else (z0,false))
 else (t,true)
section
variable {g:aa} {n:Nat} {t:ay}
theorem z0g(h:(nd g n).Kind=10):q0b g n t=if ok t/\t.D≠4 then (enT t,true)else (z0,false):=by unfold q0b;rw[if_pos h]
theorem z2x(h:(nd g n).Kind=11):q0b g n t=if ok t/\t.D≠1 then (leT t,true)else (z0,false):=by unfold q0b;rw[if_neg (by omega),if_pos h]
theorem z0f(h:(nd g n).Kind=12):q0b g n t=if ok t/\bb t≠qj1 t then (nxT t,decide (bb (nxT t)<bnd g (nd g n).Scope))else (z0,false):=by unfold q0b;rw[if_neg (by omega),if_neg (by omega),if_pos h]
theorem qt1(h:(nd g n).Kind≠10)(G:(nd g n).Kind≠11)(I:(nd g n).Kind≠12):q0b g n t=(t,true):=by unfold q0b;rw[if_neg h,if_neg G,if_neg I]
end
theorem zm9{t:ay}(h:ok t):(nxT t).D=t.D:=by
 have G:=qj0 h;obtain⟨D,⟨a0,a1,a2,a3⟩⟩:=t;dsimp only at G;rcases G with rfl|rfl|rfl|rfl<;>rfl
theorem j6q{t:ay}(h:ok t)(G:t.D≠1):(leT t).D=t.D-1:=by
 have I:=qj0 h;obtain⟨D,⟨a0,a1,a2,a3⟩⟩:=t;dsimp only at I G;rcases I with rfl|rfl|rfl|rfl
 . exact absurd rfl G
 all_goals rfl
theorem jg4{t:ay}(h:ok t):(0<=IntKind.i64.wrap (t.D-1)/\IntKind.i64.wrap (t.D-1)<4)/\idx ([t.C.a0,t.C.a1,t.C.a2,t.C.a3]:List Int) (IntKind.i64.wrap (t.D-1))=some (bb t):=by
 have G:=qj0 h;obtain⟨D,⟨a0,a1,a2,a3⟩⟩:=t;dsimp only at G⊢;rcases G with rfl|rfl|rfl|rfl<;>exact⟨by decide,rfl⟩
section
variable {g:aa} (hG:VA.Good g)
include hG
theorem z3a{s:Int}(W:0<=s)(Z:s<g.af.length):1<=dep g s/\dep g s<=4/\(s≠0->0<=g.af.getD s.toNat 0/\g.af.getD s.toNat 0<g.af.length/\dep g s=dep g (g.af.getD s.toNat 0)+1/\2<=dep g s):=by
 have T:=hG.wp;have I:dep g s=dep g (g.af.getD s.toNat 0)+1:=by unfold dep;rw[q55 T W Z];rfl
 have G:=hG.sc s.toNat (by omega);unfold sOk at G
 by_cases hz:s=0
 .
  subst hz;rw[if_pos (by rfl)]at G;have hp:g.af.getD (0:Int).toNat 0=-1:=by simp at G;exact G.1
  have hd:dep g 0=1:=by rw[I,hp];unfold dep;rw[q8o];rfl
  rw[hd];exact⟨by omega,by omega,fun h=>absurd rfl h⟩
 rw[if_neg (by omega)]at G;simp only[X5,decide_eq_true_eq]at G;have h4:dep g s<=4:=by
  have:=G.2;unfold dep;rw[show s=((s.toNat:Nat):Int) by omega];exact this
 have hp1:1<=dep g (g.af.getD s.toNat 0):=by
  unfold dep;rw[q55 T G.1.1 (by omega)];simp
 exact⟨by omega,h4,fun _=>⟨G.1.1,by omega,I,by omega⟩⟩
theorem q2k{v:Nat}(G:v<g.ae.length):0<=(nd g v).Scope/\(nd g v).Scope<g.af.length/\(((nd g v).Kind=10\/(nd g v).Kind=11\/(nd g v).Kind=12)->(nd g v).Scope≠0):=by
 have:=q9j (hG.no v G);exact⟨this.2.1.1,this.2.1.2,this.2.2.1⟩
theorem ze8{n:Nat}(hn:n<g.ae.length){t:ay}(ht:PtM g ⟨n,t⟩)(I:(q0b g n t).2=true){e:aC}(he:e∈g.aw)(hf:e.aL=n):PtM g ⟨e.To,(q0b g n t).1⟩/\(e.Port=0\/e.Port=1):=by
 obtain⟨m,hm,h1,h2,h3⟩:=ht;obtain rfl:n=m:=by have:(n:Int)=m:=h1;omega
 obtain⟨Z,e2,_,e4,e5,_⟩:=hG.ed.at he;have aj:e.To.toNat<g.ae.length:=by have:=e2.1;have:=e2.2;omega
 have ak:ndI g e.aL=nd g n:=by rw[hf];unfold ndI;rw[Xe]
 rw[ak]at e5;obtain⟨k1,k2,k3⟩:=q2k hG hn;obtain⟨d1,d2,d3⟩:=z3a hG k1 k2;have an:lev g e.To.toNat=dep g (q4t g (nd g n)):=by unfold lev;rw[e5];rfl
 dsimp only at h2 h3;have G:ok (q0b g n t).1/\(q0b g n t).1.D=(dep g (q4t g (nd g n)):Int):=by
  by_cases T:(nd g n).Kind=10
  .
   rw[z0g T]at I⊢;have Z:q4t g (nd g n)=(nd g n).Scope:=by unfold q4t;rw[if_neg (by omega)]
   have e2:lev g n=dep g (g.af.getD (nd g n).Scope.toNat 0):=by unfold lev q7w;rw[if_pos T]
   by_cases c:ok t/\t.D≠4
   . rw[if_pos c,Z];have:=d3 (k3 (by omega));exact⟨zm6 c.1 c.2,by show t.D+1=_;omega⟩
   rw[if_neg c]at I;cases I
  have e2:lev g n=dep g (nd g n).Scope:=by unfold lev q7w;rw[if_neg T]
  by_cases W:(nd g n).Kind=11
  .
   rw[z2x W]at I⊢;have Z:q4t g (nd g n)=g.af.getD (nd g n).Scope.toNat 0:=by unfold q4t;rw[if_pos W]
   by_cases c:ok t/\t.D≠1
   . rw[if_pos c,Z];have:=d3 (k3 (by omega));exact⟨j8n c.1 c.2,by rw[j6q c.1 c.2];omega⟩
   rw[if_neg c]at I;cases I
  have Z:q4t g (nd g n)=(nd g n).Scope:=by unfold q4t;rw[if_neg W]
  by_cases a6:(nd g n).Kind=12
  .
   rw[z0f a6]at I⊢
   by_cases c:ok t/\bb t≠qj1 t
   . rw[if_pos c,Z];exact⟨za9 c.1 c.2,by rw[zm9 c.1,h3,e2]⟩
   rw[if_neg c]at I;cases I
  rw[qt1 T W a6,Z,<-e2];exact⟨h2,h3⟩
 refine⟨⟨e.To.toNat,aj,by have:=e2.1;show e.To=_;omega,G.1,by rw[an];exact G.2⟩,?_⟩;have:aY (ndI g e.To).Kind<=2:=by unfold aY;repeat' split<;>try omega
 omega
theorem zi4{r:a7}(T:r.g=g){n:Nat}(G:n<g.ae.length)(t:ay):q4e r n t=some ((q0b g n t).1,(q0b g n t).2,r):=by
 obtain⟨W,k2,_⟩:=q2k hG G;have Z:=hG.bl;unfold q4e;rw[T];refine Ok.eq (Ok.bind (k3o G ?_));rw[q6g G];refine k3n (fun h=>?_) (fun h=>?_)
 . rw[j38,z0g (by simpa using h)];exact Ok.bind (Ok.some (Ok.some rfl))
 have c1:¬(nd g n).Kind=10:=by simpa using h
 refine k3n (fun h=>?_) (fun h=>?_)
 . rw[j36,z2x (by simpa using h)];exact Ok.bind (Ok.some (Ok.some rfl))
 have c2:¬(nd g n).Kind=11:=by simpa using h
 refine k3n (fun h=>?_) (fun h=>?_)
 .
  have I:(nd g n).Kind=12:=by simpa using h
  rw[j5f,z0f I];refine Ok.bind (Ok.some ?_)
  by_cases c:ok t/\bb t≠qj1 t
  . rw[if_pos c];obtain⟨i1,i2⟩:=jg4 (za9 c.1 c.2);refine k3n (fun _=>?_) (fun h=>by cases h);refine Ok.guard i1 ?_;rw[show idx _ _=_ from i2];refine Ok.bind (Ok.some ?_);rw[qj3 0 W (by omega)];exact Ok.bind (Ok.some (Ok.some (by rw[if_pos c];rfl)))
  rw[if_neg c];exact k3n (fun h=>by cases h) (fun _=>Ok.some (by rw[if_neg c]))
 have I:¬(nd g n).Kind=12:=by simpa using h
 rw[qt1 c1 c2 I];exact Ok.some rfl
end
noncomputable def q3p(x:aH)(a b:List a8):Option (List a8):=match q9o x [a,b]with
 |some (o,true)=>if (Fn o/\tot o<=65536)/\(Fn a/\a.length<=60000)/\Fn b/\b.length<=60000 then some o else none
 |_=>none
theorem z9l{x:aH}{a b o:List a8}(h:q3p x a b=some o):q9o x [a,b]=some (o,true)/\(Fn o/\tot o<=65536)/\(Fn a/\a.length<=60000)/\Fn b/\b.length<=60000:=by
 unfold q3p at h
 split at h
 .
  rename_i o' G
  split at h
  . rename_i I;cases h;exact⟨G,I⟩
  cases h
 cases h
theorem qm4{x:aH}{a b o:List a8}(h:q3p x a b=some o):Fn o/\tot o<=65536:=(z9l h).2.1
theorem j3x{x:aH}(G:∀y∈x.Prog,OP.iR y.N){a b:List a8}(Z:Fn a)(hb:Fn b)(la:a.length<=60000)(lb:b.length<=60000):∃o k,q9o x [a,b]=some (o,k)/\Fn o/\tot o<=65536/\q3p x a b=if k=true then some o else none:=by
 obtain⟨⟨o,k⟩,h1,h2⟩:=CE.cw (x:=x) la lb;obtain⟨p1,p2⟩:=CE.aY la lb;obtain⟨v,I,O,hO,pO,hF⟩:=OP.bH (x:=x) p1 p2 (CE.b9 a la) (CE.b9 b lb);have T:OP.bR O:=OP.du G (OP.cq Z.rg) (OP.cq hb.rg) (by have:=z5z a;omega) (by have:=z5z b;omega) hO;rw[I]at h1
 cases h1
 have hr:OP.bR o:=by
  rcases hF with⟨_,hp,_⟩|⟨_,W,_⟩
  . have hp:bV [] o O:=hp;refine OP.dz hp.rt fun r hr=>?_;have:=hp.cnt r;simp only[cnt]at this;exact OP.cJ T (r:=r) (by omega)
  have W:o=[]:=W;rw[W];intro x G;cases G
 obtain⟨h3,h4⟩:=Fn.of h2 hr;refine⟨o,k,I,h3,h4,?_⟩;unfold q3p;rw[I]
 cases k
 . rfl
 exact if_pos ⟨⟨h3,h4⟩,⟨Z,la⟩,hb,lb⟩
theorem j85{x:aH}(G:x.Kind=15)(r:aP):OP.cu x r=[r]:=by
 unfold OP.cu q77;rw[if_neg (by rw[G];decide),if_neg (by rw[G];decide),if_neg (by rw[G];decide)];rfl
theorem j1p{x:aH}(G:x.Kind=15):∀b:List a8,OP.lin x b=b
 |[]=>rfl
 |y::b=>by
  have:=j1p G b;unfold OP.lin at this⊢;rw[Yi,this,j85 G];rfl
theorem j7f{x:aH}(Z:x.Kind=15){a b:List a8}(G:Fn a)(hb:Fn b)(la:a.length<=60000)(lb:b.length<=60000):q3p x a b=if tot a<=65536 then some a else none:=by
 obtain⟨h1,h2⟩:=CE.aY la lb;obtain⟨v,hv,O,I,_,hF⟩:=OP.bH (x:=x) h1 h2 (CE.b9 a la) (CE.b9 b lb);have T:O=a:=by
  unfold OP.Out at I;rw[if_neg (by omega),if_pos (by rw[Z];decide),j1p Z,qr6 G.rt G.pos]at I;exact I
 subst T;unfold q3p;rw[hv];obtain⟨o,k⟩:=v;rcases hF with⟨rfl,hp,W⟩|⟨rfl,_,W⟩
 .
  rw[if_pos W];have:o=O:=Rt.unique hp.rt G.rt fun r=>by rw[hp.cnt];simp[cnt]
  rw[this];exact if_pos ⟨⟨G,W⟩,⟨G,la⟩,hb,lb⟩
 rw[if_neg (by omega)]
noncomputable def q1x(n:Nat)(u:ay)(out:List a8)(s:MS)(e:aC):MS:=if e.aL=n then {q9t s ⟨e.To,u⟩ e.Port out with work:=s.work+tot out}else s
noncomputable def q23(n:Nat)(u:ay)(out:List a8)(G:List aC)(s:MS):MS:=G.foldl (q1x n u out) s
noncomputable def q6k(g:aa)(aB:Int)(n:Nat)(t:ay)(a b:List a8)(s:MS):Bool×MS:=
 match q3p (nd g n) a b with
 |none=>(false,{s with e:=9})
 |some out=>
  if (nd g n).Kind=15 then (false,{s with outs:=s.outs++(all out).map fun r=>⟨n,t.C.a0,r⟩})
  else if (q0b g n t).2=false\/out=[]then (false,s)
  else (true,if aB<(q23 n (q0b g n t).1 out g.aw s).work then {q23 n (q0b g n t).1 out g.aw s with e:=9}else q23 n (q0b g n t).1 out g.aw s)
noncomputable def aM(g:aa)(n:Nat)(t:ay)(s:MS):MS:=
 if (nd g n).Kind=14 then {s with ins:=upd s.ins ⟨n,t⟩ no2,aK:=upd s.aK n (s.aK n++[⟨t,1⟩]),aJ:=upd s.aJ ⟨n,t⟩ (s.ins ⟨n,t⟩).a0}else {s with ins:=upd s.ins ⟨n,t⟩ no2}
noncomputable def q0c(g:aa)(aB:Int)(s:MS)(n:Nat)(t:ay):Bool×MS:=
 if s.ins ⟨n,t⟩=no2\/s.e≠0 then (false,s)
 else q6k g aB n t (s.ins ⟨n,t⟩).a0 (if (nd g n).Kind=14 then q6o (aM g n t s) n t else (s.ins ⟨n,t⟩).a1) (aM g n t s)
structure St(g:aa)(C aB:Int)(r:a7):Prop where
 inv:Inv g (C+r.work) r
 mo:r.aB=aB
 w0:0<=r.work
 wm:r.e=0->r.work<=aB
 wx:r.work<=aB+6553600
theorem Inv.we{g:aa}{T:Int}{r:a7}(h:Inv g T r)(w e:Int):Inv g T ⟨r.g,r.ins,r.aK,r.aJ,w,r.aB,r.outs,e⟩:=⟨h.gr,h.il,h.ind,h.ipt,h.cM,h.pl,h.pnd,h.bl,h.bnd,h.cj,h.pot,h.ptm,h.dj⟩
theorem Inv.mono{g:aa}{T G:Int}{r:a7}(h:Inv g T r)(k:T<=G):Inv g G r:=⟨h.gr,h.il,h.ind,h.ipt,h.cM,h.pl,h.pnd,h.bl,h.bnd,fun b hb=>⟨(h.cj b hb).1,Yt (h.cj b hb).2 k⟩,Yt h.pot k,h.ptm,Yt h.dj k⟩
theorem j2w{g:aa}(hG:VA.Good g){C aB:Int}(hC:0<=C)(b4:0<=aB)(b5:C+aB<=7000){r:a7}(W:St g C aB r)(he:r.e=0){n:Nat}(hn:n<g.ae.length){t:ay}(ht:PtM g ⟨n,t⟩){a b:List a8}
 (ha:Fn a)(hb:Fn b)(ak:∀y∈(nd g n).Prog,OP.iR y.N)(la:a.length<=60000)(lb:b.length<=60000)(a6:(r.ins.2.map bt).sum+(r.aK.2.map fun l=>(l.length:Int)).sum+r.outs.length+tot a<=C+r.work\/(nd g n).Kind≠15):
 Ok (q0w n t (nd g n) [a,b] r) fun v=>v.1=(q6k g aB n t a b (ab r)).1/\St g C aB v.2/\ab v.2=(q6k g aB n t a b (ab r)).2:=by
 have b6:=W.wm he;have bi:=W.w0;have G:=W.inv;have b1:=G.cU;have b2:=G.pot;obtain⟨o,k,h1,h2,h3,h4⟩:=j3x (x:=nd g n) ak ha hb la lb;have bs:=h2.len;unfold q0w q6k;rw[h1,h4];refine Ok.bind (Ok.some (k3n (fun hk=>?_) (fun hk=>?_)))
 .
  have hk:k=false:=by simpa using hk
  rw[hk,if_neg (by simp)];refine Ok.some ⟨rfl,⟨G.we _ _,W.mo,W.w0,fun h=>?_,W.wx⟩,rfl⟩;exact absurd h (by show ¬(9:Int)=0;decide)
 have hk:k=true:=by simpa using hk
 subst hk;rw[if_pos rfl];dsimp only;refine k3n (fun I=>?_) (fun I=>?_)
 .
  have I:(nd g n).Kind=15:=by simpa using I
  rw[if_pos I];have an:o=a:=by
   have:=j7f I ha hb la lb;rw[h4,if_pos rfl]at this
   split at this
   . exact Yl this
   cases this
  subst an;have a6:=a6.resolve_right (by simp[I]);have bv:=z4n (b:=o) h2.pos;refine k3m (ju8 (by omega)) fun v hv=>?_;have hv:=hv.1 (by rw[qr6 h2.rt h2.pos];exact h3);rw[qr6 h2.rt h2.pos]at hv;subst hv;refine k3r (l:=all o) (by omega) (fun i (b:a7)=>b=⟨r.g,r.ins,r.aK,r.aJ,r.work,r.aB,r.outs++((all o).take i).map (fun q=>⟨n,t.C.a0,q⟩),r.e⟩) 0 (fun rec i hi s _ hs T=>?_) (fun rec s hs=>?_) (by simp) (X0 _)
  .
   subst hs;unfold q3u;dsimp only;rw[if_pos (by simpa using hi),iw hi (by omega)];refine Ok.bind (k3o hi (Ok.guard ?_ (T _ ?_)))
   . simp only[Xa,X8,Xg,Xk,X6];omega
   rw[Xd hi,List.map_append,Xc];rfl
  subst hs;unfold q3u;dsimp only;rw[if_neg (by simp),Xs];refine Ok.some ⟨rfl,⟨⟨G.gr,G.il,G.ind,G.ipt,G.cM,G.pl,G.pnd,G.bl,G.bnd,G.cj,?_,G.ptm,G.dj⟩,W.mo,W.w0,W.wm,W.wx⟩,rfl⟩;dsimp only;rw[Xa,X8]
  push_cast
  omega
 have I:¬(nd g n).Kind=15:=by simpa using I
 rw[if_neg I];unfold q5t;rw[zi4 hG G.gr hn];refine Ok.bind (Ok.some (k3n (fun hx=>?_) (fun hx=>?_)))
 . rw[if_pos (by simpa using hx)];exact Ok.some ⟨rfl,W,rfl⟩
 have hx:¬((q0b g n t).2=false\/o=[]):=by simpa using hx
 rw[if_neg hx];have ao:(q0b g n t).2=true:=by simpa using fun e=>hx (.inl e)
 have ho:o≠[]:=fun e=>hx (.inr e);have c0:=j45 h2 ho;have aq:=hG.el;have b3:r.g.aw.length<=64:=by rw[G.gr];exact aq
 refine VA.bK (l:=r.g.aw) (by rw[G.gr];omega) (fun i (s:a7)=>(o,i,s)) (fun q=>q.2.1) (fun _ _=>rfl)
  (fun i s=>Inv g (C+s.work) s/\s.aB=aB/\s.e=0/\r.work<=s.work/\s.work<=r.work+65536*i/\ab s=q23 n (q0b g n t).1 o (g.aw.take i) (ab r)) 0 (fun rec i hi s _ hs T=>?_) (fun rec s hs=>?_) ⟨G,W.mo,he,Xw _,by simp,rfl⟩ (X0 _)
 .
  obtain⟨s1,s2,s3,s4,s5,s6⟩:=hs;have aj:i<g.aw.length:=by rw[<-G.gr];exact hi
  have ar:r.g.aw[i]=g.aw[i]:=by simp only[G.gr]
  have Z:∀S,q23 n (q0b g n t).1 o (g.aw.take (i+1)) S=q1x n (q0b g n t).1 o (q23 n (q0b g n t).1 o (g.aw.take i) S) g.aw[i]:=fun S=>by
   unfold q23;rw[Xd aj,X9];rfl
  unfold q3v;dsimp only;rw[if_pos (by simpa using hi),iw hi (by omega)];refine Ok.bind (k3o hi ?_);rw[ar];refine k3n (fun hf=>?_) (fun hf=>?_)
  .
   have hf:g.aw[i].aL=n:=by simpa using hf
   obtain⟨q1,q2⟩:=ze8 hG hn ht ao (Ye aj) hf;refine k3m (j58 hG s1 q1 q2 h2 (by omega) h3) fun v hv=>?_;obtain⟨v1,v2,v3,v4⟩:=hv;rw[jq5 h2 (by omega)];refine Ok.bind (Ok.some (T _ ?_));rw[v4,wrap_i64 _ (by omega)];refine⟨?_,by rw[<-s2];exact v3,?_,by dsimp only;omega,by dsimp only;push_cast;omega,?_⟩
   . have:=v1.we (s.work+tot o) v.e;exact this.mono (by dsimp only;omega)
   .
    have:(ab v).e=(q9t (ab s) ⟨g.aw[i].To,(q0b g n t).1⟩ g.aw[i].Port o).e:=by rw[v2]
    have h9:(q9t (ab s) ⟨g.aw[i].To,(q0b g n t).1⟩ g.aw[i].Port o).e=(ab s).e:=by unfold q9t;split<;>rfl
    rw[h9]at this;exact this.trans s3
   rw[Z,<-s6];unfold q1x;rw[if_pos hf,<-v2];rfl
  have hf:¬g.aw[i].aL=n:=by simpa using hf
  refine T _ ⟨s1,s2,s3,s4,by push_cast;omega,?_⟩;rw[Z,<-s6];unfold q1x;rw[if_neg hf]
 obtain⟨s1,s2,s3,s4,s5,s6⟩:=hs;rw[G.gr]at s5 s6;rw[Xs]at s6;unfold q3v;dsimp only;rw[if_neg (by simp),<-s6];unfold q5s;refine k3n (fun hm=>Ok.some ⟨rfl,?_,?_⟩) (fun hm=>Ok.some ⟨rfl,?_,?_⟩)
 . exact⟨s1.we _ _,s2,by dsimp only;omega,fun h=>absurd h (by show ¬(9:Int)=0;decide),by dsimp only;omega⟩
 .
  have hm:aB<s.work:=by rw[<-s2];simpa using hm
  rw[if_pos (show aB<(ab s).work from hm)];rfl
 .
  have hm:s.work<=aB:=by rw[<-s2];simpa using hm
  exact⟨s1,s2,by dsimp only;omega,fun _=>hm,by dsimp only;omega⟩
 have hm:¬aB<s.work:=by
  have:s.work<=aB:=by rw[<-s2];simpa using hm
  omega
 rw[if_neg (show ¬aB<(ab s).work from hm)]
end MN
end
section
open Go Go.RowKit TS VA BG
namespace MN
open Classical
structure Put{α β:Type}[Key α](m m':List α×List β)(d:β)(k:α)(x:β):Prop where
 len:m'.1.length=m'.2.length
 nd:m'.1.Nodup
 look:look m' d=upd (look m d) k x
 mem:∀y∈m'.2,y∈m.2\/y=x
 sum:∀f:β->Int,f d=0->(m'.2.map f).sum=(m.2.map f).sum-f (MN.look m d k)+f x
section
variable {α β:Type} [Key α]
theorem zh5{m:List α×List β}{d x:β}{k:α}(Z:β)(I:m.1.length=m.2.length)(hn:m.1.Nodup)(hf:q3e m.1 k=none):Put m (m.1++[k],(m.2++[Z]).set m.1.length x) d k x:=by
 have G:=qi2 hf;rw[j0s I];refine⟨by simp[I],Zk.2 ⟨hn,by simp,fun a ha c W e=>G (by simp at W;rw[<-W,<-e];exact ha)⟩,?_,fun y hy=>?_,fun f T=>?_⟩
 . funext q;rw[zi2 I G];rfl
 .
  rcases Xm.1 hy with h|h
  . exact .inl h
  simp at h;exact .inr h
 rw[zr1,qh7 G,T];omega
theorem zh4{m:List α×List β}{d x:β}{k:α}{i:Nat}(G:m.1.length=m.2.length)(W:m.1.Nodup)(I:q3e m.1 k=some i):Put m (m.1,m.2.set i x) d k x:=by
 obtain⟨hi,_,T,_⟩:=qo2 (d:=d) G I;refine⟨by simp[G],W,?_,fun y Z=>Yr Z,fun f _=>?_⟩
 . funext q;rw[zi0 G I];rfl
 rw[zd6 hi];have:m.2[i]=look m d k:=by rw[Ya hi]at T;exact Yl T
 rw[this]
end
theorem zu9{g:aa}{C aB:Int}{r:a7}(I:St g C aB r){n:Nat}{t:ay}{i:Nat}(hf:q3e r.ins.1 (⟨n,t⟩:ah)=some i){aK:List Int×List (List aF)}{aJ:List ah×List (List a8)}{k:Int}(T:aK.1.length=aK.2.length)(W:aK.1.Nodup)(Z:aJ.1.length=aJ.2.length)(a6:aJ.1.Nodup)
 (aq:(aK.2.map fun l=>(l.length:Int)).sum=(r.aK.2.map fun l=>(l.length:Int)).sum+k)(hk:k<=1)(ar:(aJ.2.map tot).sum<=(r.aJ.2.map tot).sum+tot ((ab r).ins ⟨n,t⟩).a0)(aj:∀l∈aK.2,∀c∈l,ok c.Time)(ak:∀b∈aJ.2,Fn b/\tot b<=C+r.work):
 St g C aB ⟨r.g,(r.ins.1.eraseIdx i,r.ins.2.eraseIdx i),aK,aJ,r.work,r.aB,r.outs,r.e⟩/\((r.ins.2.eraseIdx i).map bt).sum+bt ((ab r).ins ⟨n,t⟩)=(r.ins.2.map bt).sum:=by
 have G:=I.inv;obtain⟨hi,_,hg,hm⟩:=qo2 (d:=no2) G.il hf;have hv:=G.cM _ hm;have an:r.ins.2[i]=(ab r).ins ⟨n,t⟩:=by rw[Ya hi]at hg;exact Yl hg
 have ao:=zv0 (f:=bt) hi;rw[an]at ao;have b1:1<=bt ((ab r).ins ⟨n,t⟩):=hv.2.2;have b2:tot ((ab r).ins ⟨n,t⟩).a0<=bt ((ab r).ins ⟨n,t⟩):=by
  have:=hv.2.1.len
  show tot _<=tot _+tot _
  have:0<=tot ((ab r).ins ⟨n,t⟩).a1:=by have:=hv.2.1.len;show 0<=tot (look r.ins no2 _).a1;omega
  omega
 have h1:=G.pot;have h3:=G.dj;refine⟨⟨⟨G.gr,?_,(List.eraseIdx_sublist _ _).nodup G.ind,fun p hp=>G.ipt p (Yu hp),fun x hx=>G.cM x (Yu hx),T,W,Z,a6,ak,?_,aj,?_⟩,I.mo,I.w0,I.wm,I.wx⟩,by omega⟩
 . have hl:=G.il;dsimp only;rw[Zc,Zc,hl]
 . dsimp only;omega
 dsimp only;omega
theorem js8{g:aa}(hG:VA.Good g){C aB:Int}(hC:0<=C)(aq:0<=aB)(ar:C+aB<=7000){r:a7}(hS:St g C aB r){n:Nat}(hn:n<g.ae.length)(b1:∀y∈(nd g n).Prog,OP.iR y.N){t:ay}(ht:okz t):
 Ok (q4p r n t) fun v=>v.1=(q0c g aB (ab r) n t).1/\St g C aB v.2/\ab v.2=(q0c g aB (ab r) n t).2:=by
 have G:=hS.inv;have c4:=hG.nl;have ak:Key.okb (⟨n,t⟩:ah)=true:=by
  rcases ht with ht|rfl
  . exact zh8 ⟨by omega,by omega⟩ ht
  show (Key.okb (n:Int)&&Key.okb (0:Int)&&Key.okb (0:Int)&&Key.okb (0:Int)&&Key.okb (0:Int)&&Key.okb (0:Int))=true
  rw[zs1 (x:=(n:Int)) (by omega) (by omega)];decide
 unfold q4p
 cases hf:q3e r.ins.1 (⟨n,t⟩:ah)with
 |none=>
  rw[qx2];refine Ok.guard ak ?_;have h0:(ab r).ins ⟨n,t⟩=no2:=qh7 (qi2 hf);unfold q0c;rw[if_pos (.inl h0)];exact Ok.some ⟨rfl,hS,rfl⟩
 |some i=>
  obtain⟨hi,ha,hg,hm⟩:=qo2 (d:=no2) G.il hf;have an:PtM g ⟨n,t⟩:=G.ipt _ (j9f hf);have hv:=G.cM _ hm;rw[qx1,ha];have hL:look r.ins no2 ⟨n,t⟩=(ab r).ins ⟨n,t⟩:=rfl;rw[hL]at hv⊢;refine Ok.bind (Ok.some ?_);have b2:(ab r).ins ⟨n,t⟩≠no2:=fun e=>by rw[e]at hv;have:=hv.2.2;simp[no2,bt,tot]at this
  refine k3n (fun h=>?_) (fun h=>?_)
  .
   have h:r.e≠0:=by simpa using h
   unfold q0c;rw[if_pos (.inr h)];exact Ok.some ⟨rfl,hS,rfl⟩
  have he:r.e=0:=by simpa using h
  have c5:=hS.wm he;unfold q0c;rw[if_neg (fun h=>h.elim b2 (fun h=>h he))];rw[G.gr];refine Ok.bind (k3o hn (Ok.guard (by decide) ?_));rw[q6g hn];have b3:=G.cU.2.2 _ hm;have c6:=hv.1.len;have c7:=hv.2.1.len;have c8:bt ((ab r).ins ⟨n,t⟩)=tot ((ab r).ins ⟨n,t⟩).a0+tot ((ab r).ins ⟨n,t⟩).a1:=rfl;have c0:bt ((ab r).ins ⟨n,t⟩)<=C+r.work:=b3;have aj:look (r.ins.1.eraseIdx i,r.ins.2.eraseIdx i) no2=upd (look r.ins no2) ⟨n,t⟩ no2:=by
   funext q;rw[j1o G.il G.ind hf];rfl
  refine k3n (fun I=>?_) (fun I=>?_)
  .
   have I:(nd g n).Kind=14:=by simpa using I
   rw[if_pos I]
   have key:∀(aK:List Int×List (List aF)) (aJ:List ah×List (List a8)),Put r.aK aK [] (n:Int) ((ab r).aK n++[⟨t,1⟩])->Put r.aJ aJ [] ⟨n,t⟩ ((ab r).ins ⟨n,t⟩).a0->
    Ok (q9 (q14 ⟨g,(r.ins.1.eraseIdx i,r.ins.2.eraseIdx i),aK,aJ,r.work,r.aB,r.outs,r.e⟩ n t) fun v=>q0w n t (nd g n) [((ab r).ins ⟨n,t⟩).a0,v.1] v.2) fun v=>
     v.1=(q6k g aB n t ((ab r).ins ⟨n,t⟩).a0 (q6o (aM g n t (ab r)) n t) (aM g n t (ab r))).1/\St g C aB v.2/\ab v.2=(q6k g aB n t ((ab r).ins ⟨n,t⟩).a0 (q6o (aM g n t (ab r)) n t) (aM g n t (ab r))).2:=by
    intro aK aJ hp hb;have c9:=hb.sum tot (by simp[tot]);have c1:0<=tot (look r.aJ [] ⟨n,t⟩):=by
     by_cases hx:(⟨n,t⟩:ah)∈r.aJ.1
     . have:=(G.cj _ (zi1 (d:=[]) G.bl hx)).1.len;have h2:look (r.aJ.1,r.aJ.2) [] ⟨n,t⟩=look r.aJ [] ⟨n,t⟩:=rfl;rw[h2]at this;omega
     rw[qh7 hx];simp[tot]
    have hp0:=hp.sum (fun l=>(l.length:Int)) (by simp);have b4:(((ab r).aK n++[(⟨t,1⟩:aF)]).length:Int)=(look r.aK [] (n:Int)).length+1:=by
     rw[Xa];rfl
    obtain⟨W,_⟩:=zu9 hS hf (k:=1) hp.len hp.nd hb.len hb.nd (by rw[hp0,b4];omega) (Xw _) (by omega) (fun l hl c hc=>by
     rcases hp.mem l hl with h|rfl
     . exact G.ptm l h c hc
     .
      rcases Xm.1 hc with h|h
      .
       by_cases hx:(n:Int)∈r.aK.1
       . exact G.ptm _ (zi1 (d:=[]) G.pl hx) c h
       have:(ab r).aK n=[]:=qh7 hx;rw[this]at h;cases h
      simp at h;rw[h];obtain⟨_,_,_,h3,_⟩:=an;exact h3) (fun b b5=>by
     rcases hb.mem b b5 with h|rfl
     . exact G.cj b h
     exact⟨hv.1,by omega⟩)
    rw[G.gr]at W;have Z:ab ⟨g,(r.ins.1.eraseIdx i,r.ins.2.eraseIdx i),aK,aJ,r.work,r.aB,r.outs,r.e⟩=aM g n t (ab r):=by
     unfold aM;rw[if_pos I];unfold ab;simp only[MS.mk.injEq,and_true];exact⟨aj,hp.look,hb.look⟩
    refine k3m (j5i W.inv (by show C+r.work<=7000;omega) (by omega) t) fun v b6=>?_;obtain⟨v1,v2,v3,v4⟩:=b6;rw[v1,v2,Z];have bi:(v.1.length:Int)<=C+r.work:=v4;rw[v2,Z]at v3 bi;have:=j2w (b:=q6o (aM g n t (ab r)) n t) hG hC aq ar W he hn an hv.1 v3 b1 (by omega) (by omega) (.inr (by omega));rw[Z]at this;exact this
   have cb:(n:Int)<1000000:=by omega
   cases a6:q3e r.aK.1 (n:Int)with
   |none=>
    rw[qx2];refine Ok.guard (zs1 (by omega) (by omega)) (Ok.guard (by simp) ?_);have hp0:(ab r).aK n=[]:=qh7 (qi2 a6);have hP:=zh5 (d:=[]) (x:=(ab r).aK n++[(⟨t,1⟩:aF)]) ([(⟨t,1⟩:aF)]:List aF) G.pl G.pnd a6;rw[hp0,Xu]at hP
    cases T:q3e r.aJ.1 (⟨n,t⟩:ah)with
    |none=>
     rw[qx2];refine Ok.guard ak ?_;exact key _ _ (by rw[hp0];exact hP) (zh5 ((ab r).ins ⟨n,t⟩).a0 G.bl G.bnd T)
    |some j=>
     obtain⟨_,ao,_,_⟩:=qo2 (d:=[]) G.bl T;rw[qx1,ao];refine Ok.bind (Ok.some ?_);exact key _ _ (by rw[hp0];exact hP) (zh4 G.bl G.bnd T)
   |some j=>
    obtain⟨_,bs,_,bv⟩:=qo2 (d:=[]) G.pl a6;rw[qx1,bs];have c2:((look r.aK [] (n:Int)).length:Int)<=C+r.work:=by
     have h1:=(zd7 (f:=fun l:List aF=>(l.length:Int)) (fun y _=>by omega) _ bv).1;have h2:=G.cU.1;have:=G.pot;omega
    refine Ok.bind (Ok.some (Ok.guard (by simp only[Xk,X6];omega) ?_));have hP:=zh4 (d:=[]) (x:=(ab r).aK n++[(⟨t,1⟩:aF)]) G.pl G.pnd a6
    cases T:q3e r.aJ.1 (⟨n,t⟩:ah)with
    |none=>
     rw[qx2];refine Ok.guard ak ?_;exact key _ _ hP (zh5 ((ab r).ins ⟨n,t⟩).a0 G.bl G.bnd T)
    |some k=>
     obtain⟨_,ao,_,_⟩:=qo2 (d:=[]) G.bl T;rw[qx1,ao];refine Ok.bind (Ok.some ?_);exact key _ _ hP (zh4 G.bl G.bnd T)
  have I:¬(nd g n).Kind=14:=by simpa using I
  rw[if_neg I];obtain⟨W,c3⟩:=zu9 hS hf (aK:=r.aK) (aJ:=r.aJ) (k:=0) G.pl G.pnd G.bl G.bnd (by omega) (by omega) (by omega) G.ptm G.cj;have Z:ab ⟨g,(r.ins.1.eraseIdx i,r.ins.2.eraseIdx i),r.aK,r.aJ,r.work,r.aB,r.outs,r.e⟩=aM g n t (ab r):=by
   unfold aM;rw[if_neg I];unfold ab;simp only[MS.mk.injEq,and_true];exact aj
  rw[G.gr]at W;have:=j2w (b:=((ab r).ins ⟨n,t⟩).a1) hG hC aq ar W he hn an hv.1 hv.2.1 b1 (by omega) (by omega) (.inl (by dsimp only;have:=G.pot;omega));rw[Z]at this;exact this
end MN
end
section
open Go Go.RowKit TS VA BG
namespace MN
open Classical
noncomputable def q4s(t:ay):ay:=if ok t/\t.D≠4 then enT t else z0
noncomputable def ql1(t:ay):ay:=if ok t/\t.D≠1 then leT t else z0
noncomputable def qk4(t:ay):ay:=if ok t/\bb t≠qj1 t then nxT t else z0
theorem j8m(t:ay):okz (q4s t):=by unfold q4s;split;exact .inl (zm6 (by rename_i h;exact h.1) (by rename_i h;exact h.2));exact j67
theorem j8l(t:ay):okz (ql1 t):=by unfold ql1;split;exact .inl (j8n (by rename_i h;exact h.1) (by rename_i h;exact h.2));exact j67
theorem je8(t:ay):okz (qk4 t):=by unfold qk4;split;exact .inl (za9 (by rename_i h;exact h.1) (by rename_i h;exact h.2));exact j67
theorem zt2{α β:Type}(c:Prop)[Decidable c](a b:α)(x y:β):(if c then (a,x)else (b,y)).1=if c then a else b:=by split<;>rfl
noncomputable def qb6(g:aa)(s1:Int)(to:Nat):Nat->Nat->Nat
 |0,e=>e
 |f+1,e=>if e<to/\s1∈anc g.af (nd g e).Scope then qb6 g s1 to f (e+1)else e
noncomputable def z6i(G:ay->MS->Bool×MS):Nat->ay->MS->MS
 |0,_,s=>s
 |k+1,u,s=>if (G u s).1=true then z6i G k (qk4 u) (G u s).2 else (G u s).2
noncomputable def atA(g:aa)(n:Nat)(t:ay):ay:=if (nd g n).Kind=10 then ql1 t else t
noncomputable def ql0(g:aa)(aB:Int)(self:Nat->Nat->Int->ay->MS->Bool×MS)(to:Nat)(sc:Int)(t:ay):Nat->Bool->Nat->MS->Bool×MS
 |0,G,_,s=>(G,s)
 |f+1,G,n,s=>
  if n<to then
   if (nd g n).Scope≠sc then ql0 g aB self to sc t f G (qb6 g (nd g n).Scope to (to-n) n) (z6i (self n (qb6 g (nd g n).Scope to (to-n) n) (nd g n).Scope) (bnd g (nd g n).Scope).toNat (q4s t) s)
   else ql0 g aB self to sc t f (G||((q0c g aB s n (atA g n t)).1&&(nd g n).Kind==12)) (n+1) (q0c g aB s n (atA g n t)).2
  else (G,s)
noncomputable def q4o(g:aa)(aB:Int):Nat->Nat->Nat->Int->ay->MS->Bool×MS
 |0,_,_,_,_,s=>(false,s)
 |d+1,from_,to,sc,t,s=>ql0 g aB (q4o g aB d) to sc t (to-from_) false from_ s
theorem j7n{g:aa}(hG:VA.Good g){r:a7}(hr:r.g=g){s o:Int}(h0:0<=s)(h1:s<g.af.length):q43 r s o=some (decide (o∈anc g.af s),r):=by
 have hw:=hG.wp;have h8:=hG.pl;unfold q43;refine Ok.eq (k3p (fun p:Int=>inS g.af.length p/\∃pre,anc g.af s=pre++anc g.af p/\o∉pre) (fun p=>(p+1).toNat) ?_ ⟨.inr ⟨h0,h1⟩,[],by simp,by simp⟩ (by simp only[rounds];omega));rintro rec p ⟨hi,pre,Z,G⟩ I;unfold q80;rcases hi with rfl|hi
 . rw[if_neg (by simp)];rw[q8o,Xz]at Z;exact Ok.some (by rw[Z,decide_eq_false G])
 rw[if_pos (by simpa using hi.1)];have T:=q55 hw hi.1 hi.2;refine k3n (fun W=>Ok.some ?_) (fun W=>?_)
 . rw[beq_iff_eq]at W;rw[decide_eq_true (by rw[Z,T,W];simp)]
 rw[beq_eq_false_iff_ne]at W;rw[hr,qj3 0 hi.1 hi.2];refine Ok.bind (Ok.some ?_);have a6:=(hw.2 p hi.1 hi.2).1;exact I _ ⟨hw.down hi.1 hi.2,pre++[p],by rw[Z,T];simp,by rw[Xm,not_or,Yh];exact⟨G,Ne.symm W⟩⟩ (by first|omega|(simp only;omega))
theorem qm2(g:aa)(s1:Int)(to:Nat):∀(f e:Nat),e<=to->e<=qb6 g s1 to f e/\qb6 g s1 to f e<=to/\(∀m,e<=m->m<qb6 g s1 to f e->s1∈anc g.af (nd g m).Scope)/\(to-e<=f->qb6 g s1 to f e<to->s1∉anc g.af (nd g (qb6 g s1 to f e)).Scope)
 |0,e,h=>by
  unfold qb6;exact⟨Xh _,h,fun m T G=>by omega,fun T G=>by omega⟩
 |f+1,e,h=>by
  unfold qb6
  split
  .
   rename_i I
   obtain⟨T,G,W,h4⟩:=qm2 g s1 to f (e+1) I.1;refine⟨by omega,G,fun m Z m2=>?_,fun k1 k2=>h4 (by omega) k2⟩;rcases Zi Z with rfl|Z
   . exact I.2
   exact W m Z m2
  rename_i I
  exact⟨Xh _,h,fun m T G=>by omega,fun _ G W=>I ⟨G,W⟩⟩
theorem ze6{g:aa}{s1:Int}{to n:Nat}(h:n<to)(G:s1∈anc g.af (nd g n).Scope):n<qb6 g s1 to (to-n) n:=by
 obtain⟨f,I⟩:∃f,to-n=f+1:=⟨to-n-1,by omega⟩;rw[I];unfold qb6;rw[if_pos ⟨h,G⟩];have:=(qm2 g s1 to f (n+1) h).1;omega
theorem qu9{g:aa}(G:VA.Good g){s:Int}(I:0<=s)(T:s<g.af.length):s∈anc g.af s:=by rw[q55 G.wp I T];simp
theorem j2t{g:aa}(T:VA.Good g){s:Int}(W:0<=s)(Z:s<g.af.length):0<=bnd g s/\bnd g s<=64:=by
 have G:=T.sc s.toNat (by omega);unfold sOk at G;unfold bnd
 by_cases I:s.toNat=0
 . rw[if_pos I]at G;rw[I];simp at G;have:=G.2;simp;omega
 rw[if_neg I]at G;simp only[X5,decide_eq_true_eq]at G;have:=G.1.2;omega
section
variable {g:aa} (hG:VA.Good g) {C aB:Int} (hC:0<=C) (hmo:0<=aB) (hCm:C+aB<=7000) (hpr:∀n,n<g.ae.length->∀y∈(nd g n).Prog,OP.iR y.N)
include hG hC hmo hCm hpr
theorem j0v:∀(d k:Nat) {from_ to:Nat} {sc:Int} {t:ay} {r:a7},from_<=to->to<=g.ae.length->okz t->0<=sc->sc<g.af.length->(∀m,from_<=m->m<to->sc∈anc g.af (nd g m).Scope)->
 g.af.length-sc.toNat<=d->g.af.length-sc.toNat<=k->St g C aB r->
 Ok (q1g k r from_ to sc t) fun v=>v.1=(q4o g aB d from_ to sc t (ab r)).1/\St g C aB v.2/\ab v.2=(q4o g aB d from_ to sc t (ab r)).2
 |0,_,_,_,sc,_,_,_,_,_,h0,h1,_,hd,_,_=>by omega
 |_+1,0,_,_,sc,_,_,_,_,_,h0,h1,_,_,hk,_=>by omega
 |d+1,k+1,from_,to,sc,t,r,c4,d0,ht,h0,h1,c5,hd,hk,hS=>by
  have d1:=hG.nl
  show Ok (q3t (q1g k) r from_ to sc t) _
  unfold q3t;have bi:q4o g aB (d+1) from_ to sc t (ab r)=ql0 g aB (q4o g aB d) to sc t (to-from_) false from_ (ab r):=rfl;rw[bi]
  generalize hT:ql0 g aB (q4o g aB d) to sc t (to-from_) false from_ (ab r)=target
  refine k3p (fun q=>∃(n f:Nat),q.2.1=(n:Int)/\from_<=n/\n<=to/\to-n<=f/\St g C aB q.2.2/\ql0 g aB (q4o g aB d) to sc t f q.1 n (ab q.2.2)=target) (fun q=>to-q.2.1.toNat) ?_ ⟨from_,to-from_,rfl,Xh _,c4,Xh _,hS,hT⟩ (by simp only[rounds];omega);rintro rec ⟨ar,nv,b⟩ ⟨n,f,hn,c6,bs,hf,a6,G⟩ aj;dsimp only at hn a6 G aj;subst hn;have ao:=a6.inv.gr;unfold q2q;dsimp only;refine k3n (fun T=>?_) (fun T=>?_)
  .
   have T:n<to:=by simpa using T
   have W:n<g.ae.length:=by omega
   obtain⟨f',rfl⟩:∃f',f=f'+1:=⟨f-1,by omega⟩;obtain⟨k1,k2,_⟩:=q2k hG W;unfold ql0 at G;rw[if_pos T]at G;rw[ao];refine Ok.bind (k3o W ?_);rw[q6g W];refine k3n (fun hs=>?_) (fun hs=>?_)
   .
    have hs:(nd g n).Scope≠sc:=by simpa using hs
    rw[if_pos hs]at G;have bv:=c5 n c6 T;have cd:sc<(nd g n).Scope:=by
     have:=zf2 hG.wp ((nd g n).Scope.toNat+1) (nd g n).Scope (.inr ⟨k1,k2⟩) (by omega) sc bv;omega
    have b3:=qu9 hG k1 k2;have d2:=ze6 (g:=g) T b3;obtain⟨_,d3,c7,_⟩:=qm2 g (nd g n).Scope to (to-n) n bs;obtain⟨b1,b2⟩:=j2t hG k1 k2;have d4:=hG.bl
    generalize hE:qb6 g (nd g n).Scope to (to-n) n=E at*
    refine k3p (fun q:Int×a7=>q.2=b/\∃e f2:Nat,q.1=(e:Int)/\n<=e/\e<=to/\to-e<=f2/\qb6 g (nd g n).Scope to f2 e=E) (fun q=>to-q.1.toNat) ?_ ⟨rfl,n,to-n,rfl,Xh _,bs,Xh _,hE⟩ (by simp only[rounds];omega);rintro cl ⟨ev,b6⟩ ⟨c0,e,f2,he,d5,c8,d6,Z⟩ ak;dsimp only at c0 he ak;subst c0 he
    have c1:e=E->Ok (q2o t (q1g k) ar (n:Int) rec (nd g n) (e:Int) b6) fun v=>v.1=target.1/\St g C aB v.2/\ab v.2=target.2:=by
     rintro rfl;unfold q2o;rw[j38];refine Ok.bind (Ok.some ?_);rw[zt2,ao,qj3 0 k1 (by omega)];refine Ok.bind (Ok.some ?_)
     generalize c9:z6i (q4o g aB d n e (nd g n).Scope) (bnd g (nd g n).Scope).toNat (q4s t) (ab b6)=S2 at G
     refine k3p (fun q:Int×a7×ay=>∃i:Nat,q.1=(i:Int)/\(i:Int)<=bnd g (nd g n).Scope/\okz q.2.2/\St g C aB q.2.1/\z6i (q4o g aB d n e (nd g n).Scope) ((bnd g (nd g n).Scope).toNat-i) q.2.2 (ab q.2.1)=S2) (fun q=>64-q.1.toNat) ?_ ⟨0,rfl,b1,j8m t,a6,c9⟩ (by simp only[rounds];omega);rintro cp ⟨iv,b5,u⟩ ⟨i,hi,d7,hu,b4,I⟩ an;dsimp only at hi hu b4 I an;subst hi;have c2:∀(v:a7),St g C aB v->ab v=S2->Ok (rec (ar,(e:Int),v)) fun v=>v.1=target.1/\St g C aB v.2/\ab v.2=target.2:=fun v hv cb=>by
      refine aj _ ⟨e,f',rfl,by omega,c8,by omega,hv,?_⟩ (by dsimp only;omega);dsimp only;rw[cb];exact G
     unfold q88;dsimp only;refine k3n (fun hx=>?_) (fun hx=>?_)
     .
      have hx:(i:Int)<bnd g (nd g n).Scope:=by simpa [bnd]using hx
      obtain⟨j,hj⟩:∃j,(bnd g (nd g n).Scope).toNat-i=j+1:=⟨(bnd g (nd g n).Scope).toNat-i-1,by omega⟩;rw[hj]at I;unfold z6i at I;refine k3m (j0v d k (by omega) (by omega) hu k1 k2 c7 (by omega) (by omega) b4) fun v hv=>?_;obtain⟨v1,v2,v3⟩:=hv;refine k3n (fun hb=>?_) (fun hb=>?_)
      .
       have hb:v.1=false:=by simpa using hb
       rw[<-v1,hb,if_neg (by simp)]at I;exact c2 _ v2 (v3.trans I)
      have hb:v.1=true:=by simpa using hb
      rw[<-v1,hb,if_pos rfl]at I;rw[j5f];refine Ok.bind (Ok.some ?_);rw[zt2,iw (N:=64) (by omega) (by omega)];refine an _ ⟨i+1,rfl,by omega,je8 u,v2,?_⟩ (by dsimp only;omega);dsimp only;rw[v3,show (bnd g (nd g n).Scope).toNat-(i+1)=j by omega];exact I
     have hx:¬(i:Int)<bnd g (nd g n).Scope:=by simpa [bnd]using hx
     rw[show (bnd g (nd g n).Scope).toNat-i=0 by omega]at I;exact c2 _ b4 I
    unfold q87;dsimp only;refine k3n (fun hx=>?_) (fun hx=>?_)
    .
     have hx:e<to:=by simpa using hx
     have aq:e<g.ae.length:=by omega
     obtain⟨f3,rfl⟩:∃f3,f2=f3+1:=⟨f2-1,by omega⟩;obtain⟨e1,e2,_⟩:=q2k hG aq;rw[ao];refine Ok.bind (k3o aq ?_);rw[q6g aq,j7n hG ao e1 e2];refine Ok.bind (Ok.some ?_);unfold qb6 at Z;refine k3n (fun hw=>?_) (fun hw=>?_)
     .
      have hw:(nd g n).Scope∈anc g.af (nd g e).Scope:=by simpa using hw
      rw[if_pos ⟨hx,hw⟩]at Z;rw[iw aq (by omega)];exact ak _ ⟨rfl,e+1,f3,rfl,by omega,hx,by omega,Z⟩ (by dsimp only;omega)
     have hw:(nd g n).Scope∉anc g.af (nd g e).Scope:=by simpa using hw
     rw[if_neg (fun h=>hw h.2)]at Z;exact c1 Z
    have hx:e=to:=by
     have:¬e<to:=by simpa using hx
     omega
    refine c1 ?_;rw[<-Z]
    cases f2 with
    |zero=>rfl
    |succ f3=>unfold qb6;rw[if_neg (fun h=>by omega)]
   have hs:(nd g n).Scope=sc:=by simpa using hs
   rw[if_neg (fun h=>h hs)]at G;have c3:∀u,u=atA g n t->okz u->Ok (q2p ar (n:Int) b rec (nd g n) u) fun v=>v.1=target.1/\St g C aB v.2/\ab v.2=target.2:=by
    rintro u rfl hu;unfold q2p;refine k3m (js8 hG hC hmo hCm a6 W (hpr n W) hu) fun v hv=>?_;obtain⟨v1,v2,v3⟩:=hv;rw[iw W (by omega)];refine aj _ ⟨n+1,f',rfl,by omega,T,by omega,v2,?_⟩ (by dsimp only;omega);dsimp only;rw[v1,v3];exact G
   unfold q5f;refine k3n (fun hk=>?_) (fun hk=>?_)
   .
    have hk:(nd g n).Kind=10:=by simpa using hk
    rw[j36];refine Ok.bind (Ok.some ?_);rw[zt2];exact c3 _ (by unfold atA ql1;rw[if_pos hk]) (j8l t)
   have hk:¬(nd g n).Kind=10:=by simpa using hk
   exact c3 _ (by unfold atA;rw[if_neg hk]) ht
  have cc:¬n<to:=by simpa using T
  have:target=(ar,ab b):=by
   rw[<-G]
   cases f with
   |zero=>rfl
   |succ f'=>unfold ql0;rw[if_neg cc]
  rw[this];exact Ok.some ⟨rfl,a6,rfl⟩
end
end MN
end
section
open Go Go.RowKit
namespace SO
theorem bL{α:Type}(A B:List α)(x y:α):(A++x::B).set A.length y=A++y::B:=by
 rw[Za _ _ (Xh _),Nat.sub_self,Yg]
theorem zt1{α:Type}(A B:List α)(x:α)(h:A.length<(A++x::B).length):(A++x::B)[A.length]=x:=by
 rw[Ys (Xh _)];simp
theorem z4r{cmp:aD->aD->Option Int}{A M B:List aD}:∀{U V:List aD},U.length=V.length->(A++U++M++V++B).length<4611686018427387904->
 Ok (q1c (A++U++M++V++B) (A.length:Int) (((A++U++M).length:Nat):Int) (U.length:Int) cmp) (fun r=>r=A++V++M++U++B):=by
 intro U V T I;simp only[Xa]at I;unfold q1c;refine k3p (fun s=>∃i:Nat,s.1=(i:Int)/\i<=U.length/\s.2=A++V.take i++U.drop i++M++U.take i++V.drop i++B) (fun s=>U.length-s.1.toNat) ?_ ⟨0,rfl,X0 _,by simp⟩ (by simp only[rounds];omega);rintro rec ⟨t,q⟩ ⟨i,ht,hi,W⟩ hr;simp only at ht W;subst ht;unfold q5l;simp only;refine k3n (fun Z=>?_) (fun Z=>Ok.some ?_)
 .
  simp only[decide_eq_true_eq]at Z;have hu:i<U.length:=by omega
  have hv:i<V.length:=by omega
  have hU:U.drop i=U[i]::U.drop (i+1):=Xt hu;have hV:V.drop i=V[i]::V.drop (i+1):=Xt hv
  let P:=A++V.take i
  let N:=U.drop (i+1)++M++U.take i
  let S:=V.drop (i+1)++B
  have hP:P.length=A.length+i:=by simp only[P,Xa,Xg];omega
  have hN:N.length=U.length-(i+1)+M.length+i:=by simp only[N,Xa,Xg,Xv];omega
  have a6:q=P++U[i]::(N++V[i]::S):=by rw[W,hU,hV];simp only[P,N,S,Xc,Xq]
  have G:∀x,P++x::(N++V[i]::S)=(P++x::N)++V[i]::S:=fun x=>by simp only[Xc,Xq]
  have e1:IntKind.i64.wrap ((((A++U++M).length:Nat):Int)+(i:Int))=(((P++U[i]::N).length:Nat):Int):=by
   rw[wrap_i64 _ (by simp only[Xa];omega)];simp only[Xa,Xk,hP,hN];omega
  have e2:IntKind.i64.wrap ((A.length:Int)+(i:Int))=((P.length:Nat):Int):=by
   rw[wrap_i64 _ (by omega),hP];omega
  rw[e1,e2,a6];have hS:(P++U[i]::(N++V[i]::S)).length=P.length+1+N.length+1+S.length:=by simp only[Xa,Xk];omega
  refine Ok.bind (k3o (by rw[hS];simp only[Xa,Xk];omega) ?_);refine Ok.bind (k3o (by rw[hS];omega) ?_);have g1:∀h:(P++U[i]::N).length<(P++U[i]::(N++V[i]::S)).length,(P++U[i]::(N++V[i]::S))[(P++U[i]::N).length]'h=V[i]:=fun h=>by
   have:=zt1 (P++U[i]::N) S V[i] (by rw[<-G];exact h);simp only[<-G]at this;exact this
  rw[g1,zt1];refine Ok.bind (k3o (by simp only[Ym];rw[hS];simp only[Xa,Xk];omega) ?_);rw[Xe,Xe,bL,G,show (P++U[i]::N).length=(P++V[i]::N).length by simp,bL,wrap_i64 _ (by omega)];refine hr _ ⟨i+1,by simp,by omega,?_⟩ (by simp only;omega);simp only;rw[Xd hu,Xd hv];simp only[P,N,S,Xc,Xq,Xu]
 simp only[decide_eq_false_iff_not]at Z;have:i=U.length:=by omega
 rw[W,this,Xs,Yj,T,Xs,Yj];simp
theorem j8c{cmp:aD->aD->Option Int}{A X Y B:List aD}(hx:X≠[])(hy:Y≠[])(an:(A++X++Y++B).length<4611686018427387904):
 Ok (q3d (A++X++Y++B) (A.length:Int) (((A++X).length:Nat):Int) (((A++X++Y).length:Nat):Int) cmp) (fun r=>r=A++Y++X++B):=by
 simp only[Xa]at an;have ao:0<X.length:=Yc.2 hx;have aq:0<Y.length:=Yc.2 hy;unfold q3d;rw[wrap_i64 _ (by simp only[Xa];omega),wrap_i64 _ (by simp only[Xa];omega)];refine k3p (fun s=>∃P U V Q:List aD,s.1=(U.length:Int)/\s.2.1=(V.length:Int)/\s.2.2=A++P++U++V++Q++B/\A.length+P.length+U.length=A.length+X.length/\V.length+Q.length=Y.length/\Y++X=P++V++U++Q/\0<U.length/\0<V.length)
  (fun s=>(s.1+s.2.1).toNat) ?_ ⟨[],X,Y,[],by simp only[Xa];omega,by simp only[Xa];omega,by simp,by simp,by simp,by simp,ao,aq⟩ (by simp only[rounds,Xa];omega)
 rintro rec ⟨u,v,q⟩ ⟨P,U,V,Q,hu,hv,hq,ar,b1,he,b2,b3⟩ hr;simp only at hu hv hq;subst hu hv hq;have a6:=congrArg List.length he;simp only[Xa]at a6;unfold q6r;simp only;have em:((((A++X).length:Nat):Int))=(((A++P++U).length:Nat):Int):=by simp only[Xa];omega
 refine k3n (fun hc=>k3n (fun hd=>?_) (fun hd=>?_)) (fun hc=>?_)
 .
  simp only[decide_eq_true_eq]at hd;have aj:V.length<U.length:=by omega
  obtain⟨I,Z,rfl,h1⟩:∃I Z,U=I++Z/\I.length=V.length:=⟨U.take V.length,U.drop V.length,(Xj _ _).symm,by rw[Xg];omega⟩;rw[Xa]at aj ar a6 b2;have T:=z4r (cmp:=cmp) (A:=A++P) (M:=Z) (B:=Q++B) (U:=I) (V:=V) h1 (by simp only[Xa];omega);have ea:IntKind.i64.wrap ((((A++X).length:Nat):Int)-(((I++Z).length:Nat):Int))=(((A++P).length:Nat):Int):=by
   rw[wrap_i64 _ (by simp only[Xa];omega)];simp only[Xa];omega
  rw[ea,em];have G:A++P++(I++Z)++V++Q++B=A++P++I++Z++V++(Q++B):=by simp
  have ak:(((A++P++(I++Z)).length:Nat):Int)=(((A++P++I++Z).length:Nat):Int):=by simp
  rw[G,ak,show (V.length:Int)=(I.length:Int) by omega];refine Ok.bind (T.mono fun r W=>?_);subst W;refine Ok.guard (by simp only[Xa];omega) ?_;rw[wrap_i64 _ (by simp only[Xa];omega)];refine hr _ ⟨P++V,Z,I,Q,?_,rfl,?_,?_,?_,?_,by omega,by omega⟩ ?_
  . simp only[Xa];omega
  . simp
  . simp only[Xa];omega
  . omega
  . rw[he];simp
  simp only[Xa];omega
 .
  simp only[decide_eq_false_iff_not]at hd;have b4:U.length≠V.length:=by
   intro h;simp[h]at hc
  have aj:U.length<V.length:=by omega
  obtain⟨V1,V2,rfl,h1⟩:∃V1 V2,V=V1++V2/\V2.length=U.length:=⟨V.take (V.length-U.length),V.drop (V.length-U.length),(Xj _ _).symm,by rw[Xv];omega⟩;rw[Xa]at aj b1 a6 b3;have T:=z4r (cmp:=cmp) (A:=A++P) (M:=V1) (B:=Q++B) (U:=U) (V:=V2) h1.symm (by simp only[Xa];omega);have ea:IntKind.i64.wrap ((((A++X).length:Nat):Int)-((U.length:Nat):Int))=(((A++P).length:Nat):Int):=by
   rw[wrap_i64 _ (by simp only[Xa];omega)];simp only[Xa];omega
  have eb:IntKind.i64.wrap (IntKind.i64.wrap ((((A++X).length:Nat):Int)+(((V1++V2).length:Nat):Int))-(U.length:Int))=(((A++P++U++V1).length:Nat):Int):=by
   rw[wrap_i64 ((((A++X).length:Nat):Int)+(((V1++V2).length:Nat):Int)) (by simp only[Xa];omega),wrap_i64 _ (by simp only[Xa];omega)];simp only[Xa];omega
  rw[ea,eb];have G:A++P++U++(V1++V2)++Q++B=A++P++U++V1++V2++(Q++B):=by simp
  rw[G];refine Ok.bind (T.mono fun r W=>?_);subst W;refine Ok.guard (by simp only[Xa];omega) ?_;rw[wrap_i64 _ (by simp only[Xa];omega)];refine hr _ ⟨P,V2,V1,U++Q,?_,?_,?_,?_,?_,?_,by omega,by omega⟩ ?_
  . simp only;omega
  . simp only[Xa];omega
  . simp
  . omega
  . simp only[Xa];omega
  . rw[he];simp
  simp only[Xa];omega
 have b4:(U.length:Int)=(V.length:Int):=by simpa using hc
 unfold q41;have T:=z4r (cmp:=cmp) (A:=A++P) (M:=[]) (B:=Q++B) (U:=U) (V:=V) (by omega) (by simp only[Xa,X6];omega);have ea:IntKind.i64.wrap ((((A++X).length:Nat):Int)-((U.length:Nat):Int))=(((A++P).length:Nat):Int):=by
  rw[wrap_i64 _ (by simp only[Xa];omega)];simp only[Xa];omega
 rw[ea,em];have G:A++P++U++V++Q++B=A++P++U++[]++V++(Q++B):=by simp
 have ak:(((A++P++U).length:Nat):Int)=(((A++P++U++[]).length:Nat):Int):=by simp
 rw[G,ak];refine Ok.bind (T.mono fun r W=>?_);subst W;refine Ok.guard (by simp only[Xa,X6];omega) (Ok.some ?_);have:A++Y++X++B=A++(Y++X)++B:=by simp
 rw[this,he];simp
end SO
end
section
open Go Go.RowKit
namespace SO
section
variable {key:aD->Int}
structure Srt(key:aD->Int)(S Z:List aD):Prop where
 inc:Z.Pairwise fun x y=>key x<=key y
 fil:∀k:Int,Z.filter (fun x=>decide (key x=k))=S.filter (fun x=>decide (key x=k))
theorem Srt.refl{S:List aD}(h:S.Pairwise fun x y=>key x<=key y):Srt key S S:=⟨h,fun _=>rfl⟩
theorem Srt.trans{S Z G:List aD}(h:Srt key S Z)(k:Srt key Z G):Srt key S G:=⟨k.inc,fun x=>(k.fil x).trans (h.fil x)⟩
theorem Srt.mem{S Z:List aD}(h:Srt key S Z)(x:aD):x∈Z↔x∈S:=by
 have:=h.fil (key x);have G:x∈Z.filter (fun y=>decide (key y=key x))↔x∈S.filter (fun y=>decide (key y=key x)):=by rw[this]
 simpa [Yd]using G
theorem j52:∀(n:Nat) (Z S:List aD),Z.length=n->(∀k:Int,Z.filter (fun x=>decide (key x=k))=S.filter (fun x=>decide (key x=k)))->S.length=n
 |n,Z,S,I,h=>by
  have hp:Z.Perm S:=by
   classical
   rw[Zg];intro x;have G:∀L:List aD,L.count x=(L.filter (fun y=>decide (key y=key x))).count x:=fun L=>by
    rw[Zl (by simp)]
   rw[G Z,G S,h]
  rw[<-hp.length_eq];exact I
theorem Srt.perm{S Z:List aD}(h:Srt key S Z):Z.Perm S:=by
 classical
 rw[Zg];intro x;have G:∀L:List aD,L.count x=(L.filter (fun y=>decide (key y=key x))).count x:=fun L=>by
  rw[Zl (by simp)]
 rw[G Z,G S,h.fil]
theorem Srt.len{S Z:List aD}(h:Srt key S Z):Z.length=S.length:=(j52 _ Z S rfl h.fil).symm
theorem Srt.unique:∀{Z W:List aD},Z.Pairwise (fun x y=>key x<=key y)->W.Pairwise (fun x y=>key x<=key y)->(∀k:Int,Z.filter (fun x=>decide (key x=k))=W.filter (fun x=>decide (key x=k)))->Z=W
 |[],[],_,_,_=>rfl
 |[],y::r,_,_,h=>by have:=h (key y);simp at this
 |x::r,[],_,_,h=>by have:=h (key x);simp at this
 |x::r,y::q,h1,h2,h=>by
  obtain⟨a1,a2⟩:=Xp.1 h1;obtain⟨b1,b2⟩:=Xp.1 h2;have hk:key x=key y:=by
   have I:x∈(y::q).filter (fun z=>decide (key z=key x)):=by rw[<-h (key x)];simp
   have T:y∈(x::r).filter (fun z=>decide (key z=key y)):=by rw[h (key y)];simp
   have I:=(Yd.1 I).1;have T:=(Yd.1 T).1;have a6:key y<=key x:=by
    rcases Xi.1 I with rfl|I
    . exact Xw _
    exact b1 _ I
   have aj:key x<=key y:=by
    rcases Xi.1 T with rfl|T
    . exact Xw _
    exact a1 _ T
   omega
  have hx:x=y:=by
   have:=h (key x);rw[Xr (by simp),Xr (by simp[hk])]at this;exact (List.cons.inj this).1
  subst hx;rw[Srt.unique a2 b2 fun k=>?_];have:=h k
  by_cases G:key x=k
  . rw[Xr (by simpa using G),Xr (by simpa using G)]at this;exact (List.cons.inj this).2
  rw[Xy (by simpa using G),Xy (by simpa using G)]at this;exact this
theorem z96{L:List aD}{k:Int}(h:∀x∈L,key x≠k):L.filter (fun x=>decide (key x=k))=[]:=Y7.2 fun x G=>by simpa using h x G
theorem zi8{X Y:List aD}(h:∀x∈X,∀y∈Y,key y<key x)(k:Int):Y.filter (fun x=>decide (key x=k))++X.filter (fun x=>decide (key x=k))=X.filter (fun x=>decide (key x=k))++Y.filter (fun x=>decide (key x=k)):=by
 by_cases G:∃y∈Y,key y=k
 . obtain⟨y,G,W⟩:=G;rw[z96 (L:=X) fun x T e=>by have:=h x T y G;omega];simp
 rw[z96 (L:=Y) fun y I e=>G ⟨y,I,e⟩];simp
theorem swp(P Q:List aD)(x y:aD):((P++x::y::Q).set P.length y).set (P.length+1) x=P++y::x::Q:=by
 rw[bL];have:P++y::y::Q=(P++[y])++y::Q:=by simp
 rw[this,show P.length+1=(P++[y]).length by simp,bL];simp
theorem get_at{P Q:List aD}{x:aD}{i:Nat}(hi:i=P.length)(h:i<(P++x::Q).length):(P++x::Q)[i]=x:=by
 subst hi;exact zt1 P Q x h
theorem ze9{L:List aD}(h:L.Pairwise fun x y=>key x<=key y){s:Nat}(I:s<L.length):∀x∈L.drop s,key L[s]<=key x:=fun x G=>by
 rw[Xt I]at G;rcases Xi.1 G with rfl|G
 . exact Xw _
 have:=h.sublist (Zm s L);rw[Xt I]at this;exact (Xp.1 this).1 x G
theorem zd4{L:List aD}(h:L.Pairwise fun x y=>key x<=key y){s:Nat}(I:s<L.length):∀x∈L.take (s+1),key x<=key L[s]:=fun x G=>by
 rw[Xd I]at G;rcases Xm.1 G with G|G
 . have:=h.sublist (Zn (s+1) L);rw[Xd I]at this;exact (Xf.1 this).2.2 x G _ (by simp)
 simp at G;rw[G];exact Xw _
variable {cmp:aD->aD->Option Int} (hc:∀x y,∃n,cmp x y=some n/\(n<0↔key x<key y))
include hc
theorem j1w{A B:List aD}:∀{S:List aD},(A++S++B).length<1000000000->Ok (q11 (A++S++B) (A.length:Int) (((A++S).length:Nat):Int) cmp) (fun r=>∃Z,r=A++Z++B/\Srt key S Z):=by
 intro S hn;simp only[Xa]at hn;unfold q11;rw[wrap_i64 _ (by omega)]
 by_cases hS:S=[]
 . subst hS;refine k3p (fun s=>s=((A.length:Int)+1,A++[]++B)) (fun _=>0) ?_ rfl (by simp only[rounds];omega);rintro rec _ rfl hr;unfold q2u;dsimp only;rw[if_neg (by simp;omega)];exact Ok.some ⟨[],rfl,Srt.refl List.Pairwise.nil⟩
 have b6:0<S.length:=Yc.2 hS;refine k3p (fun s=>∃i:Nat,∃P:List aD,s=(((A.length+i:Nat):Int),A++P++S.drop i++B)/\1<=i/\i<=S.length/\Srt key (S.take i) P) (fun s=>(A.length+S.length)-s.1.toNat) ?_
  ⟨1,S.take 1,by rw[Xc A (S.take 1),Xj];simp,Xh _,b6,Srt.refl (by
   have:(S.take 1).length<=1:=by rw[List.length_take];omega
   match S.take 1,this with
   |[],_=>exact List.Pairwise.nil
   |[x],_=>exact List.pairwise_singleton _ _
   |_::_::_,h=>simp at h)⟩ (by simp only[rounds];omega)
 rintro rec _ ⟨i,P,rfl,h1,h2,hP⟩ hr;have b2:P.length=i:=by rw[hP.len,Xg];omega
 unfold q2u;dsimp only;refine k3n (fun hx=>?_) (fun hx=>?_)
 rotate_left
 .
  have hx:¬i<S.length:=by simp only[decide_eq_false_iff_not,Xa]at hx;omega
  obtain rfl:i=S.length:=by omega
  refine Ok.some ⟨P,by rw[Yj];simp,?_⟩;rw[Xs]at hP;exact hP
 have hx:i<S.length:=by simp only[decide_eq_true_eq,Xa]at hx;omega
 rw[Xt hx]
 generalize bi:S[i]=x
 refine k3p (fun s=>∃W I:List aD,s=(((A.length+W.length:Nat):Int),A++W++x::I++S.drop (i+1)++B)/\W++I=P/\∀y∈I,key x<key y) (fun s=>s.1.toNat) ?_ ⟨P,[],by rw[b2];simp,by simp,by simp⟩ (by simp only[rounds];omega);rintro c1 _ ⟨W,I,rfl,a6,an⟩ bs;have ao:W.length+I.length=i:=by rw[<-b2,<-a6,Xa]
 have aj:(W++I).Pairwise fun x y=>key x<=key y:=by rw[a6];exact hP.inc
 have aq:(∀y∈W,key y<=key x)->Ok (rec (IntKind.i64.wrap (((A.length+i:Nat):Int)+1),A++W++x::I++S.drop (i+1)++B)) (fun r=>∃Z,r=A++Z++B/\Srt key S Z):=fun bv=>by
  rw[wrap_i64 _ (by omega)];refine hr _ ⟨i+1,W++x::I,by simp only[Xc];congr 1,by omega,hx,?_,?_⟩ (by dsimp only;omega)
  .
   obtain⟨q1,q2,q3⟩:=Xf.1 aj;refine Xf.2 ⟨q1,Xp.2 ⟨fun y G=>Yv (an y G),q2⟩,fun a ha b hb=>?_⟩;rcases Xi.1 hb with rfl|hb
   . exact bv a ha
   exact q3 a ha b hb
  intro k;rw[Xd hx,bi,Xl,Xl,<-hP.fil k,<-a6,Xl,Xc]
  congr 1
  by_cases hk:key x=k
  . rw[z96 (L:=I) fun y G e=>by have:=an y G;omega,Xr (by simpa using hk),z96 (L:=I) fun y G e=>by have:=an y G;omega];simp[hk]
  rw[Xy (by simpa using hk)];simp[hk]
 unfold q4a;dsimp only;refine k3n (fun G=>?_) (fun G=>aq ?_)
 rotate_left
 . simp only[decide_eq_false_iff_not]at G;have:W=[]:=Xo (by omega);rw[this];simp
 simp only[decide_eq_true_eq]at G;rcases List.eq_nil_or_concat W with rfl|⟨T,z,rfl⟩
 . simp at G
 rw[List.concat_eq_append]at a6 ao aj aq⊢;simp only[Xa,Xk,X6,Nat.zero_add]at ao;have hw:IntKind.i64.wrap (((A.length+(T++[z]).length:Nat):Int)-1)=((A.length+T.length:Nat):Int):=by rw[wrap_i64 _ (by simp;omega)];simp;omega
 rw[hw];have ak:A++(T++[z])++x::I++S.drop (i+1)++B=(A++T)++z::x::(I++S.drop (i+1)++B):=by simp only[Xc,Xq,Xu]
 have c2:((A++T)++z::x::(I++S.drop (i+1)++B)).length=A.length+S.length+B.length:=by
  simp only[Xa,Xk,Xv];omega
 have ar:(A++T).length=A.length+T.length:=Xa;rw[ak];have b3:A.length+(T++[z]).length=A.length+T.length+1:=by simp;omega
 rw[b3];have g1:((A++T)++z::x::(I++S.drop (i+1)++B))[A.length+T.length+1]'(by omega)=x:=by
  have:((A++T)++z::x::(I++S.drop (i+1)++B))=(A++T++[z])++x::(I++S.drop (i+1)++B):=by simp
  simp only[this];exact get_at (by simp;omega) _
 have g2:((A++T)++z::x::(I++S.drop (i+1)++B))[A.length+T.length]'(by omega)=z:=get_at (by rw[ar]) _;refine Ok.bind (k3o (by omega) (Ok.bind (k3o (by omega) ?_)));rw[g1,g2];obtain⟨n,c0,b4⟩:=hc x z;rw[c0];refine Ok.bind (Ok.some (k3n (fun b1=>?_) (fun b5=>?_)))
 .
  have b1:=b4.1 (by simpa using b1);refine Ok.bind (k3o (by rw[Ym];omega) ?_);rw[Xe,Xe,List.set_comm _ _ (by omega),<-ar,swp];refine bs _ ⟨T,x::I |>.tail.cons z,by simp[ar],by rw[<-a6];simp,fun y G=>?_⟩ (by dsimp only;simp only[Xe,Xa];simp;try omega);simp only[List.tail_cons,Xi]at G;rcases G with rfl|G
  . exact b1
  exact an y G
 have b5:¬key x<key z:=fun h=>by have:=b4.2 h;simp at b5;omega
 rw[<-ak];refine aq fun y G=>?_;obtain⟨q1,_,_⟩:=Xf.1 aj;rcases Xm.1 G with G|G
 . have:=(Xf.1 q1).2.2 y G z (by simp);omega
 simp at G;rw[G];omega
end
end SO
end
section
open Go Go.RowKit
namespace SO
section
variable {key:aD->Int}
abbrev Inc(key:aD->Int)(L:List aD):Prop:=L.Pairwise fun x y=>key x<=key y
theorem gX{A X R:List aD}{i:Nat}(G:A.length<=i)(I:i<A.length+X.length)(h:i<(A++X++R).length):(A++X++R)[i]=X[i-A.length]'(by omega):=by
 rw[List.getElem_append_left (by rw[Xa];omega),Ys G]
theorem jq0{x:aD}{Y:List aD}(W:Inc key Y){t:Nat}(I:∀y∈Y.take t,key y<key x)(Z:∀y∈Y.drop t,key x<=key y):Srt key ([x]++Y) (Y.take t++x::Y.drop t):=by
 have T:=W;rw[<-Xj t Y]at T;obtain⟨q1,q2,q3⟩:=Xf.1 T;refine⟨Xf.2 ⟨q1,Xp.2 ⟨Z,q2⟩,fun a G b hb=>?_⟩,fun k=>?_⟩
 .
  rcases Xi.1 hb with rfl|hb
  . exact Yv (I a G)
  exact q3 a G b hb
 have:=zi8 (key:=key) (X:=[x]) (Y:=Y.take t) (fun a G b hb=>by simp at G;rw[G];exact I b hb) k;have e:x::Y.drop t=[x]++Y.drop t:=rfl;rw[e,Xl,Xl,<-Xc,this,Xc,<-Xl,Xj,Xl]
theorem je1{y:aD}{X:List aD}(W:Inc key X){t:Nat}(Z:∀x∈X.take t,key x<=key y)(I:∀x∈X.drop t,key y<key x):Srt key (X++[y]) (X.take t++y::X.drop t):=by
 have T:=W;rw[<-Xj t X]at T;obtain⟨q1,q2,q3⟩:=Xf.1 T;refine⟨Xf.2 ⟨q1,Xp.2 ⟨fun x hx=>Yv (I x hx),q2⟩,fun a G b hb=>?_⟩,fun k=>?_⟩
 .
  rcases Xi.1 hb with rfl|hb
  . exact Z a G
  exact q3 a G b hb
 have:=zi8 (key:=key) (X:=X.drop t) (Y:=[y]) (fun a G b hb=>by simp at hb;rw[hb];exact I a G) k;have e:y::X.drop t=[y]++X.drop t:=rfl;rw[e,Xl,Xl,this,<-Xc,<-Xl,Xj,Xl]
theorem zx0{I T W Z Z1 Z2:List aD}(hX:Inc key (I++T))(hY:Inc key (W++Z))(h1:∀x∈T,∀y∈W,key y<key x)(h2:∀x∈I,∀y∈Z,key x<=key y)(z1:Srt key (I++W) Z1)(z2:Srt key (T++Z) Z2):
 Srt key ((I++T)++(W++Z)) (Z1++Z2):=by
 obtain⟨_,_,a3⟩:=Xf.1 hX;obtain⟨_,_,b3⟩:=Xf.1 hY;refine⟨Xf.2 ⟨z1.inc,z2.inc,fun a G b hb=>?_⟩,fun k=>?_⟩
 .
  rcases Xm.1 ((z1.mem a).1 G)with G|G<;>rcases Xm.1 ((z2.mem b).1 hb)with hb|hb
  . exact a3 a G b hb
  . exact h2 a G b hb
  . exact Yv (h1 b hb a G)
  exact b3 a G b hb
 have:=zi8 (key:=key) h1 k;rw[Xl,z1.fil,z2.fil];simp only[Xl,Xc]
 congr 1
 rw[<-Xc,this,Xc]
variable {cmp:aD->aD->Option Int} (hc:∀x y,∃n,cmp x y=some n/\(n<0↔key x<key y))
include hc
set_option maxHeartbeats 4000000 in
theorem z6w:∀(n:Nat) {A X Y B data:List aD} {a m b:Nat},data=A++X++Y++B->a=A.length->m=a+X.length->b=m+Y.length->X≠[]->Y≠[]->Inc key X->Inc key Y->data.length<1000000000->b-a<n->
 Ok (q0f n data (a:Int) (m:Int) (b:Int) cmp) (fun r=>∃Z,r=A++Z++B/\Srt key (X++Y) Z)
 |0,_,_,_,_,_,_,_,_,_,_,_,_,_,_,_,_,_,h=>absurd h (by omega)
 |n+1,A,X,Y,B,data,a,m,b,G,ha,cp,dd,d0,d1,hX,hY,h4,h5=>by
  have ds:=Yc.2 d0;have dI:=Yc.2 d1;have dJ:data.length=b+B.length:=by rw[G];simp only[Xa];omega
  have h1:a<m:=by omega
  have h2:m<b:=by omega
  have h3:b<=data.length:=by omega
  have gx:∀i (_:a<=i) (h2:i<m) (h:i<data.length),data[i]=X[i-a]'(by omega):=fun i q1 q2 h=>by
   subst G ha;have e:A++X++Y++B=A++X++(Y++B):=by simp
   simp only[e];exact gX q1 (by omega) _
  have gy:∀i (_:m<=i) (h2:i<b) (h:i<data.length),data[i]=Y[i-m]'(by omega):=fun i q1 q2 h=>by
   subst G;have:=gX (A:=A++X) (X:=Y) (R:=B) (i:=i) (by rw[Xa];omega) (by rw[Xa];omega) h;rw[this]
   congr 1
   rw[Xa];omega
  show Ok (q2m (q0f n) data a m b cmp) _
  unfold q2m;rw[wrap_i64 ((m:Int)-a) (by omega)];refine k3n (fun hm=>?_) (fun hm=>?_)
  .
   simp only[beq_iff_eq]at hm;obtain⟨x,rfl⟩:∃x,X=[x]:=Y8.1 (by omega);have dK:m=a+1:=by omega
   have T:data[a]'(by omega)=x:=by rw[gx a (Xh _) h1];simp
   refine k3p (fun s=>∃i j:Nat,s=((i:Int),(j:Int))/\m<=i/\i<=j/\j<=b/\(∀y∈Y.take (i-m),key y<key x)/\(∀y∈Y.drop (j-m),key x<=key y)) (fun s=>(s.2-s.1).toNat) ?_ ⟨m,b,rfl,by omega,by omega,by omega,by simp,by rw[X7 (by omega)];simp⟩ (by simp only[rounds];omega);rintro rec _ ⟨i,j,rfl,g1,g2,g3,g4,g5⟩ hr;unfold q5i;dsimp only;rw[BG.half i j (by omega)];refine k3n (fun I=>?_) (fun I=>?_)
   .
    simp only[decide_eq_true_eq]at I;refine Ok.bind (k3o (show (i+j)/2<data.length by omega) (Ok.bind (k3o (show a<data.length by omega) ?_)));obtain⟨c,b2,W⟩:=hc (data[(i+j)/2]'(by omega)) (data[a]'(by omega));have hy:=gy ((i+j)/2) (by omega) (by omega) (by omega);rw[b2,wrap_i64 _ (by omega)];rw[T,hy]at W;refine Ok.bind (Ok.some (k3n (fun aq=>hr _ ⟨(i+j)/2+1,j,by simp,by omega,by omega,g3,fun y a6=>?_,g5⟩ (by dsimp only;omega)) (fun ak=>hr _ ⟨i,(i+j)/2,rfl,g1,by omega,by omega,g4,fun y a6=>?_⟩ (by dsimp only;omega))))
    . have aq:=W.1 (by simpa using aq);have:=zd4 hY (s:=(i+j)/2-m) (by omega) y (by rw[show (i+j)/2-m+1=(i+j)/2+1-m by omega];exact a6);omega
    have ak:¬key (Y[(i+j)/2-m]'(by omega))<key x:=fun h=>by have:=W.2 h;simp at ak;omega
    have:=ze9 hY (s:=(i+j)/2-m) (by omega) y a6;omega
   have b3:i=j:=by simp only[decide_eq_false_iff_not]at I;omega
   subst b3;unfold q3f;have dL:Y.length=b-m:=by omega
   refine k3p (fun s=>∃u:Nat,s=(((a+u:Nat):Int),A++Y.take u++x::Y.drop u++B)/\u<=i-m) (fun s=>(i:Nat)-s.1.toNat) ?_ ⟨0,by rw[G];simp,by omega⟩ (by simp only[rounds];omega);rintro c3 _ ⟨u,rfl,hu⟩ an;unfold q5j;dsimp only;rw[wrap_i64 ((i:Int)-1) (by omega)];refine k3n (fun hy=>?_) (fun hy=>?_)
   .
    simp only[decide_eq_true_eq]at hy;have c4:u<Y.length:=by omega
    have hw:IntKind.i64.wrap (((a+u:Nat):Int)+1)=((a+u+1:Nat):Int):=by rw[wrap_i64 _ (by omega)];omega
    rw[hw,Xt c4];have ar:A++Y.take u++x::Y[u]::Y.drop (u+1)++B=(A++Y.take u)++x::Y[u]::(Y.drop (u+1)++B):=by simp only[Xc,Xq]
    have ao:(A++Y.take u).length=a+u:=by rw[Xa,Xg];omega
    have c5:((A++Y.take u)++x::Y[u]::(Y.drop (u+1)++B)).length=data.length:=by
     rw[G];simp only[Xa,Xk,Xv,Xg,X6];omega
    rw[ar];have k1:((A++Y.take u)++x::Y[u]::(Y.drop (u+1)++B))[a+u+1]'(by omega)=Y[u]:=by
     have:((A++Y.take u)++x::Y[u]::(Y.drop (u+1)++B))=(A++Y.take u++[x])++Y[u]::(Y.drop (u+1)++B):=by simp
     simp only[this];exact get_at (by rw[Xa,ao];rfl) _
    have k2:((A++Y.take u)++x::Y[u]::(Y.drop (u+1)++B))[a+u]'(by omega)=x:=get_at ao.symm _;refine Ok.bind (k3o (by omega) (Ok.bind (k3o (by omega) (Ok.bind (k3o (by rw[Ym];omega) ?_)))));rw[k1,k2,Xe,Xe,<-ao,swp];refine an _ ⟨u+1,?_,by omega⟩ (by dsimp only;simp only[Xe];omega);rw[Xd c4,ao];simp only[Xc,Xq,Xu];rfl
   have c0:u=i-m:=by simp only[decide_eq_false_iff_not]at hy;omega
   subst c0;exact Ok.some ⟨_,by simp only[Xc,Xq],jq0 hY g4 g5⟩
  simp only[beq_eq_false_iff_ne,ne_eq]at hm;unfold q3o;rw[wrap_i64 ((b:Int)-m) (by omega)];refine k3n (fun c1=>?_) (fun c1=>?_)
  .
   simp only[beq_iff_eq]at c1;obtain⟨y,rfl⟩:∃y,Y=[y]:=Y8.1 (by omega);have d2:data[m]'(by omega)=y:=by rw[gy m (Xh _) h2];simp
   refine k3p (fun s=>∃i j:Nat,s=((i:Int),(j:Int))/\a<=i/\i<=j/\j<=m/\(∀x∈X.take (i-a),key x<=key y)/\(∀x∈X.drop (j-a),key y<key x)) (fun s=>(s.2-s.1).toNat) ?_ ⟨a,m,rfl,by omega,by omega,by omega,by simp,by rw[X7 (by omega)];simp⟩ (by simp only[rounds];omega);rintro rec _ ⟨i,j,rfl,g1,g2,g3,g4,g5⟩ hr;unfold q5k;dsimp only;rw[BG.half i j (by omega)];refine k3n (fun T=>?_) (fun T=>?_)
   .
    simp only[decide_eq_true_eq]at T;refine Ok.bind (k3o (show m<data.length by omega) (Ok.bind (k3o (show (i+j)/2<data.length by omega) ?_)));obtain⟨c,b2,W⟩:=hc (data[m]'(by omega)) (data[(i+j)/2]'(by omega));have d3:=gx ((i+j)/2) (by omega) (by omega) (by omega);rw[b2,wrap_i64 _ (by omega)];rw[d2,d3]at W;refine Ok.bind (Ok.some (k3n (fun ak=>hr _ ⟨(i+j)/2+1,j,by simp,by omega,by omega,g3,fun x I=>?_,g5⟩ (by dsimp only;omega)) (fun aq=>hr _ ⟨i,(i+j)/2,rfl,g1,by omega,by omega,g4,fun x I=>?_⟩ (by dsimp only;omega))))
    .
     have ak:¬key y<key (X[(i+j)/2-a]'(by omega)):=fun h=>by have:=W.2 h;simp at ak;omega
     have:=zd4 hX (s:=(i+j)/2-a) (by omega) x (by rw[show (i+j)/2-a+1=(i+j)/2+1-a by omega];exact I);omega
    have aq:=W.1 (by simpa using aq);have:=ze9 hX (s:=(i+j)/2-a) (by omega) x I;omega
   have b3:i=j:=by simp only[decide_eq_false_iff_not]at T;omega
   subst b3;unfold q3m;refine k3p (fun s=>∃u:Nat,s=(((a+u:Nat):Int),A++X.take u++y::X.drop u++B)/\i-a<=u/\u<=X.length) (fun s=>s.1.toNat) ?_ ⟨X.length,by rw[G,Xs,Yj,cp],by omega,Xh _⟩ (by simp only[rounds];omega);rintro c3 _ ⟨u,rfl,hu,dM⟩ an;unfold q60;dsimp only;refine k3n (fun hy=>?_) (fun hy=>?_)
   .
    simp only[decide_eq_true_eq]at hy;obtain⟨v,rfl⟩:∃v,u=v+1:=⟨u-1,by omega⟩;have c6:v<X.length:=by omega
    have hw:IntKind.i64.wrap (((a+(v+1):Nat):Int)-1)=((a+v:Nat):Int):=by rw[wrap_i64 _ (by omega)];omega
    rw[hw,Xd c6];have ar:A++(X.take v++[X[v]])++y::X.drop (v+1)++B=(A++X.take v)++X[v]::y::(X.drop (v+1)++B):=by simp only[Xc,Xq,Xu]
    have ao:(A++X.take v).length=a+v:=by rw[Xa,Xg];omega
    have c5:((A++X.take v)++X[v]::y::(X.drop (v+1)++B)).length=data.length:=by
     rw[G];simp only[Xa,Xk,Xv,Xg,X6];omega
    rw[ar];have k1:((A++X.take v)++X[v]::y::(X.drop (v+1)++B))[a+(v+1)]'(by omega)=y:=by
     have:((A++X.take v)++X[v]::y::(X.drop (v+1)++B))=(A++X.take v++[X[v]])++y::(X.drop (v+1)++B):=by simp only[Xc,Xq,Xu]
     simp only[this];exact get_at (by rw[Xa,ao];rfl) _
    have k2:((A++X.take v)++X[v]::y::(X.drop (v+1)++B))[a+v]'(by omega)=X[v]:=get_at ao.symm _;refine Ok.bind (k3o (by omega) (Ok.bind (k3o (by omega) (Ok.bind (k3o (by rw[Ym];omega) ?_)))));rw[k1,k2,Xe,Xe,List.set_comm _ _ (by omega),<-ao,show a+(v+1)=(A++X.take v).length+1 by omega,swp];refine an _ ⟨v,?_,by omega,by omega⟩ (by dsimp only;simp only[Xe];omega);rw[Xt c6,ao];simp only[Xc,Xq]
   have c0:u=i-a:=by simp only[decide_eq_false_iff_not]at hy;omega
   subst c0;exact Ok.some ⟨_,by simp only[Xc,Xq],je1 hX g4 g5⟩
  simp only[beq_eq_false_iff_ne,ne_eq]at c1;obtain⟨d,hd⟩:∃d,d=(a+b)/2:=⟨_,rfl⟩;have aj:IntKind.i64.wrap (q2e .u64 (IntKind.u64.wrap (IntKind.i64.wrap ((a:Int)+(b:Int)))) 1)=(d:Int):=by rw[BG.half a b (by omega),hd]
  have dN:a+2<=d/\d+2<=b:=by omega
  have bi:IntKind.i64.wrap ((d:Int)+(m:Int))=((d+m:Nat):Int):=by rw[wrap_i64 _ (by omega)];omega
  have j4:∀(s:Nat),a<=s->s<=m->s<=d->d+m-s<=b->(∀x∈X.drop (s-a),∀y∈Y.take (d-s),key y<key x)->(∀x∈X.take (s-a),∀y∈Y.drop (d-s),key x<=key y)->
   Ok (q2f data (a:Int) (m:Int) (b:Int) cmp (q0f n) (s:Int)) (fun r=>∃Z,r=A++Z++B/\Srt key (X++Y) Z):=fun s s1 s2 s3 s4 p1 p2=>by
   obtain⟨e,he⟩:∃e,e=d+m-s:=⟨_,rfl⟩;have c7:IntKind.i64.wrap (((d+m:Nat):Int)-(s:Int))=(e:Int):=by rw[wrap_i64 _ (by omega)];omega
   have eX:X=X.take (s-a)++X.drop (s-a):=(Xj _ _).symm;have eY:Y=Y.take (d-s)++Y.drop (d-s):=(Xj _ _).symm;have c2:(X.take (s-a)).length=s-a:=by rw[Xg];omega
   have b4:(X.drop (s-a)).length=m-s:=by rw[Xv];omega
   have b5:(Y.take (d-s)).length=d-s:=by rw[Xg];omega
   have c8:(Y.drop (d-s)).length=b-e:=by rw[Xv];omega
   have bs:=hX;have bv:=hY;rw[eX]at bs;rw[eY]at bv;rw[eX,eY];rw[eX,eY]at G
   generalize X.take (s-a)=X1 at*
   generalize X.drop (s-a)=X2 at*
   generalize Y.take (d-s)=Y1 at*
   generalize Y.drop (d-s)=Y2 at*
   obtain⟨c9,cb,_⟩:=Xf.1 bs;obtain⟨cc,cd,_⟩:=Xf.1 bv;have j6:∀(q Z1:List aD),Srt key (X1++Y1) Z1->q=A++Z1++X2++Y2++B->Ok (q1m (a:Int) (m:Int) (b:Int) cmp (q0f n) (s:Int) q) (fun r=>∃Z,r=A++Z++B/\Srt key ((X1++X2)++(Y1++Y2)) Z):=fun q Z1 hZ hq=>by
    have lZ:Z1.length=d-a:=by rw[hZ.len,Xa];omega
    unfold q1m;rw[aj,bi,c7];refine k3n (fun T=>?_) (fun T=>?_)
    .
     simp only[X5,decide_eq_true_eq]at T;have d4:q.length=data.length:=by rw[hq,G];simp only[Xa];omega
     refine k3m (z6w n (A:=A++Z1) (X:=X2) (Y:=Y2) (B:=B) (data:=q) (a:=d) (m:=e) (b:=b) hq (by rw[Xa];omega) (by omega) (by omega) (fun h=>by rw[h]at b4;simp at b4;omega) (fun h=>by rw[h]at c8;simp at c8;omega) cb cd (by omega) (by omega)) fun r hr=>?_;obtain⟨Z2,b6,an⟩:=hr;refine Ok.guard ?_ (Ok.some ⟨Z1++Z2,by rw[b6];simp only[Xc],zx0 bs bv p1 p2 hZ an⟩);rw[b6,hq];have:=an.len;simp only[Xa]at this⊢;omega
    refine Ok.some ⟨Z1++(X2++Y2),by rw[hq];simp only[Xc],zx0 bs bv p1 p2 hZ (Srt.refl ?_)⟩;simp only[Yk,decide_eq_false_iff_not]at T;rcases Yo X2.length with h0|h0
    . rw[Xo h0];exact cd
    rw[Xo (show Y2.length=0 by omega),Xz];exact cb
   have j5:∀(q:List aD),q=A++X1++Y1++X2++Y2++B->Ok (q1n (a:Int) (m:Int) (b:Int) cmp (q0f n) (s:Int) q) (fun r=>∃Z,r=A++Z++B/\Srt key ((X1++X2)++(Y1++Y2)) Z):=fun q hq=>by
    unfold q1n;rw[aj];refine k3n (fun T=>?_) (fun T=>?_)
    .
     simp only[X5,decide_eq_true_eq]at T;have d4:q.length=data.length:=by rw[hq,G];simp only[Xa];omega
     refine k3m (z6w n (A:=A) (X:=X1) (Y:=Y1) (B:=X2++Y2++B) (data:=q) (a:=a) (m:=s) (b:=d) (by rw[hq];simp only[Xc]) ha (by omega) (by omega) (fun h=>by rw[h]at c2;simp at c2;omega) (fun h=>by rw[h]at b5;simp at b5;omega) c9 cc (by omega) (by omega)) fun r hr=>?_;obtain⟨Z1,b6,an⟩:=hr;refine Ok.guard ?_ (j6 r Z1 an (by rw[b6];simp only[Xc]));rw[b6,hq];have:=an.len;simp only[Xa]at this⊢;omega
    refine j6 q (X1++Y1) (Srt.refl ?_) (by rw[hq];simp only[Xc]);simp only[Yk,decide_eq_false_iff_not]at T;rcases Yo X1.length with h0|h0
    . rw[Xo h0];exact cc
    rw[Xo (show Y1.length=0 by omega),Xz];exact c9
   unfold q2f;rw[aj,bi,c7];refine k3n (fun T=>?_) (fun T=>?_)
   .
    simp only[X5,decide_eq_true_eq]at T;have cl:data=(A++X1)++X2++Y1++(Y2++B):=by rw[G];simp only[Xc]
    have b1:=j8c (cmp:=cmp) (A:=A++X1) (X:=X2) (Y:=Y1) (B:=Y2++B) (fun h=>by rw[h]at b4;simp at b4;omega) (fun h=>by rw[h]at b5;simp at b5;omega) (by rw[<-cl];omega);rw[<-cl]at b1;simp only[Xa,c2,b4,b5]at b1;rw[<-ha,show a+(s-a)=s by omega,show s+(m-s)=m by omega,show m+(d-s)=e by omega]at b1;refine k3m b1 fun r hr=>Ok.guard ?_ (j5 r (by rw[hr];simp only[Xc]));rw[hr,G];simp only[Xa];omega
   refine j5 data ?_;simp only[Yk,decide_eq_false_iff_not]at T;rw[G];rcases Yo X2.length with h0|h0
   . rw[Xo h0];simp only[Xc,Xz,Xu]
   rw[Xo (show Y1.length=0 by omega)];simp only[Xc,Xz,Xu]
  have j3:∀(lo hi:Nat),a<=lo->lo<=hi->hi<=m->hi<=d->d+m-lo<=b->(∀x∈X.take (lo-a),∀y∈Y.drop (d-lo),key x<=key y)->(∀x∈X.drop (hi-a),∀y∈Y.take (d-hi),key y<key x)->
   Ok (q1o data (a:Int) (m:Int) (b:Int) cmp (q0f n) (lo:Int) (hi:Int)) (fun r=>∃Z,r=A++Z++B/\Srt key (X++Y) Z):=fun lo hi g0 g1 g2 dO g3 hA hB=>by
   unfold q1o;refine k3p (fun s=>∃i j:Nat,s=((i:Int),(j:Int))/\lo<=i/\i<=j/\j<=hi/\(∀x∈X.take (i-a),∀y∈Y.drop (d-i),key x<=key y)/\(∀x∈X.drop (j-a),∀y∈Y.take (d-j),key y<key x)) (fun s=>(s.2-s.1).toNat) ?_ ⟨lo,hi,rfl,Xh _,g1,Xh _,hA,hB⟩ (by simp only[rounds];omega);rintro rec _ ⟨i,j,rfl,f1,f2,f3,pA,pB⟩ hr;unfold q61;dsimp only;rw[aj,bi,BG.half i j (by omega)];refine k3n (fun T=>?_) (fun T=>?_)
   .
    simp only[decide_eq_true_eq]at T;have d5:IntKind.i64.wrap (((d+m:Nat):Int)-1)=((d+m-1:Nat):Int):=by rw[wrap_i64 _ (by omega)];omega
    have d6:IntKind.i64.wrap (((d+m-1:Nat):Int)-(((i+j)/2:Nat):Int))=((d+m-1-(i+j)/2:Nat):Int):=by rw[wrap_i64 _ (by omega)];omega
    rw[d5,d6];refine Ok.bind (k3o (show d+m-1-(i+j)/2<data.length by omega) (Ok.bind (k3o (show (i+j)/2<data.length by omega) ?_)));obtain⟨c,b2,W⟩:=hc (data[d+m-1-(i+j)/2]'(by omega)) (data[(i+j)/2]'(by omega));rw[gy (d+m-1-(i+j)/2) (by omega) (by omega) (by omega),gx ((i+j)/2) (by omega) (by omega) (by omega)]at W;rw[b2,wrap_i64 _ (by omega)];have tk:=fun x I=>zd4 hX (s:=(i+j)/2-a) (by omega) x I;have dk:=fun y a6=>ze9 hY (s:=d+m-1-(i+j)/2-m) (by omega) y a6;have d7:=fun y a6=>zd4 hY (s:=d+m-1-(i+j)/2-m) (by omega) y a6;have d8:=fun x I=>ze9 hX (s:=(i+j)/2-a) (by omega) x I;refine Ok.bind (Ok.some (k3n (fun ak=>hr _ ⟨(i+j)/2+1,j,by simp,by omega,by omega,f3,fun x I y a6=>?_,pB⟩ (by dsimp only;omega)) (fun aq=>hr _ ⟨i,(i+j)/2,rfl,f1,by omega,by omega,pA,fun x I y a6=>?_⟩ (by dsimp only;omega))))
    .
     have ak:¬(c<0):=by simpa using ak
     have ak:=fun h=>ak (W.2 h);have t1:=tk x (by rw[show (i+j)/2-a+1=(i+j)/2+1-a by omega];exact I);have t2:=dk y (by rw[show d+m-1-(i+j)/2-m=d-((i+j)/2+1) by omega];exact a6);omega
    have aq:=W.1 (by simpa using aq);have t1:=d8 x I;have t2:=d7 y (by rw[show d+m-1-(i+j)/2-m+1=d-(i+j)/2 by omega];exact a6);omega
   have b3:i=j:=by simp only[decide_eq_false_iff_not]at T;omega
   subst b3;exact j4 i (by omega) (by omega) (by omega) (by omega) pB pA
  unfold q3n;rw[aj,bi];refine k3n (fun T=>?_) (fun T=>?_)
  .
   simp only[decide_eq_true_eq]at T;have dc:IntKind.i64.wrap (((d+m:Nat):Int)-(b:Int))=((d+m-b:Nat):Int):=by rw[wrap_i64 _ (by omega)];omega
   rw[dc];exact j3 (d+m-b) d (by omega) (by omega) (by omega) (by omega) (by omega) (by rw[X7 (l:=Y) (by omega)];simp) (by simp)
  simp only[decide_eq_false_iff_not]at T;exact j3 a m (by omega) (by omega) (by omega) (by omega) (by omega) (by simp) (by rw[X7 (l:=X) (by omega)];simp)
end
end SO
end
section
open Go Go.RowKit
namespace SO
section
variable {key:aD->Int}
def Blk(key:aD->Int)(v:Nat)(l:List aD):Prop:=∀k:Nat,Inc key ((l.drop (k*v)).take v)
theorem Blk.nil(v:Nat):Blk key v []:=fun k=>by simp
theorem Blk.app{v k:Nat}{L R:List aD}(h:Blk key v L)(W:L.length=k*v)(T:Inc key R)(Z:R.length<=v):Blk key v (L++R):=fun j=>by
 rcases Yw j k with G|G
 . have I:(j+1)*v<=k*v:=Zd _ G;rw[Zp,Zq]at I;rw[List.drop_append_of_le_length (by omega),List.take_append_of_le_length (by rw[Xv];omega)];exact h j
 have I:k*v<=j*v:=Zd _ G;rw[List.drop_append,X7 (l:=L) (by omega),Xu];exact T.sublist ((Zn _ _).trans (Zm _ _))
theorem Blk.drop{v:Nat}{L:List aD}(h:Blk key v L)(k:Nat):Blk key v (L.drop (k*v)):=fun j=>by
 rw[List.drop_drop,<-Zp];exact h (k+j)
theorem Blk.all{v:Nat}{L:List aD}(h:Blk key v L)(G:L.length<=v):Inc key L:=by
 have:=h 0;rw[Nat.zero_mul,List.drop_zero,Y9 G]at this;exact this
abbrev dn(key:aD->Int)(S Z:List aD):Prop:=∀k:Int,Z.filter (fun x=>decide (key x=k))=S.filter (fun x=>decide (key x=k))
variable {cmp:aD->aD->Option Int} (hc:∀x y,∃n,cmp x y=some n/\(n<0↔key x<key y))
include hc
theorem cA{data:List aD}(hn:data.length<100000000):Ok (q15 data cmp) (fun r=>Srt key data r):=by
 obtain⟨N,hN⟩:∃N,N=data.length:=⟨_,rfl⟩;have I:∀{Z:List aD},dn key data Z->Z.length=N:=fun {Z} h=>by rw[hN];exact (j52 _ Z data rfl h).symm
 unfold q15;refine k3m (P:=fun r=>Srt key data r) ?_ fun r hr=>Ok.guard hr.len (Ok.some hr);unfold q4u;rw[<-hN];refine k3p (fun s=>∃(k:Nat) (L R:List aD),s=(((k*20:Nat):Int),((k*20+20:Nat):Int),L++R)/\L.length=k*20/\k*20<=N/\Blk key 20 L/\dn key data (L++R)) (fun s=>N-s.1.toNat) ?_ ⟨0,[],data,rfl,rfl,X0 _,Blk.nil _,fun _=>rfl⟩ (by simp only[rounds];omega);rintro rec _ ⟨k,L,R,rfl,hL,hk,hB,hS⟩ hr;have T:=I hS;rw[Xa]at T
 have aj:∀(S R':List aD),R=S++R'->Ok (q11 (L++R) ((k*20:Nat):Int) ((k*20+S.length:Nat):Int) cmp) (fun r=>∃Z,r=L++Z++R'/\Srt key S Z):=fun S R' hR=>by
  have:=j1w (A:=L) (B:=R') (S:=S) hc (by rw[hR]at T;simp only[Xa]at T⊢;omega);rw[Xa,hL]at this;rw[hR,<-Xc];exact this
 have G:∀{S Z R':List aD},R=S++R'->Srt key S Z->dn key data ((L++Z)++R'):=fun {S Z R'} hR W q=>by
  rw[<-hS q,hR];simp only[Xl,W.fil q,Xc]
 unfold q6p;dsimp only;refine k3n (fun hx=>?_) (fun hx=>?_)
 .
  simp only[decide_eq_true_eq]at hx;have hR:R=R.take 20++R.drop 20:=(Xj _ _).symm;have an:(R.take 20).length=20:=by rw[Xg];omega
  have h1:=aj _ _ hR;rw[an]at h1;refine k3m h1 fun v hv=>?_;obtain⟨Z,rfl,W⟩:=hv;have a6:=W.len;rw[an]at a6;refine Ok.guard (by rw[I (G hR W)];rw[Xa];omega) ?_;have hw:IntKind.i64.wrap (((k*20+20:Nat):Int)+20)=((k*20+20+20:Nat):Int):=by rw[wrap_i64 _ (by omega)];omega
  rw[hw];refine hr _ ⟨k+1,L++Z,R.drop 20,by rw[show (k+1)*20=k*20+20 by omega],by rw[Xa];omega,by omega,hB.app hL W.inc (by omega),G hR W⟩ (by dsimp only;omega)
 simp only[decide_eq_false_iff_not]at hx;unfold q3y;have h1:=aj R [] (by simp);rw[show k*20+R.length=N by omega]at h1;refine k3m h1 fun v hv=>?_;obtain⟨Z,rfl,W⟩:=hv;have a6:=W.len;have aq:=G (R':=[]) (by simp) W;refine Ok.guard (by rw[I aq];rw[Xa];omega) ?_;have bv:Blk key 20 (L++Z):=hB.app hL W.inc (by omega);rw[Xz]at aq⊢;clear h1 aj G hr hS hB;refine k3p (fun s=>∃w:Nat,∃l:List aD,s=((w:Int),l)/\20<=w/\w<=400000000/\Blk key w l/\dn key data l) (fun s=>N-s.1.toNat) ?_ ⟨20,L++Z,rfl,by omega,by omega,bv,aq⟩ (by simp only[rounds];omega);rintro c3 _ ⟨w,l,rfl,g1,g2,b3,ar⟩ b4;have c5:=I ar;unfold q40;dsimp only;refine k3n (fun hx=>?_) (fun hx=>Ok.some ⟨b3.all ?_,ar⟩)
 rotate_left
 . simp only[decide_eq_false_iff_not]at hx;omega
 simp only[decide_eq_true_eq]at hx;have b5:IntKind.i64.wrap (2*(w:Int))=((2*w:Nat):Int):=by rw[wrap_i64 _ (by omega)];omega
 have c0:IntKind.i64.wrap ((w:Int)*2)=((2*w:Nat):Int):=by rw[wrap_i64 _ (by omega)];omega
 rw[b5];refine k3p (fun s=>∃(k:Nat) (L R:List aD),s=(((k*(2*w):Nat):Int),((k*(2*w)+2*w:Nat):Int),L++R)/\L.length=k*(2*w)/\k*(2*w)<=N/\Blk key (2*w) L/\Blk key w R/\dn key data (L++R)) (fun s=>N-s.1.toNat) ?_ ⟨0,[],l,by simp,by simp,by simp,Blk.nil _,b3,by rw[Xu];exact ar⟩ (by simp only[rounds];omega);rintro c4 _ ⟨k,L,R,rfl,hL,hk,hB,ak,hS⟩ c1;have T:=I hS;rw[Xa]at T;have c6:k*(2*w)<1000000000:=by omega
 have b6:IntKind.i64.wrap (((k*(2*w):Nat):Int)+(w:Int))=((k*(2*w)+w:Nat):Int):=by rw[wrap_i64 _ (by omega)];omega
 have ao:∀(X Y R':List aD),R=X++Y++R'->X≠[]->Y≠[]->Inc key X->Inc key Y->Ok (q48 (L++R) ((k*(2*w):Nat):Int) ((k*(2*w)+X.length:Nat):Int) ((k*(2*w)+X.length+Y.length:Nat):Int) cmp) (fun r=>∃Z,r=L++Z++R'/\Srt key (X++Y) Z):=fun X Y R' hR h1 h2 h3 h4=>
  z6w hc rounds (A:=L) (X:=X) (Y:=Y) (B:=R') (by rw[hR];simp only[Xc]) hL.symm rfl rfl h1 h2 h3 h4 (by rw[Xa];omega) (by rw[hR]at T;simp only[Xa]at T;simp only[rounds];omega)
 have G:∀{S Z R':List aD},R=S++R'->Srt key S Z->dn key data ((L++Z)++R'):=fun {S Z R'} hR W q=>by
  rw[<-hS q,hR];simp only[Xl,W.fil q,Xc]
 have bi:Inc key (R.take w):=by have:=ak 0;rw[Nat.zero_mul,List.drop_zero]at this;exact this
 have b1:Inc key ((R.drop w).take w):=by have:=ak 1;rw[Zq]at this;exact this
 unfold q6q;dsimp only;refine k3n (fun hy=>?_) (fun hy=>?_)
 .
  simp only[decide_eq_true_eq]at hy;rw[b6,b5];have l1:(R.take w).length=w:=by rw[Xg];omega
  have l2:((R.drop w).take w).length=w:=by rw[Xg,Xv];omega
  have hR:R=R.take w++(R.drop w).take w++R.drop (2*w):=by
   have e:R.drop (2*w)=(R.drop w).drop w:=by rw[List.drop_drop];congr 1;omega
   rw[e,Xc,Xj,Xj]
  have h1:=ao _ _ _ hR (fun h=>by rw[h]at l1;simp at l1;omega) (fun h=>by rw[h]at l2;simp at l2;omega) bi b1;rw[l1,l2,show k*(2*w)+w+w=k*(2*w)+2*w by omega]at h1;refine k3m h1 fun v hv=>?_;obtain⟨Z,rfl,W⟩:=hv;have a6:=W.len;rw[Xa,l1,l2]at a6;refine Ok.guard (by rw[I (G hR W)];rw[Xa];omega) ?_;have hw:IntKind.i64.wrap (((k*(2*w)+2*w:Nat):Int)+((2*w:Nat):Int))=((k*(2*w)+2*w+2*w:Nat):Int):=by rw[wrap_i64 _ (by omega)];omega
  rw[hw];have bs:(k+1)*(2*w)=k*(2*w)+2*w:=by rw[Zp,Zq]
  refine c1 _ ⟨k+1,L++Z,R.drop (2*w),by rw[bs],by rw[Xa,bs];omega,by omega,hB.app hL W.inc (by omega),ak.drop 2,G hR W⟩ (by dsimp only;omega)
 simp only[decide_eq_false_iff_not]at hy;unfold q3x;rw[b6,c0];refine k3n (fun hz=>?_) (fun hz=>?_)
 .
  simp only[decide_eq_true_eq]at hz;have l1:(R.take w).length=w:=by rw[Xg];omega
  have l2:(R.drop w).length=N-(k*(2*w)+w):=by rw[Xv];omega
  have c2:Inc key (R.drop w):=by rw[Y9 (by omega)]at b1;exact b1
  have hR:R=R.take w++R.drop w++[]:=by rw[Xz,Xj]
  have h1:=ao _ _ _ hR (fun h=>by rw[h]at l1;simp at l1;omega) (fun h=>by rw[h]at l2;simp at l2;omega) bi c2;rw[l1,l2,show k*(2*w)+w+(N-(k*(2*w)+w))=N by omega]at h1;refine k3m h1 fun v hv=>?_;obtain⟨Z,rfl,W⟩:=hv;have a6:=W.len;rw[Xa,l1,l2]at a6;have b2:=G hR W;refine Ok.guard (by rw[I b2];rw[Xa];omega) ?_;rw[Xz]at b2⊢;exact b4 _ ⟨2*w,L++Z,rfl,by omega,by omega,hB.app hL W.inc (by omega),b2⟩ (by dsimp only;omega)
 simp only[decide_eq_false_iff_not]at hz;exact b4 _ ⟨2*w,L++R,rfl,by omega,by omega,hB.app hL (ak.all (by omega)) (by omega),hS⟩ (by dsimp only;omega)
end
end SO
end
section
open Go Go.RowKit TS VA BG
namespace MN
open Classical
structure da(L:List Int)(es:List Int):Prop where
 inc:es.Pairwise (· <·)
 mem:∀x,x∈es↔x∈L
theorem da.unique{L G es':List Int}(h:da L G)(I:da L es'):G=es':=by
 have nd:∀{l:List Int},l.Pairwise (· <·)->l.Nodup:=fun h=>h.imp fun T e=>by omega
 have p:G.Perm es':=(List.perm_ext_iff_of_nodup (nd h.inc) (nd I.inc)).2 fun r=>(h.mem r).trans (I.mem r).symm;exact List.Perm.eq_of_pairwise (le:=(· <·)) (fun x y _ _ W Z=>by omega) h.inc I.inc p
theorem j2o{v:List Int}(hs:v.Pairwise (· <=·)):da v (Lib.compact v):=by
 have W:=List.pairwise_iff_getElem.1 hs;have ak:∀j,j<v.length->v.toArray[j]! =v.getD j 0:=fun j Z=>by
  rw[getElem!_pos v.toArray j (by simpa using Z)];simp[Yp,Z]
 have key:∀m,m<=v.length->(Lib.compactUpTo v.toArray m).Pairwise (· <·)/\∀x,x∈Lib.compactUpTo v.toArray m↔x∈v.take m:=by
  intro m
  induction m with
  |zero=>intro _;simp[Lib.compactUpTo]
  |succ m ih=>
   intro hm;obtain⟨h1,h2⟩:=ih (by omega);have G:m<v.length:=by omega
   have I:v.toArray[m]! =v[m]:=by rw[getElem!_pos v.toArray m (by simpa using G)];simp
   rw[Lib.compactUpTo_succ,Xd G]
   by_cases T:Lib.keeps v.toArray m=true
   .
    rw[if_pos T,I];refine⟨?_,fun x=>by simp only[Xm,h2]⟩;rw[Xf];refine⟨h1,by simp,fun x hx y hy=>?_⟩;rw[Yh]at hy;subst hy;obtain⟨j,Z,rfl⟩:=Ze.1 ((h2 x).1 hx);rw[Xg]at Z;rw[List.getElem_take];have a6:m≠0:=by omega
    have an:v[m]≠v[m-1]:=fun e=>by
     have aj:v.toArray[m-1]! =v[m-1]:=by rw[getElem!_pos v.toArray (m-1) (by simp;omega)];simp
     have:=Lib.keeps_neg (d:=v.toArray) (m:=m) (by omega) (by rw[I,aj,e]);rw[this]at T;cases T
    have e1:=W (m-1) m (by omega) G (by omega);rcases Yw j (m-1)with h|h
    . have e2:=W j (m-1) (by omega) (by omega) h;omega
    have:j=m-1:=by omega
    subst this;omega
   rw[if_neg T,Xz];refine⟨h1,fun x=>?_⟩;rw[h2,Xm];refine⟨.inl,fun h=>h.elim id fun hx=>?_⟩;rw[Yh]at hx;have a6:m≠0:=fun e=>by subst e;exact T (Lib.keeps_lt_one _ 0 (by omega))
   have he:v[m]=v[m-1]:=by
    refine Decidable.byContradiction fun e=>T (Lib.keeps_pos ?_);rw[I,getElem!_pos v.toArray (m-1) (by simp;omega)];simpa using e
   rw[hx,he];exact Ze.2 ⟨m-1,by rw[Xg];omega,by simp⟩
 have:=key v.length (Xh _);rw[Xs]at this;have e:Lib.compactUpTo v.toArray v.length=Lib.compact v:=rfl;rw[e]at this;exact⟨this.1,this.2⟩
theorem j3a{s:List aN}{f:aN->Option Bool}{p:aN->Bool}(G:s.length<9223372036854775808)(I:∀x∈s,f x=some (p x)):q7d s f=some (s.any p):=z02 G I
def q7b(g:aa)(f:aN):Prop:=0<=f.Node/\f.Node<g.ae.length/\(nd g f.Node.toNat).Kind=1/\0<=f.aQ/\f.aQ<=1048576
theorem jj0(g:aa)(aE:List aN)(aB:Int)(hl:aE.length<1000000000):qu0 g aE aB=some (decide (VA.Good g/\0<=aB/\aB<=1048576/\∀f∈aE,q7b g f)):=by
 unfold qu0;rw[zk1];refine Ok.eq (Ok.bind (Ok.some (k3n (fun h=>Ok.some ?_) (fun h=>?_))))
 .
  symm
  rw[decide_eq_false_iff_not];rintro⟨G,h2,T,_⟩;have:=z2e.2 G;simp[this]at h;omega
 simp only[Zf,Bool.not_eq_false',beq_iff_eq,decide_eq_false_iff_not]at h;have hG:=z2e.1 h.1.1;rw[j3a (p:=fun f=>decide (¬q7b g f)) (by omega) (fun f _=>by
  unfold ql3;refine Ok.eq (k3n (fun W=>Ok.some ?_) (fun W=>?_))
  .
   symm;simp only[decide_eq_true_eq]
   intro I;simp only[Yz,decide_eq_true_eq]at W;have:=I.1;have:=I.2.1;omega
  simp only[Zf,decide_eq_false_iff_not]at W;refine Ok.bind (Ok.bM (by omega) (by omega) fun x Z=>Ok.some ?_);have a6:nd g f.Node.toNat=x:=by unfold nd;rw[List.getD_eq_getElem?_getD,Z];rfl
  rw[Bool.eq_iff_iff];simp only[Bool.or_eq_true,Bool.not_eq_true',beq_eq_false_iff_ne,decide_eq_true_eq,q7b,a6]
  constructor
  .
   rintro G ⟨_,_,T,h4,h5⟩;rcases G with (G|G)|G
   . exact G T
   . omega
   omega
  intro G
  by_cases T:x.Kind=1
  .
   by_cases h4:0<=f.aQ
   . exact .inr (Int.not_le.1 fun h5=>G ⟨by omega,by omega,T,h4,h5⟩)
   exact .inl (.inr (by omega))
  exact .inl (.inl T))]
 refine Ok.bind (Ok.some (Ok.some ?_));rw[Bool.eq_iff_iff];simp only[Yq,Zo,decide_eq_true_eq,Classical.not_not];exact⟨fun I=>⟨hG,by omega,by omega,I⟩,fun I=>I.2.2.2⟩
def Ask(g:aa)(aE:List aN)(aB:Int):Prop:=VA.Good g/\0<=aB/\aB<=1048576/\∀f∈aE,q7b g f
theorem zr5{g:aa}(G:VA.Good g):∀(k:Nat) (s:Int),0<=s->s<g.af.length->s<k->(0:Int)∈anc g.af s
 |0,s,_,_,h=>by omega
 |k+1,s,I,T,h=>by
  rw[q55 G.wp I T]
  by_cases W:s=0
  . rw[W];simp
  have hd:=(z3a G I T).2.2 W;have:=(G.wp.2 s I T).1;exact Xx _ (zr5 G k _ hd.1 hd.2.1 (by omega))
theorem ji1{g:aa}(G:VA.Good g):dep g 0=1:=by
 have I:=G.wp;have hp:=G.pl;have T:=(I.2 0 (by omega) (by omega)).2.2 rfl;unfold dep;rw[q55 I (by omega) (by omega),T,q8o];rfl
def ep(e:Int):ay:=⟨1,⟨e,0,0,0⟩⟩
theorem j02{e:Int}(h:0<=e/\e<=1048576):ok (ep e):=by unfold ok ep;dsimp only;simp;omega
theorem j1y{g:aa}(G:VA.Good g){n:Nat}(I:n<g.ae.length)(T:(nd g n).Kind=1){e:Int}(W:0<=e/\e<=1048576):PtM g ⟨(n:Int),ep e⟩:=by
 have Z:=(q9j (G.no n I)).2.2.2.1 (.inl T);refine⟨n,I,rfl,j02 W,?_⟩
 show (1:Int)=_
 unfold lev q7w;rw[if_neg (by omega),Z,ji1 G];rfl
def s0:MS:=⟨fun _=>no2,fun _=>[],fun _=>[],0,[],0⟩
noncomputable def q6v(s:MS)(f:aN):MS:=q9t s ⟨f.Node,ep f.aQ⟩ 0 [⟨f.Rec,1⟩]
noncomputable def q25(aE:List aN):MS:=aE.foldl q6v s0
def q54(aE:List aN):List Int:=Lib.compact ((aE.map (·.aQ)).mergeSort fun x y=>decide (x<=y))
noncomputable def zp0(g:aa)(aB:Int)(s:MS)(e:Int):MS:=(q4o g aB 8 0 g.ae.length 0 (ep e) s).2
noncomputable def q4h(g:aa)(aB:Int)(aE:List aN):MS:=(q54 aE).foldl (zp0 g aB) (q25 aE)
def qd8(outs:List aD):List aD:=(q15 outs fun x y=>q78 x y).getD []
noncomputable def z5r(g:aa)(aE:List aN)(aB:Int):List aD×Int:=if Ask g aE aB then (if (q4h g aB aE).e≠0 then ([],(q4h g aB aE).e)else (qd8 (q4h g aB aE).outs,0))else ([],1)
theorem z2a(aE:List aN):da (aE.map (·.aQ)) (q54 aE):=by
 have hp:=List.mergeSort_perm (aE.map (·.aQ)) (fun x y=>decide (x<=y));have G:((aE.map (·.aQ)).mergeSort (fun x y=>decide (x<=y))).Pairwise (· <=·):=
  (List.pairwise_mergeSort (le:=fun x y:Int=>decide (x<=y)) (fun a b c=>by simp only[decide_eq_true_eq];omega) (fun a b=>by simp only[Yz,decide_eq_true_eq];omega) (aE.map (·.aQ))).imp (by simp)
 have:=j2o G;exact⟨this.inc,fun x=>(this.mem x).trans hp.mem_iff⟩
theorem dq(a b:Int):qb9 a b=some (if a<b then -1 else if b<a then 1 else 0):=by
 simp only[qb9,qi5,q9,Option.bind_some,beq_self_eq_true,Bool.not_true,Bool.false_eq_true,if_false,decide_eq_true_eq]
 split<;>(try rfl)
 split<;>rfl
theorem jt6(x y:aD):∃n,q78 x y=some n/\(n<0↔x.Node<y.Node):=by
 unfold q78;rw[dq];refine⟨_,rfl,?_⟩
 split
 . simp;assumption
 split<;>simp<;>omega
theorem qv4{outs:List aD}(h:outs.length<100000000):q15 outs (fun x y=>q78 x y)=some (qd8 outs)/\SO.Srt (fun o=>o.Node) outs (qd8 outs):=by
 obtain⟨r,G,I⟩:=SO.cA (key:=fun o=>o.Node) (cmp:=fun x y=>q78 x y) jt6 h;have:qd8 outs=r:=by unfold qd8;rw[G];rfl
 rw[this];exact⟨G,I⟩
theorem j84{outs:List aD}(h:outs.length<100000000):q15 outs (fun x y=>q78 x y)=some (qd8 outs)/\(qd8 outs).Perm outs:=⟨(qv4 h).1,(qv4 h).2.perm⟩
theorem j23(r:aP)(G:OP.rR r):Fn [⟨r,1⟩]/\tot [(⟨r,1⟩:a8)]=1:=⟨⟨⟨by simp,by simp⟩,by simp[OP.Pos],fun x I=>by rw[Yh.1 I];exact G⟩,by simp[tot]⟩
theorem k1j{g:aa}{C aB:Int}(I:C+aB<=7000){aE:List aN}(T:Ask g aE aB){r:a7}(G:St g C aB r)(W:ab r=q4h g aB aE):qp9 r=some (z5r g aE aB):=by
 unfold qp9 z5r;rw[if_pos T,<-W];refine Ok.eq (k3n (fun h=>Ok.some ?_) (fun h=>?_))
 .
  have h:(ab r).e≠0:=by simpa [ab]using h
  rw[if_pos h];rfl
 have h:r.e=0:=by simpa using h
 rw[if_neg (fun Z=>Z h)];have h1:=G.inv.pot;have h2:=G.inv.cU;have h3:=G.wx;obtain⟨q1,q2⟩:=j84 (outs:=r.outs) (by omega);refine Ok.bind (k3q q1 ?_);exact Ok.guard q2.length_eq (Ok.some rfl)
theorem j30(g:aa)(ak:∀n,n<g.ae.length->∀y∈(nd g n).Prog,OP.iR y.N)(aE:List aN)(an:∀f∈aE,OP.rR f.Rec){aB:Int}(hm:aB<=5000)(hl:aE.length<=500):Ok (qo0 g aE aB) fun v=>v=z5r g aE aB/\(Ask g aE aB->∃r,St g aE.length aB r/\ab r=q4h g aB aE):=by
 unfold qo0;rw[jj0 g aE aB (by omega)]
 by_cases ha:Ask g aE aB
 case neg=>
  unfold z5r;rw[if_neg ha];refine Ok.bind (Ok.some (k3n (fun _=>Ok.some ⟨rfl,fun h=>absurd h ha⟩) (fun h=>?_)));exact absurd (by simpa [Ask]using h) ha
 have a6:=ha;obtain⟨T,ao,_,hF⟩:=ha;have b4:=T.nl;have b5:=T.pl;refine Ok.bind (Ok.some (k3n (fun h=>by simp only[Yq,decide_eq_false_iff_not]at h;exact absurd a6 h) (fun _=>?_)));have hz:ab ⟨g,(Zj ([]:List ah) ([]:List (bA (List a8)))),(Zj ([]:List Int) ([]:List (List aF))),(Zj ([]:List ah) ([]:List (List a8))),0,aB,([]:List aD),0⟩=s0:=rfl;refine k3r (l:=aE) (by omega) (fun i (s:a7×List Int)=>Inv g i s.1/\s.1.aB=aB/\s.1.work=0/\s.1.e=0/\ab s.1=(aE.take i).foldl q6v s0/\s.2=(aE.take i).map (·.aQ)) 0 (fun rec i hi s _ W G=>?_) (fun rec s W=>?_)
  ⟨⟨rfl,rfl,by simp,by simp,by simp,rfl,by simp,rfl,by simp,by simp,by simp,by simp,by simp⟩,rfl,rfl,rfl,hz,rfl⟩ (X0 _)
 .
  obtain⟨b,es⟩:=s;obtain⟨h1,h2,h3,h4,Z,I⟩:=W;dsimp only at h1 h2 h3 h4 Z I;unfold qq0;dsimp only;rw[if_pos (by simpa using hi),iw hi (by omega)];refine Ok.bind (k3o hi (Ok.guard ?_ ?_))
  . rw[I];simp only[X8,Xg,Xk,X6];omega
  obtain⟨f0,f1,f2,f3,f4⟩:=hF _ (Ye hi);have aq:PtM g ⟨aE[i].Node,ep aE[i].aQ⟩:=by
   have:=j1y T (n:=aE[i].Node.toNat) (by omega) f2 ⟨f3,f4⟩;rw[Yn f0]at this;exact this
  obtain⟨o1,o2⟩:=j23 aE[i].Rec (an _ (Ye hi));refine k3m (j58 T h1 (t:=ep aE[i].aQ) aq (.inl rfl) o1 (by omega) (by omega)) fun v hv=>?_;obtain⟨v1,v2,v3,v4⟩:=hv;refine G _ ⟨?_,v3.trans h2,v4.trans h3,?_,?_,?_⟩
  . rw[o2]at v1;exact_mod_cast v1
  .
   have:(ab v).e=(q9t (ab b) ⟨aE[i].Node,ep aE[i].aQ⟩ 0 [⟨aE[i].Rec,1⟩]).e:=by rw[v2]
   have h9:(q9t (ab b) ⟨aE[i].Node,ep aE[i].aQ⟩ 0 [⟨aE[i].Rec,1⟩]).e=(ab b).e:=by unfold q9t;split<;>rfl
   rw[h9]at this;exact this.trans h4
  . dsimp only;rw[Xd hi,X9,<-Z,v2];rfl
  dsimp only;rw[Xd hi,List.map_append,I];rfl
 obtain⟨b,es⟩:=s;obtain⟨h1,h2,h3,h4,Z,I⟩:=W;dsimp only at h1 h2 h3 h4 Z I;rw[Xs]at Z I;unfold qq0;dsimp only;rw[if_neg (by simp)];unfold qz3 qj5 qd0 j5m zj6;have b2:es.length=aE.length:=by rw[I,X8]
 refine Ok.bind (Ok.guard (by omega) (Ok.some (Ok.guard (by simp) (Ok.bind (Ok.guard (by simp;omega) (Ok.some ?_))))));have aj:Lib.compact (es.mergeSort fun x y=>decide (x<=y))=q54 aE:=by rw[I];rfl
 rw[aj];have ar:=z2a aE;have b3:(q54 aE).length<=500:=by
  have:=Lib.compact_length_le ((aE.map (·.aQ)).mergeSort fun x y=>decide (x<=y));rw[List.length_mergeSort,X8]at this;exact Nat.le_trans this hl
 refine k3r (l:=q54 aE) (by omega) (fun i (s:a7)=>St g aE.length aB s/\ab s=((q54 aE).take i).foldl (zp0 g aB) (q25 aE)) 0 (fun rec i hi s _ W G=>?_) (fun rec s W=>?_)
  ⟨⟨h1.mono (by omega),h2,by omega,fun _=>by omega,by omega⟩,Z⟩ (X0 _)
 .
  obtain⟨hS,hs⟩:=W;unfold qq1;dsimp only;rw[if_pos (by simpa using hi),iw hi (by omega)];refine Ok.bind (k3o hi ?_);have b1:okz (ep (q54 aE)[i]):=by
   obtain⟨f,hf,he⟩:=Yb.1 ((ar.mem _).1 (Ye hi));rw[<-he];have:=(hF f hf).2.2.2;exact .inl (j02 this)
  have:=j0v T (C:=aE.length) (aB:=aB) (by omega) ao (by omega) ak 8 rounds (from_:=0) (to:=g.ae.length) (sc:=0) (t:=ep (q54 aE)[i]) (r:=s) (X0 _) (Xh _) b1 (Xw _) (by omega) (fun m _ hm=>by
   obtain⟨k1,k2,_⟩:=q2k T hm;exact zr5 T _ _ k1 k2 (by have:=Yn k1;show (nd g m).Scope<(((nd g m).Scope.toNat+1:Nat):Int);omega)) (by simp;omega) (by simp only[rounds];omega) hS
  refine k3m this fun v hv=>?_;obtain⟨v1,v2,v3⟩:=hv;refine G _ ⟨v2,?_⟩;rw[Xd hi,X9,<-hs,v3];rfl
 obtain⟨hS,hs⟩:=W;rw[Xs]at hs;unfold qq1;dsimp only;rw[if_neg (by simp)];exact k3q (k1j (by omega) a6 hS hs) ⟨rfl,fun _=>⟨s,hS,hs⟩⟩
end MN
end
section
open Go Go.RowKit TS VA BG
namespace MN
open Classical
theorem ja3{l:List aD}(I:l.length<9223372036854775807):q8d l l=some true:=by
 unfold q8d;rw[if_neg (by simp)];refine Ok.eq (k3s (l:=l) I (fun _=>True) 0 (fun rec i hi _ _ G=>?_) (fun rec _=>?_) trivial (X0 _))
 . unfold q8z;rw[if_pos (by simpa using hi),iw hi I];refine Ok.bind (k3o hi (Ok.bind (k3o hi ?_)));rw[if_neg (by simp)];exact G trivial
 unfold q8z;rw[if_neg (by simp)];exact Ok.some rfl
noncomputable def cE(aE:List aN)(p:ah)(x:aP):Int:=((aE.filter fun f=>decide ((⟨f.Node,ep f.aQ⟩:ah)=p/\f.Rec=x)).length:Int)
theorem j9s(f:aN)(l:List aN)(p:ah)(x:aP):cE (f::l) p x=(if (⟨f.Node,ep f.aQ⟩:ah)=p/\f.Rec=x then 1 else 0)+cE l p x:=by
 unfold cE
 by_cases h:(⟨f.Node,ep f.aQ⟩:ah)=p/\f.Rec=x
 . rw[Xr (by simpa using h),if_pos h];simp only[Xk];push_cast;omega
 rw[Xy (by simpa using h),if_neg h];omega
theorem j7a(r x:aP):cnt [⟨r,1⟩] x=if r=x then 1 else 0:=by simp[cnt]
theorem zx3:∀(aE:List aN) (s:MS) (K:Int),(∀f∈aE,OP.rR f.Rec)->(∀p,Fn (s.ins p).a0/\tot (s.ins p).a0<=K/\(s.ins p).a1=[])->K+aE.length<=1000000->
 (∀p,Fn ((aE.foldl q6v s).ins p).a0/\((aE.foldl q6v s).ins p).a1=[]/\∀x,cnt ((aE.foldl q6v s).ins p).a0 x=cnt (s.ins p).a0 x+cE aE p x)/\
 (aE.foldl q6v s).aK=s.aK/\(aE.foldl q6v s).aJ=s.aJ/\(aE.foldl q6v s).work=s.work/\(aE.foldl q6v s).outs=s.outs/\(aE.foldl q6v s).e=s.e
 |[],s,K,_,h,_=>⟨fun p=>⟨(h p).1,(h p).2.2,fun x=>by simp[cE]⟩,rfl,rfl,rfl,rfl,rfl⟩
 |f::l,s,K,I,h,hK=>by
  simp only[Xk]at hK;rw[Y0];obtain⟨o1,o2⟩:=j23 f.Rec (I f (by simp));have hq:∀p,(q6v s f).ins p=if p=⟨f.Node,ep f.aQ⟩then⟨q0g (s.ins p).a0 [⟨f.Rec,1⟩],(s.ins p).a1⟩else s.ins p:=fun p=>by
   unfold q6v q9t;rw[if_neg (by simp)]
   show upd s.ins _ _ p=_
   unfold upd qg2
   by_cases hp:p=⟨f.Node,ep f.aQ⟩
   . subst hp;rw[if_pos rfl,if_pos rfl,if_pos rfl]
   rw[if_neg hp,if_neg hp]
  have T:∀p,q5g (s.ins p).a0 [⟨f.Rec,1⟩]=some (q0g (s.ins p).a0 [⟨f.Rec,1⟩])/\Fn (q0g (s.ins p).a0 [⟨f.Rec,1⟩])/\tot (q0g (s.ins p).a0 [⟨f.Rec,1⟩])=tot (s.ins p).a0+tot [⟨f.Rec,1⟩]/\∀x,cnt (q0g (s.ins p).a0 [⟨f.Rec,1⟩]) x=cnt (s.ins p).a0 x+cnt [⟨f.Rec,1⟩] x:=fun p=>
   q7j (h p).1 o1 (by have:=(h p).2.1;omega)
  obtain⟨h1,W⟩:=zx3 l (q6v s f) (K+1) (fun x G=>I x (by simp[G])) (fun p=>by
   rw[hq]
   by_cases hp:p=⟨f.Node,ep f.aQ⟩
   . rw[if_pos hp];obtain⟨_,p2,p3,_⟩:=T p;exact⟨p2,by dsimp only;have:=(h p).2.1;omega,(h p).2.2⟩
   rw[if_neg hp];exact⟨(h p).1,by have:=(h p).2.1;omega,(h p).2.2⟩) (by push_cast at hK;omega)
  refine⟨fun p=>⟨(h1 p).1,(h1 p).2.1,fun x=>?_⟩,?_⟩
  .
   rw[(h1 p).2.2 x,hq,j9s]
   by_cases hp:p=⟨f.Node,ep f.aQ⟩
   .
    rw[if_pos hp];dsimp only;rw[(T p).2.2.2 x,j7a]
    by_cases G:f.Rec=x
    . rw[if_pos G,if_pos ⟨hp.symm,G⟩];omega
    rw[if_neg G,if_neg (fun h=>G h.2)];omega
   rw[if_neg hp,if_neg (fun h=>hp h.1.symm)];omega
  have Z:(q6v s f).aK=s.aK/\(q6v s f).aJ=s.aJ/\(q6v s f).work=s.work/\(q6v s f).outs=s.outs/\(q6v s f).e=s.e:=by
   unfold q6v q9t;rw[if_neg (by simp)];exact⟨rfl,rfl,rfl,rfl,rfl⟩
  exact⟨W.1.trans Z.1,W.2.1.trans Z.2.1,W.2.2.1.trans Z.2.2.1,W.2.2.2.1.trans Z.2.2.2.1,W.2.2.2.2.trans Z.2.2.2.2⟩
theorem z9k{x y:bA (List a8)}(G:x.a0=y.a0)(I:x.a1=y.a1):x=y:=by
 cases x;cases y;simp_all
theorem z0d(aE:List aN)(G:∀f∈aE,OP.rR f.Rec)(W:aE.length<=1000):(∀p,Fn ((q25 aE).ins p).a0/\((q25 aE).ins p).a1=[]/\∀x,cnt ((q25 aE).ins p).a0 x=cE aE p x)/\
 (q25 aE).aK=s0.aK/\(q25 aE).aJ=s0.aJ/\(q25 aE).work=0/\(q25 aE).outs=[]/\(q25 aE).e=0:=by
 obtain⟨I,T⟩:=zx3 aE s0 0 G (fun p=>⟨Fn.nil,by simp[s0,no2,tot],rfl⟩) (by omega);exact⟨fun p=>⟨(I p).1,(I p).2.1,fun x=>by have:=(I p).2.2 x;rw[show cnt (s0.ins p).a0 x=0 by simp[s0,no2,cnt]]at this;unfold q25;omega⟩,T⟩
end MN
end
section
open Go Go.RowKit TS VA BG
namespace MN
open Classical
def W(g:aa)(s:MS):Prop:=∀p,s.ins p≠no2->PtM g p
theorem qd7(s:MS)(q:ah)(G:Int)(b:List a8)(p:ah):(q9t s q G b).ins p=if b≠[]/\p=q then qg2 (s.ins q) G b else s.ins p:=by
 unfold q9t
 by_cases hb:b=[]
 . rw[if_pos hb,if_neg (fun h=>h.1 hb)]
 rw[if_neg hb]
 show upd s.ins q _ p=_
 unfold upd
 by_cases hp:p=q
 . rw[if_pos hp,if_pos ⟨hb,hp⟩]
 rw[if_neg hp,if_neg (fun h=>hp h.2)]
theorem z3z(s:MS)(q:ah)(G:Int)(b:List a8):(q9t s q G b).aK=s.aK/\(q9t s q G b).aJ=s.aJ/\(q9t s q G b).work=s.work/\(q9t s q G b).outs=s.outs/\(q9t s q G b).e=s.e:=by
 unfold q9t;split<;>exact⟨rfl,rfl,rfl,rfl,rfl⟩
theorem jz3(t:ay):(leT t).C.a0=t.C.a0:=by
 unfold leT
 split
 . rfl
 split<;>rfl
theorem jy0{t:ay}(h:t.D≠1):(nxT t).C.a0=t.C.a0:=by
 unfold nxT;rw[if_neg h]
 split
 . rfl
 split<;>rfl
theorem jg6{g:aa}(Z:VA.Good g){n:Nat}(hn:n<g.ae.length){t:ay}(ht:PtM g ⟨n,t⟩)(G:(q0b g n t).2=true):(q0b g n t).1.C.a0=t.C.a0:=by
 obtain⟨m,hm,h1,h2,h3⟩:=ht;obtain rfl:n=m:=by have:(n:Int)=m:=h1;omega
 dsimp only at h2 h3
 by_cases I:(nd g n).Kind=10
 .
  rw[z0g I]at G⊢
  split
  . rfl
  rename_i c;rw[if_neg c]at G;cases G
 by_cases T:(nd g n).Kind=11
 .
  rw[z2x T]at G⊢
  split
  . exact jz3 t
  rename_i c;rw[if_neg c]at G;cases G
 by_cases W:(nd g n).Kind=12
 .
  rw[z0f W]at G⊢
  split
  .
   show (nxT t).C.a0=_
   obtain⟨k1,k2,k3⟩:=q2k Z hn;have hd:=(z3a Z k1 k2).2.2 (k3 (by omega));have:lev g n=dep g (nd g n).Scope:=by unfold lev q7w;rw[if_neg I]
   exact jy0 (by omega)
  rename_i c;rw[if_neg c]at G;cases G
 rw[qt1 I T W]
structure ch(g:aa)(e:Int)(s s':MS):Prop where
 ins:∀p:ah,p.time.C.a0≠e->s'.ins p=s.ins p
 work:s.work<=s'.work
 outs:∃more,s'.outs=s.outs++more/\∀o∈more,o.aQ=e
 dead:s.e≠0->s'.e≠0
 aK:(∀n,n<g.ae.length->(nd g n).Kind≠14)->s'.aK=s.aK/\s'.aJ=s.aJ
theorem ch.refl(g:aa)(e:Int)(s:MS):ch g e s s:=⟨fun _ _=>rfl,Xw _,⟨[],by simp,by simp⟩,fun h=>h,fun _=>⟨rfl,rfl⟩⟩
theorem ch.trans{g:aa}{e:Int}{a b c:MS}(h:ch g e a b)(k:ch g e b c):ch g e a c:=by
 obtain⟨I,T,W⟩:=h.outs;obtain⟨Z,k1,k2⟩:=k.outs;refine⟨fun p hp=>(k.ins p hp).trans (h.ins p hp),Yt h.work k.work,⟨I++Z,by rw[k1,T,Xc],fun o ho=>?_⟩,fun hd=>k.dead (h.dead hd),fun G=>⟨(k.aK G).1.trans (h.aK G).1,(k.aK G).2.trans (h.aK G).2⟩⟩;rcases Xm.1 ho with h|h
 . exact W o h
 exact k2 o h
section
variable {g:aa} (hG:VA.Good g)
include hG
theorem zv4{n:Nat}(T:n<g.ae.length){t:ay}(Z:PtM g ⟨n,t⟩)(hu:(q0b g n t).2=true){out:List a8}(ho:Fn out):∀(G:List aC) (s:MS),(∀e∈G,e∈g.aw)->W g s->
 W g (q23 n (q0b g n t).1 out G s)/\ch g t.C.a0 s (q23 n (q0b g n t).1 out G s)/\(q23 n (q0b g n t).1 out G s).e=s.e
 |[],s,_,I=>⟨I,ch.refl _ _ _,rfl⟩
 |e::G,s,he,I=>by
  have h1:W g (q1x n (q0b g n t).1 out s e)/\ch g t.C.a0 s (q1x n (q0b g n t).1 out s e)/\(q1x n (q0b g n t).1 out s e).e=s.e:=by
   unfold q1x
   by_cases hf:e.aL=n
   .
    rw[if_pos hf];obtain⟨r1,r2,r3,r4,r5⟩:=z3z s ⟨e.To,(q0b g n t).1⟩ e.Port out;obtain⟨q1,_⟩:=ze8 hG T Z hu (he e (by simp)) hf;have a6:=jg6 hG T Z hu;have:=ho.len;refine⟨fun p hp=>?_,⟨fun p hp=>?_,by dsimp only;omega,⟨[],by dsimp only;rw[r4];simp,by simp⟩,by dsimp only;rw[r5];exact fun h=>h,fun _=>⟨r1,r2⟩⟩,r5⟩
    .
     dsimp only at hp;rw[qd7]at hp
     split at hp
     . rename_i hc;rw[hc.2];exact q1
     exact I p hp
    dsimp only;rw[qd7,if_neg];rintro⟨_,rfl⟩;exact hp a6
   rw[if_neg hf];exact⟨I,ch.refl _ _ _,rfl⟩
  obtain⟨h2,h3,h4⟩:=zv4 T Z hu ho G (q1x n (q0b g n t).1 out s e) (fun x hx=>he x (by simp[hx])) h1.1;exact⟨h2,h1.2.1.trans h3,h4.trans h1.2.2⟩
omit hG in
theorem j80{n:Nat}(Z:n<g.ae.length){t:ay}(s:MS)(hW:W g s):W g (aM g n t s)/\ch g t.C.a0 s (aM g n t s)/\(aM g n t s).e=s.e:=by
 have I:∀p,upd s.ins ⟨n,t⟩ no2 p≠no2->PtM g p:=fun p hp=>by
  unfold upd at hp
  split at hp
  . exact absurd rfl hp
  exact hW p hp
 have T:∀p:ah,p.time.C.a0≠t.C.a0->upd s.ins ⟨n,t⟩ no2 p=s.ins p:=fun p hp=>by
  unfold upd;rw[if_neg];rintro rfl;exact hp rfl
 unfold aM
 by_cases G:(nd g n).Kind=14
 . rw[if_pos G];exact⟨I,⟨T,Xw _,⟨[],by simp,by simp⟩,fun h=>h,fun h=>absurd G (h n Z)⟩,rfl⟩
 rw[if_neg G];exact⟨I,⟨T,Xw _,⟨[],by simp,by simp⟩,fun h=>h,fun _=>⟨rfl,rfl⟩⟩,rfl⟩
theorem z6r(aB:Int){n:Nat}(hn:n<g.ae.length){t:ay}{e:Int}(ht:ok t->t.C.a0=e){s:MS}(Z:W g s):W g (q0c g aB s n t).2/\ch g e s (q0c g aB s n t).2:=by
 unfold q0c
 by_cases h:s.ins ⟨n,t⟩=no2\/s.e≠0
 . rw[if_pos h];exact⟨Z,ch.refl _ _ _⟩
 rw[if_neg h];have a6:s.ins ⟨n,t⟩≠no2:=fun e=>h (.inl e);have G:=Z _ a6;have aj:t.C.a0=e:=ht (by obtain⟨_,_,_,h2,_⟩:=G;exact h2);subst aj;obtain⟨w1,I,e1⟩:=j80 hn (t:=t) s Z
 generalize aM g n t s=s2 at*
 generalize (if (nd g n).Kind=14 then q6o s2 n t else (s.ins ⟨n,t⟩).a1)=b
 unfold q6k
 cases ha:q3p (nd g n) (s.ins ⟨n,t⟩).a0 b with
 |none=>
  dsimp only;exact⟨w1,I.trans ⟨fun _ _=>rfl,Xw _,⟨[],by simp,by simp⟩,fun _=>by dsimp only;decide,fun _=>⟨rfl,rfl⟩⟩⟩
 |some out=>
  dsimp only;obtain⟨ho,_⟩:=qm4 ha
  by_cases T:(nd g n).Kind=15
  . rw[if_pos T];refine⟨w1,I.trans ⟨fun _ _=>rfl,Xw _,⟨_,rfl,fun o ho=>?_⟩,fun h=>h,fun _=>⟨rfl,rfl⟩⟩⟩;obtain⟨r,_,rfl⟩:=Yb.1 ho;rfl
  rw[if_neg T]
  by_cases hx:(q0b g n t).2=false\/out=[]
  . rw[if_pos hx];exact⟨w1,I⟩
  rw[if_neg hx];have hu:(q0b g n t).2=true:=by simpa using fun e=>hx (.inl e)
  obtain⟨w2,k2,e2⟩:=zv4 hG hn G hu ho g.aw s2 (fun _ h=>h) w1;dsimp only
  split
  . exact⟨w2,I.trans (k2.trans ⟨fun _ _=>rfl,Xw _,⟨[],by simp,by simp⟩,fun _=>by dsimp only;decide,fun _=>⟨rfl,rfl⟩⟩)⟩
  exact⟨w2,I.trans k2⟩
end
section
variable {g:aa} {aB:Int} {T:Int->Prop} {P:MS->Prop} (hev:∀s n t,n<g.ae.length->(ok t->T t.C.a0)->P s->P (q0c g aB s n t).2)
include hev
end
theorem j9l{g:aa}{aB:Int}{s:MS}(h:s.e≠0)(n:Nat)(t:ay):(q0c g aB s n t).2.e≠0:=by
 unfold q0c;rw[if_pos (.inr h)];exact h
section
variable {g:aa} {aB:Int} {T:Int->Prop} {G:MS->MS->Prop}
 (hev:∀s s' n t,n<g.ae.length->(ok t->T t.C.a0)->G s s'->(q0c g aB s n t).2.e=0->G (q0c g aB s n t).2 (q0c g aB s' n t).2/\(q0c g aB s n t).1=(q0c g aB s' n t).1)
include hev
end
end MN
end
section
open Go Go.RowKit TS VA BG
namespace MN
open Classical
section
variable {g:aa} (hG:VA.Good g) {aB:Int} {V:Int->Prop} {d:Int} (hd:0<=d) {pre:List aD}
include hG hd
omit hd
include hd
end
theorem jt5{g:aa}{s:MS}{q:ah}{G:Int}{b:List a8}(h:W g s)(I:PtM g q):W g (q9t s q G b):=fun p hp=>by
 rw[qd7]at hp
 split at hp
 . rename_i T;rw[T.2];exact I
 exact h p hp
theorem j99{g:aa}(I:VA.Good g)(aE:List aN)(T:∀f∈aE,q7b g f):W g (q25 aE):=by
 unfold q25;have:∀(l:List aN) (s:MS),(∀f∈l,q7b g f)->W g s->W g (l.foldl q6v s):=by
  intro l
  induction l with
  |nil=>intro s _ h;exact h
  |cons f l Z=>
   intro s G h;rw[Y0];refine Z _ (fun x hx=>G x (by simp[hx])) ?_;obtain⟨f0,f1,f2,f3,f4⟩:=G f (by simp);refine jt5 h ?_;have:=j1y I (n:=f.Node.toNat) (by omega) f2 ⟨f3,f4⟩;rw[Yn f0]at this;exact this
 exact this aE s0 T (fun p hp=>absurd rfl hp)
end MN
end
section
open Go Go.RowKit TS VA BG
namespace MN
open Classical
def under(t v:ay):Prop:=t.D<=v.D/\t.C.a0=v.C.a0/\(1<t.D->v.C.a1=t.C.a1)/\(2<t.D->v.C.a2=t.C.a2)/\(3<t.D->v.C.a3=t.C.a3)
def bw(t v:ay):Prop:=t.D<=v.D/\(1<t.D->v.C.a0=t.C.a0)/\(2<t.D->v.C.a1=t.C.a1)/\(3<t.D->v.C.a2=t.C.a2)/\(t.D=1->t.C.a0<v.C.a0)/\(t.D=2->t.C.a1<v.C.a1)/\(t.D=3->t.C.a2<v.C.a2)/\(t.D=4->t.C.a3<v.C.a3)
theorem qm6(t:ay):under t t:=by unfold under;omega
theorem z2g{t u v:ay}(h:under t u)(k:under u v):under t v:=by unfold under at*;omega
theorem j0k(t:ay):under t (enT t)/\t.D<(enT t).D:=by unfold under enT;dsimp only;omega
theorem qv3{t v:ay}(G:ok t)(I:ok v)(h:under t v)(hd:t.D<v.D):under t (leT v)/\under t (nxT v):=by
 have T:=qj0 I;have W:=G.1;obtain⟨E,⟨b0,Z,b2,b3⟩⟩:=v;unfold under leT nxT at*;dsimp only at*;rcases T with rfl|rfl|rfl|rfl<;>simp<;>omega
theorem j1s{t v:ay}(G:ok t)(I:t.D≠4)(h:bw (enT t) v):under t v/\t.D<v.D:=by
 have T:=qj0 G;unfold under bw enT at*;dsimp only at*;omega
theorem zu7{t v:ay}(h:under (enT t) v):under t v/\t.D<v.D:=by
 unfold under enT at*;dsimp only at*;omega
theorem z2s{t v:ay}(G:ok t)(h:under t v):¬bw t v:=by
 have I:=qj0 G;unfold under bw at*;omega
theorem z8m{t v:ay}(G:ok t)(T:2<=t.D)(h:under (nxT t) v):bw t v:=by
 have I:=qj0 G;obtain⟨D,⟨a0,a1,a2,a3⟩⟩:=t;unfold under bw nxT at*;dsimp only at*;rcases I with rfl|rfl|rfl|rfl<;>simp at*<;>omega
theorem j1r{t v:ay}(G:ok t)(T:2<=t.D)(h:bw (nxT t) v):bw t v:=by
 have I:=qj0 G;obtain⟨D,⟨a0,a1,a2,a3⟩⟩:=t;unfold bw nxT at*;dsimp only at*;rcases I with rfl|rfl|rfl|rfl<;>simp at*<;>omega
theorem j0l{t v:ay}(G:ok t)(T:ok v)(h:under t v)(hd:v.D=t.D):v=t:=by
 have I:=qj0 G;obtain⟨D,⟨a0,a1,a2,a3⟩⟩:=t;obtain⟨E,⟨b0,W,Z,b3⟩⟩:=v;unfold under ok at*;dsimp only at*;subst hd;rcases I with rfl|rfl|rfl|rfl<;>simp at*<;>omega
theorem jm1{t:ay}(G:ok t)(T:2<=t.D)(h:bb t=0):enT (leT t)=t:=by
 have I:=qj0 G;obtain⟨D,⟨a0,a1,a2,a3⟩⟩:=t;unfold enT leT bb ok at*;dsimp only at*;rcases I with rfl|rfl|rfl|rfl<;>simp at*<;>omega
theorem jk6{t:ay}(G:ok t)(T:t.D≠4):leT (enT t)=t/\bb (enT t)=0:=by
 have I:=qj0 G;obtain⟨D,⟨a0,a1,a2,a3⟩⟩:=t;unfold enT leT bb ok at*;dsimp only at*;rcases I with rfl|rfl|rfl|rfl<;>simp at*<;>omega
theorem jk5{t:ay}(G:ok t)(T:2<=t.D):leT (nxT t)=leT t/\bb (nxT t)=bb t+1:=by
 have I:=qj0 G;obtain⟨D,⟨a0,a1,a2,a3⟩⟩:=t;unfold nxT leT bb at*;dsimp only at*;rcases I with rfl|rfl|rfl|rfl<;>simp at*
theorem j1t{t:ay}(G:ok t):0<=bb t:=by
 have I:=qj0 G;unfold ok at G;unfold bb;rcases I with h|h|h|h<;>simp[h]<;>omega
theorem j3p{u G v:ay}(I:ok u)(h:bw u G)(hd:G.D=u.D)(T:under G v):bw u v:=by
 have W:=qj0 I;unfold bw under at*;omega
theorem j93{u G:ay}(I:ok u)(W:2<=u.D)(h:bw u G)(hd:G.D=u.D):bw u (nxT G)/\(nxT G).D=u.D:=by
 have T:=qj0 I;obtain⟨D,⟨a0,a1,a2,a3⟩⟩:=u;obtain⟨E,⟨b0,Z,b2,b3⟩⟩:=G;unfold bw nxT at*;dsimp only at*;subst hd;rcases T with rfl|rfl|rfl|rfl<;>simp at*<;>omega
theorem jf9{u G:ay}(I:ok u)(T:ok G)(Z:2<=u.D)(h:bw u G)(hd:G.D=u.D):leT G=leT u:=by
 have W:=qj0 I;obtain⟨D,⟨a0,a1,a2,a3⟩⟩:=u;obtain⟨E,⟨b0,b1,b2,b3⟩⟩:=G;unfold bw leT at*;dsimp only at*;subst hd;rcases W with rfl|rfl|rfl|rfl<;>simp at*<;>omega
section
variable {g:aa} (hG:VA.Good g)
include hG
theorem z6u:∀(k:Nat) (s x:Int),0<=s->s<g.af.length->s<k->x∈anc g.af s->∃pre,anc g.af s=pre++anc g.af x/\∀y∈pre,x<y
 |0,s,_,T,_,hk,_=>by omega
 |k+1,s,x,T,h1,hk,hx=>by
  have W:=hG.wp;have I:=q55 W T h1;rw[I]at hx;rcases Xi.1 hx with rfl|G
  . exact⟨[],rfl,by simp⟩
  have hp:=W.2 s T h1
  by_cases hz:s=0
  . rw[hp.2.2 hz,q8o]at G;cases G
  have hp0:=hp.2.1 (by omega);obtain⟨pre,e1,e2⟩:=z6u k _ x hp0 (by omega) (by omega) G;have Z:x<s:=by
   have:=zf2 W k _ (.inr ⟨hp0,by omega⟩) (by omega) x G;omega
  refine⟨s::pre,by rw[I,e1];rfl,fun y hy=>?_⟩;rcases Xi.1 hy with rfl|hy
  . exact Z
  exact e2 y hy
theorem q8p{s x:Int}(G:0<=s)(I:s<g.af.length)(T:x∈anc g.af s):0<=x/\x<=s:=zf2 hG.wp (s.toNat+1) s (.inr ⟨G,I⟩) (by omega) x T
theorem zc5{s x y:Int}(G:0<=s)(I:s<g.af.length)(T:x∈anc g.af s)(W:y∈anc g.af x):y∈anc g.af s:=by
 obtain⟨pre,e,_⟩:=z6u hG (s.toNat+1) s x G I (by omega) T;rw[e];exact List.mem_append_right _ W
theorem zy4{s x y:Int}(I:0<=s)(T:s<g.af.length)(G:x∈anc g.af s)(W:y∈anc g.af s)(h:x<=y):x∈anc g.af y:=by
 obtain⟨pre,e,hp⟩:=z6u hG (s.toNat+1) s y I T (by omega) W;rw[e]at G;rcases Xm.1 G with G|G
 . have:=hp x G;omega
 exact G
theorem z7x{s x:Int}(T:0<=s)(W:s<g.af.length)(G:x∈anc g.af s)(I:x≠s):s≠0/\x∈anc g.af (g.af.getD s.toNat 0):=by
 have Z:=hG.wp;rw[q55 Z T W]at G;rcases Xi.1 G with rfl|G
 . exact absurd rfl I
 refine⟨?_,G⟩;rintro rfl;rw[(Z.2 0 T W).2.2 rfl,q8o]at G;cases G
theorem j9q{s x:Int}(G:0<=s)(I:s<g.af.length)(T:x∈anc g.af s):dep g x<=dep g s:=by
 obtain⟨pre,e,_⟩:=z6u hG (s.toNat+1) s x G I (by omega) T;unfold dep;rw[e,Xa];omega
theorem fit{k:Nat}(hk:k<g.ae.length)(h0:0<k){c:Int}(h:c∈anc g.af (nd g k).Scope)(hn:c∉anc g.af (nd g (k-1)).Scope):
 (nd g k).Scope=c/\g.af.getD c.toNat 0∈anc g.af (nd g (k-1)).Scope/\∀i<k,(nd g i).Scope≠c:=by
 have G:=(q9j (hG.no k hk)).2.2.2.2.1;obtain⟨k0,k1,_⟩:=q2k hG hk;obtain⟨q0,q1,_⟩:=q2k hG (show k-1<g.ae.length by omega);unfold fits at G;rw[if_neg (by omega)]at G;simp only[Yz,X5,decide_eq_true_eq,Yq,Zo,beq_iff_eq]at G;rcases G with I|⟨I,h2⟩
 . exact absurd (zc5 hG q0 q1 I h) hn
 have T:(nd g k).Scope=c:=Xb fun W=>hn (zc5 hG q0 q1 I (z7x hG k0 k1 h (fun e=>W e.symm)).2);refine⟨T,by rw[<-T];exact I,fun i hi e=>?_⟩;have Z:i<g.ae.length:=by omega
 refine h2 (nd g i) ?_ (by rw[e,T]);rw[<-q6g Z];exact List.mem_take_iff_getElem.2 ⟨i,by omega,rfl⟩
theorem first{k:Nat}(W:k<g.ae.length)(G:0<k){c:Int}(h:c∈anc g.af (nd g k).Scope)(Z:c∉anc g.af (nd g (k-1)).Scope):∀i<k,c∉anc g.af (nd g i).Scope:=by
 obtain⟨_,_,I⟩:=fit hG W G h Z;intro i
 induction i with
 |zero=>
  intro _ hi;have T:=(q9j (hG.no 0 (by omega))).2.2.2.2.1;unfold fits at T;rw[if_pos rfl,beq_iff_eq]at T;obtain⟨q0,q1,_⟩:=q2k hG (show 0<g.ae.length by omega);have:=q8p hG q0 q1 hi;exact I 0 G (by omega)
 |succ i ih=>
  intro hi hc;exact I (i+1) hi (fit hG (by omega) (by omega) hc (ih (by omega))).1
theorem cP{i j:Nat}(G:i<j){c:Int}(hi:c∈anc g.af (nd g i).Scope)(I:c∉anc g.af (nd g j).Scope):∀k,j<=k->k<g.ae.length->c∉anc g.af (nd g k).Scope:=by
 intro k hk;obtain⟨d,rfl⟩:∃d,k=j+d:=⟨k-j,by omega⟩
 induction d with
 |zero=>intro _;exact I
 |succ d T=>
  intro W Z;exact first hG W (by omega) Z (T (by omega) (by omega)) i (by omega) hi
def At(g:aa)(a n:Nat)(sc:Int):Prop:=∀m,a<=m->m<n->∀x,x∈anc g.af (nd g m).Scope->x∈anc g.af (nd g n).Scope->x∈anc g.af sc
structure Blk(g:aa)(a to:Nat)(sc:Int):Prop where
 lt:a<to
 le:to<=g.ae.length
 s0:0<=sc
 s1:sc<g.af.length
 hd:(nd g a).Scope=sc
 inn:∀m,a<=m->m<to->sc∈anc g.af (nd g m).Scope
theorem child{a n to:Nat}{sc:Int}(I:Blk g a to sc)(W:a<=n)(hn:n<to)(hA:At g a n sc)(T:(nd g n).Scope≠sc):g.af.getD (nd g n).Scope.toNat 0=sc/\(nd g n).Scope≠0/\dep g (nd g n).Scope=dep g sc+1:=by
 have Z:n<g.ae.length:=by have:=I.le;omega
 have an:a<n:=by
  rcases Zi W with rfl|h
  . exact absurd I.hd T
  exact h
 obtain⟨k0,k1,_⟩:=q2k hG Z;have a6:=I.inn n W hn;have h2:=q8p hG k0 k1 a6;have G:(nd g n).Scope∈anc g.af (nd g n).Scope:=qu9 hG k0 k1;have aj:(nd g n).Scope∉anc g.af (nd g (n-1)).Scope:=fun h=>by
  have:=q8p hG I.s0 I.s1 (hA (n-1) (by omega) (by omega) _ h G);exact T (by omega)
 obtain⟨_,hp,_⟩:=fit hG Z (by omega) G aj;obtain⟨hz,hq⟩:=z7x hG k0 k1 a6 (fun e=>T e.symm);obtain⟨p0,p1,p2,_⟩:=(z3a hG k0 k1).2.2 hz;have ak:g.af.getD (nd g n).Scope.toNat 0∈anc g.af (nd g n).Scope:=by
  rw[q55 hG.wp k0 k1];exact Xx _ (qu9 hG p0 p1)
 have h3:=q8p hG I.s0 I.s1 (hA (n-1) (by omega) (by omega) _ hp ak);have h4:=q8p hG p0 p1 hq;have he:g.af.getD (nd g n).Scope.toNat 0=sc:=by omega
 exact⟨he,hz,by rw[p2,he]⟩
theorem at_one{a n to:Nat}{sc:Int}(W:Blk g a to sc)(Z:a<=n)(hn:n+1<to)(I:(nd g n).Scope=sc)(hA:At g a n sc):At g a (n+1) sc:=by
 intro m hm a6 x T G;rcases Yw m n with h|h
 . refine Xb fun hc=>?_;exact cP hG h T (by rw[I];exact hc) (n+1) (by omega) (by have:=W.le;omega) G
 obtain rfl:m=n:=by omega
 rw[<-I];exact T
theorem zc3{a n to:Nat}{sc:Int}(hB:Blk g a to sc)(Z:a<=n)(hn:n<to)(a6:(nd g n).Scope≠sc)(hA:At g a n sc){E:Nat}(hE:E<to)(an:n<E)
 (h1:∀m,n<=m->m<E->(nd g n).Scope∈anc g.af (nd g m).Scope)(h2:(nd g n).Scope∉anc g.af (nd g E).Scope):At g a E sc:=by
 have G:E<g.ae.length:=by have:=hB.le;omega
 obtain⟨hp,hz,_⟩:=child hG hB Z hn hA a6;obtain⟨e0,e1,_⟩:=q2k hG G;intro m hm aj x W I;rcases Yw m n with h|h
 . refine hA m hm h x W (Xb fun hc=>?_);exact cP hG h W hc E (by omega) G I
 have T:=h1 m h aj;obtain⟨m0,m1,_⟩:=q2k hG (show m<g.ae.length by omega);obtain⟨k0,k1,_⟩:=q2k hG (show n<g.ae.length by omega);rcases (by omega:x<(nd g n).Scope\/(nd g n).Scope<=x)with ao|ak
 . have:=zy4 hG m0 m1 W T (by omega);have:=(z7x hG k0 k1 this (by omega)).2;rw[hp]at this;exact this
 have h3:=zy4 hG m0 m1 T W ak;exact absurd (zc5 hG e0 e1 I h3) h2
theorem beyond{n to:Nat}(I:to<=g.ae.length){c:Int}{E:Nat}(G:n<E)(T:c∈anc g.af (nd g n).Scope)(W:E<to->c∉anc g.af (nd g E).Scope){m:Nat}(Z:E<=m)(a6:m<to):c∉anc g.af (nd g m).Scope:=
 cP hG G T (W (by omega)) m Z (by omega)
end
end MN
end
section
open Go Go.RowKit TS VA BG
namespace MN
open Classical
noncomputable def q5v(f:ay->List (Nat×ay)):Nat->ay->List (Nat×ay)
 |0,_=>[]
 |k+1,u=>f u++q5v f k (qk4 u)
noncomputable def q76(g:aa)(self:Nat->Nat->Int->ay->List (Nat×ay))(to:Nat)(sc:Int)(t:ay):Nat->Nat->List (Nat×ay)
 |0,_=>[]
 |f+1,n=>
  if n<to then
   if (nd g n).Scope≠sc then q5v (self n (qb6 g (nd g n).Scope to (to-n) n) (nd g n).Scope) (bnd g (nd g n).Scope).toNat (q4s t)++q76 g self to sc t f (qb6 g (nd g n).Scope to (to-n) n)
   else (n,atA g n t)::q76 g self to sc t f (n+1)
  else []
noncomputable def sched(g:aa):Nat->Nat->Nat->Int->ay->List (Nat×ay)
 |0,_,_,_,_=>[]
 |d+1,a,b,sc,t=>q76 g (sched g d) b sc t (b-a) a
noncomputable def q10(g:aa)(aB:Int)(L:List (Nat×ay))(s:MS):MS:=L.foldl (fun s p=>(q0c g aB s p.1 p.2).2) s
theorem qi1(g:aa)(aB:Int)(A B:List (Nat×ay))(s:MS):q10 g aB (A++B) s=q10 g aB B (q10 g aB A s):=X9
theorem q59(g:aa)(aB:Int)(p:Nat×ay)(B:List (Nat×ay))(s:MS):q10 g aB (p::B) s=q10 g aB B (q0c g aB s p.1 p.2).2:=rfl
theorem ql5{g:aa}{aB:Int}{s:MS}{n:Nat}{t:ay}(h:s.ins ⟨n,t⟩=no2\/s.e≠0):q0c g aB s n t=(false,s):=by unfold q0c;rw[if_pos h]
theorem zi6{g:aa}{aB:Int}:∀{L:List (Nat×ay)} {s:MS},(s.e≠0\/∀p∈L,s.ins ⟨p.1,p.2⟩=no2)->q10 g aB L s=s
 |[],_,_=>rfl
 |p::L,s,h=>by
  have:q0c g aB s p.1 p.2=(false,s):=ql5 (h.elim .inr fun h=> .inl (h p (by simp)));rw[q59,this];exact zi6 (h.elim .inl fun h=> .inr fun q G=>h q (by simp[G]))
theorem qm9{g:aa}{aB:Int}{P:MS->Prop}:∀{L:List (Nat×ay)} {s:MS},(∀p∈L,∀s,P s->P (q0c g aB s p.1 p.2).2)->P s->P (q10 g aB L s)
 |[],_,_,h=>h
 |p::L,s,hp,h=>by
  rw[q59];exact qm9 (fun q G=>hp q (by simp[G])) (hp p (by simp) s h)
theorem qi0{g:aa}{aB:Int}{L:List (Nat×ay)}{s:MS}(h:(q10 g aB L s).e=0):s.e=0:=
 Xb fun G=>(qm9 (g:=g) (aB:=aB) (P:=fun s=>s.e≠0) (fun p _ _ I=>j9l I p.1 p.2) G) h
theorem j8o{t:ay}(h:ok (q4s t)):ok t/\t.D≠4/\q4s t=enT t:=by
 unfold q4s at*
 split at h
 . rename_i c;exact⟨c.1,c.2,if_pos c⟩
 exact absurd h.1 (by decide)
theorem ql8{t:ay}(h:ok (ql1 t)):ok t/\t.D≠1/\ql1 t=leT t:=by
 unfold ql1 at*
 split at h
 . rename_i c;exact⟨c.1,c.2,if_pos c⟩
 exact absurd h.1 (by decide)
theorem zh9{t:ay}(h:ok (qk4 t)):ok t/\bb t≠qj1 t/\qk4 t=nxT t:=by
 unfold qk4 at*
 split at h
 . rename_i c;exact⟨c.1,c.2,if_pos c⟩
 exact absurd h.1 (by decide)
theorem qv5{f:ay->List (Nat×ay)}{H:ay->Prop}{Q:Nat×ay->Prop}(G:∀u,H u->H (qk4 u))(I:∀u,H u->∀p∈f u,Q p):∀(k:Nat) (u:ay),H u->∀p∈q5v f k u,Q p
 |0,_,_,p,hp=>by cases hp
 |k+1,u,T,p,hp=>by
  unfold q5v at hp;rcases Xm.1 hp with h|h
  . exact I u T p h
  exact qv5 G I k _ (G u T) p h
theorem zs8{t:ay}{u:ay}(h:ok u->ok t/\under t u/\t.D<u.D):ok (qk4 u)->ok t/\under t (qk4 u)/\t.D<(qk4 u).D:=fun I=>by
 obtain⟨G,_,T⟩:=zh9 I;obtain⟨a,b,c⟩:=h G;rw[T];exact⟨a,(qv3 a G b c).2,by rw[zm9 G];exact c⟩
theorem zi3(t:ay):ok (q4s t)->ok t/\under t (q4s t)/\t.D<(q4s t).D:=fun G=>by
 obtain⟨I,_,T⟩:=j8o G;rw[T];exact⟨I,j0k t⟩
theorem ql6{g:aa}:∀(d a b:Nat) (sc:Int) (t:ay),∀p∈sched g d a b sc t,a<=p.1/\p.1<b/\(ok p.2->ok t/\(under t p.2\/((nd g p.1).Kind=10/\(nd g p.1).Scope=sc/\p.2=ql1 t)))
 |0,_,_,_,_,p,hp=>by cases hp
 |d+1,a,b,sc,t,p,hp=>by
  unfold sched at hp;have key:∀(f n:Nat),∀p∈q76 g (sched g d) b sc t f n,n<=p.1/\p.1<b/\(ok p.2->ok t/\(under t p.2\/((nd g p.1).Kind=10/\(nd g p.1).Scope=sc/\p.2=ql1 t))):=by
   intro f
   induction f with
   |zero=>intro n p hp;cases hp
   |succ f ih=>
    intro n p hp;unfold q76 at hp
    split at hp
    .
     rename_i hn
     split at hp
     .
      obtain⟨e1,e2,_⟩:=qm2 g (nd g n).Scope b (b-n) n (by omega);rcases Xm.1 hp with h|h
      .
       refine qv5 (H:=fun u=>ok u->ok t/\under t u/\t.D<u.D) (Q:=fun p=>n<=p.1/\p.1<b/\(ok p.2->ok t/\(under t p.2\/((nd g p.1).Kind=10/\(nd g p.1).Scope=sc/\p.2=ql1 t)))) (fun u Z=>zs8 Z) (fun u Z q hq=>?_) _ _ (zi3 t) p h;obtain⟨m1,W,I⟩:=ql6 d _ _ _ u q hq;refine⟨m1,by omega,fun G=>?_⟩;obtain⟨k1,T⟩:=I G;obtain⟨u1,u2,u3⟩:=Z k1;refine⟨u1,.inl ?_⟩;rcases T with T|⟨_,_,T⟩
       . exact z2g u2 T
       rw[T]at G⊢;obtain⟨_,_,k3⟩:=ql8 G;rw[k3];exact (qv3 u1 k1 u2 u3).1
      obtain⟨m1,W,I⟩:=ih _ p h;exact⟨by omega,W,I⟩
     rename_i hs
     have hs:(nd g n).Scope=sc:=by simpa using hs
     rcases Xi.1 hp with rfl|h
     .
      refine⟨Xh _,hn,fun G=>?_⟩;dsimp only at G⊢;unfold atA at G⊢
      split at G
      .
       rename_i c
       rw[if_pos c];exact⟨(ql8 G).1,.inr ⟨c,hs,rfl⟩⟩
      rename_i c
      rw[if_neg c];exact⟨G,.inl (qm6 t)⟩
     obtain⟨m1,W,I⟩:=ih _ p h;exact⟨by omega,W,I⟩
    cases hp
  exact key _ _ p hp
theorem zl1{n:Nat}{u:ay}{out:List a8}:∀(G:List aC) (s:MS) (p:ah),(q23 n u out G s).ins p≠no2->s.ins p≠no2\/∃e∈G,e.aL=n/\p=⟨e.To,u⟩
 |[],_,_,h=> .inl h
 |e::G,s,p,h=>by
  rcases zl1 G (q1x n u out s e) p h with h|⟨x,I,T,W⟩
  .
   unfold q1x at h
   split at h
   .
    rename_i Z
    dsimp only at h;rw[qd7]at h
    split at h
    . rename_i hc;exact .inr ⟨e,by simp,Z,hc.2⟩
    exact .inl h
   exact .inl h
  exact .inr ⟨x,by simp[I],T,W⟩
theorem qe1(g:aa)(n:Nat)(t:ay)(s:MS)(p:ah):(aM g n t s).ins p=if p=⟨n,t⟩then no2 else s.ins p:=by
 unfold aM;split<;>rfl
theorem z9c{g:aa}{aB:Int}{s:MS}{n:Nat}{t:ay}(G:(q0c g aB s n t).2.e=0){p:ah}(hp:(q0c g aB s n t).2.ins p≠no2):
 (s.ins p≠no2/\p≠⟨n,t⟩)\/(s.ins ⟨n,t⟩≠no2/\(q0c g aB s n t).1=true/\(q0b g n t).2=true/\∃e∈g.aw,e.aL=n/\p=⟨e.To,(q0b g n t).1⟩):=by
 by_cases h:s.ins ⟨n,t⟩=no2\/s.e≠0
 .
  rw[ql5 h]at G hp;rcases h with h|h
  . exact .inl ⟨hp,fun e=>hp (by rw[e];exact h)⟩
  exact absurd G h
 have Z:s.ins ⟨n,t⟩≠no2:=fun e=>h (.inl e);have W:(aM g n t s).ins p≠no2->s.ins p≠no2/\p≠⟨n,t⟩:=fun I=>by
  rw[qe1]at I
  split at I
  . exact absurd rfl I
  rename_i hc;exact⟨I,hc⟩
 unfold q0c at G hp⊢;rw[if_neg h]at G hp⊢
 generalize aM g n t s=s2 at*
 generalize (if (nd g n).Kind=14 then q6o s2 n t else (s.ins ⟨n,t⟩).a1)=b at*
 unfold q6k at G hp⊢
 cases ha:q3p (nd g n) (s.ins ⟨n,t⟩).a0 b with
 |none=>rw[ha]at hp;exact .inl (W hp)
 |some out=>
  rw[ha]at G hp;dsimp only at G hp⊢
  by_cases T:(nd g n).Kind=15
  . rw[if_pos T]at hp;exact .inl (W hp)
  rw[if_neg T]at G hp⊢
  by_cases I:(q0b g n t).2=false\/out=[]
  . rw[if_pos I]at hp;exact .inl (W hp)
  rw[if_neg I]at G hp⊢;have hu:(q0b g n t).2=true:=by simpa using fun e=>I (.inl e)
  have hp':(q23 n (q0b g n t).1 out g.aw s2).ins p≠no2:=by
   dsimp only at hp
   split at hp<;>exact hp
  rcases zl1 _ _ _ hp' with h1|h1
  . exact .inl (W h1)
  exact .inr ⟨Z,rfl,hu,h1⟩
end MN
end
section
open Go Go.RowKit TS VA BG
namespace MN
open Classical
structure J(g:aa)(a to:Nat)(sc:Int)(t:ay)(n:Nat)(ar:Bool)(s:MS):Prop where
 j1:∀m,n<=m->m<to->∀v,under t v->t.D<v.D->s.ins ⟨(m:Nat),v⟩=no2
 j2:2<=t.D->∀m,a<=m->m<to->∀v,bw t v->s.ins ⟨(m:Nat),v⟩≠no2->ar=true/\v=nxT t
 j3:2<=t.D->∀m,a<=m->m<to->(nd g m).Kind=10->(nd g m).Scope=sc->(m<n\/bb t≠0)->s.ins ⟨(m:Nat),leT t⟩=no2
theorem qe5{g:aa}{m:Nat}{v:ay}(h:PtM g ⟨m,v⟩):m<g.ae.length/\ok v/\v.D=(lev g m:Int):=by
 obtain⟨k,G,I,T,W⟩:=h;obtain rfl:m=k:=by have:(m:Int)=k:=I;omega
 exact⟨G,T,W⟩
section
variable {g:aa} (hG:VA.Good g) {aB:Int}
include hG
theorem zg1{n:Nat}(hn:n<g.ae.length){v:ay}(hv:ok v)(G:(q0b g n v).2=true){t:ay}(ht:ok t)(I:under t v)(h:t.D<v.D\/(nd g n).Kind=10):under t (q0b g n v).1:=by
 by_cases T:(nd g n).Kind=10
 .
  rw[z0g T]at G⊢
  split
  . exact z2g I (j0k v).1
  rename_i c;rw[if_neg c]at G;cases G
 have h:=h.resolve_right T
 by_cases W:(nd g n).Kind=11
 .
  rw[z2x W]at G⊢
  split
  . exact (qv3 ht hv I h).1
  rename_i c;rw[if_neg c]at G;cases G
 by_cases Z:(nd g n).Kind=12
 .
  rw[z0f Z]at G⊢
  split
  . exact (qv3 ht hv I h).2
  rename_i c;rw[if_neg c]at G;cases G
 rw[qt1 T W Z];exact I
theorem zj8{a to n E:Nat}{sc:Int}{t:ay}{ar:Bool}(hB:Blk g a to sc)(ht:ok t)(hD:t.D=(dep g sc:Int))(hp:g.af.getD (nd g n).Scope.toNat 0=sc)(hd:dep g (nd g n).Scope=dep g sc+1)(b4:n<E)(hE:E<=to)
 (h1:∀m,n<=m->m<E->(nd g n).Scope∈anc g.af (nd g m).Scope)(h2:E<to->(nd g n).Scope∉anc g.af (nd g E).Scope){G:Nat}{v0:ay}(hm:n<=G)(b5:G<E)(hv:ok v0->under t v0){s:MS}(hW:W g s)(hJ:s.e=0->J g a to sc t E ar s):
 W g (q0c g aB s G v0).2/\((q0c g aB s G v0).2.e=0->J g a to sc t E ar (q0c g aB s G v0).2):=by
 have a6:G<g.ae.length:=by have:=hB.le;omega
 obtain⟨b6,hK⟩:=z6r hG aB a6 (t:=v0) (e:=v0.C.a0) (fun _=>rfl) hW;refine⟨b6,fun hz=>?_⟩;have hJ:=hJ (Xb fun hx=>hK.dead hx hz);have bi:n<g.ae.length:=by omega
 obtain⟨n0,n1,_⟩:=q2k hG bi;obtain⟨q0,q1,_⟩:=q2k hG a6;have hc:=h1 G hm b5
 have new:∀p,(q0c g aB s G v0).2.ins p≠no2->s.ins p≠no2\/(under t p.time/\∃e∈g.aw,e.aL=G/\p.node=e.To/\p.time.D=(lev g e.To.toNat:Int)):=fun p hx=>by
  rcases z9c hz hx with h|⟨k1,_,k3,e,k4,k5,rfl⟩
  . exact .inl h.1
  have an:=hW _ k1;obtain⟨_,ao,bv⟩:=qe5 an;refine .inr ⟨zg1 hG a6 ao k3 ht (hv ao) ?_,e,k4,k5,rfl,?_⟩
  .
   by_cases aq:(nd g G).Kind=10
   . exact .inr aq
   have:lev g G=dep g (nd g G).Scope:=by unfold lev q7w;rw[if_neg aq]
   have:=j9q hG q0 q1 hc;exact .inl (by omega)
  obtain⟨w,_,w1,w2,w3⟩:=(ze8 hG a6 an k3 k4 k5).1;dsimp only at w1 w3⊢;rw[w1,Xe];exact w3
 refine⟨fun m I T v hu hl=>Xb fun hx=>?_,fun aj m I T v hl hx=>?_,fun aj m I T k1 k2 k3=>Xb fun hx=>?_⟩
 .
  rcases new _ hx with h|⟨_,e,he,hf,ak,b1⟩
  . exact h (hJ.j1 m I T v hu hl)
  dsimp only at ak b1;obtain⟨_,_,_,_,e5,_⟩:=hG.ed.at he;have ef:ndI g e.aL=nd g G:=by rw[hf];unfold ndI;rw[Xe]
  have et:ndI g e.To=nd g m:=by rw[<-ak];unfold ndI;rw[Xe]
  rw[ef,et]at e5;rw[<-ak,Xe]at b1;have b2:m<g.ae.length:=by have:=hB.le;omega
  obtain⟨r0,r1,r2⟩:=q2k hG b2;have Z:(nd g n).Scope∈anc g.af (q4t g (nd g G)):=by
   unfold q4t
   split
   .
    rename_i bs
    by_cases b3:(nd g G).Scope=(nd g n).Scope
    .
     exfalso
     have:lev g m=dep g sc:=by
      unfold lev;rw[<-e5];unfold q4t;rw[if_pos bs,b3,hp]
     omega
    exact (z7x hG q0 q1 hc (fun e=>b3 e.symm)).2
   exact hc
  rw[e5]at Z;have:(nd g n).Scope∈anc g.af (nd g m).Scope:=by
   unfold q7w at Z
   split at Z
   . rw[q55 hG.wp r0 r1];exact Xx _ Z
   exact Z
  exact beyond hG hB.le b4 (qu9 hG n0 n1) h2 I T this
 .
  rcases new _ hx with h|⟨h,_⟩
  . exact hJ.j2 aj m I T v hl h
  exact absurd hl (z2s ht h)
 rcases new _ hx with h|⟨h,_⟩
 . exact h (hJ.j3 aj m I T k1 k2 k3)
 have h3:=j6q ht (by omega);have:=h.1;dsimp only at this;omega
theorem j1b{a to n:Nat}{sc:Int}{t:ay}{ar:Bool}(hB:Blk g a to sc)(ht:ok t)(b5:a<=n)(hn:n<to)(hs:(nd g n).Scope=sc){s:MS}(hW:W g s)(hJ:s.e=0->J g a to sc t n ar s):
 W g (q0c g aB s n (atA g n t)).2/\((q0c g aB s n (atA g n t)).2.e=0->J g a to sc t (n+1) (ar||((q0c g aB s n (atA g n t)).1&&(nd g n).Kind==12)) (q0c g aB s n (atA g n t)).2):=by
 have b1:n<g.ae.length:=by have:=hB.le;omega
 obtain⟨b6,hK⟩:=z6r hG aB b1 (t:=atA g n t) (e:=(atA g n t).C.a0) (fun _=>rfl) hW;refine⟨b6,fun hz=>?_⟩;have hJ:=hJ (Xb fun hx=>hK.dead hx hz);have ao:t.D≠1->(leT t).D=t.D-1:=j6q ht;have bi:(nxT t).D=t.D:=zm9 ht
 have new:∀p,(q0c g aB s n (atA g n t)).2.ins p≠no2->(s.ins p≠no2/\p≠⟨(n:Nat),atA g n t⟩)\/(p.time=t\/(t.D≠1/\p.time=leT t/\(nd g n).Kind=11/\∃e∈g.aw,e.aL=n/\p.node=e.To)\/(2<=t.D/\p.time=nxT t/\(q0c g aB s n (atA g n t)).1=true/\(nd g n).Kind=12)):=fun p hx=>by
  rcases z9c hz hx with h|⟨k1,k2,I,e,k4,k5,rfl⟩
  . exact .inl h
  obtain⟨_,b2,bs⟩:=qe5 (hW _ k1);refine .inr ?_;dsimp only
  by_cases T:(nd g n).Kind=10
  .
   have ak:atA g n t=ql1 t:=by unfold atA;rw[if_pos T]
   rw[ak]at k1 I b2⊢;obtain⟨_,h1,h2⟩:=ql8 b2;rw[h2]at k1 I⊢;have Z:2<=t.D:=by have:=ht.1;omega
   have h0:bb t=0:=Xb fun h0=>k1 (hJ.j3 Z n b5 hn T hs (.inr h0));rw[z0g T]at I⊢
   split
   . exact .inl (jm1 ht Z h0)
   rename_i c;rw[if_neg c]at I;cases I
  have ak:atA g n t=t:=by unfold atA;rw[if_neg T]
  rw[ak]at k1 k2 I⊢
  by_cases a6:(nd g n).Kind=11
  .
   rw[z2x a6]at I⊢
   split
   . rename_i c;exact .inr (.inl ⟨c.2,rfl,a6,e,k4,k5,rfl⟩)
   rename_i c;rw[if_neg c]at I;cases I
  by_cases aq:(nd g n).Kind=12
  .
   rw[z0f aq]at I⊢
   split
   .
    obtain⟨r0,r1,r2⟩:=q2k hG b1;have hl:lev g n=dep g (nd g n).Scope:=by unfold lev q7w;rw[if_neg T]
    have h3:=((z3a hG r0 r1).2.2 (r2 (by omega))).2.2.2;rw[ak]at bs;exact .inr (.inr ⟨by omega,rfl,k2,aq⟩)
   rename_i c;rw[if_neg c]at I;cases I
  rw[qt1 T a6 aq];exact .inl rfl
 refine⟨fun m an aj v hu hl=>Xb fun hx=>?_,fun Z m an aj v hl hx=>?_,fun Z m an aj k1 k2 I=>Xb fun hx=>?_⟩
 .
  rcases new _ hx with h|h|⟨h,G,_⟩|⟨h,G,_⟩
  . exact h.1 (hJ.j1 m (by omega) aj v hu hl)
  . dsimp only at h;subst h;omega
  . dsimp only at G;subst G;have:=ao h;omega
  dsimp only at G;subst G;omega
 .
  rcases new _ hx with h|h|⟨h,G,_⟩|⟨h,G,h1,h2⟩
  . obtain⟨r1,r2⟩:=hJ.j2 Z m an aj v hl h.1;exact⟨by rw[r1];rfl,r2⟩
  . dsimp only at h;subst h;exact absurd hl (z2s ht (qm6 _))
  . dsimp only at G;subst G;have:=ao h;have:=hl.1;omega
  dsimp only at G;exact⟨by rw[h1,h2];simp,G⟩
 have b3:=ao (by omega);rcases new _ hx with h|h|⟨h,G,a6,e,he,hf,b4⟩|⟨h,G,_⟩
 .
  by_cases bv:m=n
  .
   subst bv;refine h.2 ?_;have:atA g m t=leT t:=by
    unfold atA ql1;rw[if_pos k1,if_pos ⟨ht,by omega⟩]
   rw[this]
  exact h.1 (hJ.j3 Z m an aj k1 k2 (by omega))
 . dsimp only at h;rw[h]at b3;omega
 .
  dsimp only at b4;have c0:m<g.ae.length:=by have:=hB.le;omega
  refine hG.ag m c0 ⟨k1,?_⟩;have c1:leaves g (nd g m).Scope e.aL=true:=by
   unfold leaves;rw[hf];unfold ndI;rw[Xe,a6,hs,k2];simp
  rw[b4];exact .dy e he c1
 dsimp only at G;rw[G,bi]at b3;omega
end
end MN
end
section
open Go Go.RowKit TS VA BG
namespace MN
open Classical
section
variable {g:aa} (hG:VA.Good g) {aB:Int}
include hG
theorem jz7{L:List (Nat×ay)}(G:∀p∈L,p.1<g.ae.length){s:MS}(I:W g s):W g (q10 g aB L s):=
 qm9 (P:=fun s=>W g s) (fun p hp s T=>(z6r hG aB (G p hp) (t:=p.2) (e:=p.2.C.a0) (fun _=>rfl) T).1) I
def zc9(g:aa)(aB:Int)(d:Nat):Prop:=∀{a to:Nat} {sc:Int} {t:ay} {s:MS},Blk g a to sc->g.af.length-sc.toNat<=d->ok t->t.D=(dep g sc:Int)->W g s->(s.e=0->J g a to sc t a false s)->
 (q4o g aB d a to sc t s).2=q10 g aB (sched g d a to sc t) s/\((q4o g aB d a to sc t s).2.e=0->J g a to sc t to (q4o g aB d a to sc t s).1 (q4o g aB d a to sc t s).2)
theorem zx1{d:Nat}(hr:zc9 g aB d){a to:Nat}{sc:Int}(hB:Blk g a to sc)(hd:g.af.length-sc.toNat<=d):
 ∀(k:Nat) (u:ay) (s:MS),ok u->u.D=(dep g sc:Int)->2<=u.D->bb u+k<=64->W g s->(s.e=0->J g a to sc u a false s)->z6i (q4o g aB d a to sc) k u s=q10 g aB (q5v (sched g d a to sc) k u) s
 |0,_,_,_,_,_,_,_,_=>rfl
 |k+1,u,s,T,hD,Z,hl,hW,hJ=>by
  obtain⟨h3,h4⟩:=hr hB hd T hD hW hJ;have b4:=hB.le;have hL:∀(v:ay),∀p∈sched g d a to sc v,a<=p.1/\p.1<to:=fun v p hp=>by
   obtain⟨m1,m2,_⟩:=ql6 d a to sc v p hp;exact⟨m1,m2⟩
  unfold z6i q5v;rw[qi1,<-h3];have an:W g (q4o g aB d a to sc u s).2:=by rw[h3];exact jz7 hG (fun p hp=>by have:=hL u p hp;omega) hW
  have h0:=j1t T;have ao:qj1 u=64:=by unfold qj1;rw[if_neg (by omega)]
  have aq:=za9 T (by rw[ao];omega);have ar:=zm9 T;obtain⟨b1,b5⟩:=jk5 T Z
  generalize (q4o g aB d a to sc u s).2=s' at*
  by_cases hb:(q4o g aB d a to sc u s).1=true
  .
   rw[if_pos hb];rw[hb]at h4
   cases k with
   |zero=>rfl
   |succ k=>
    have b2:qk4 u=nxT u:=by unfold qk4;rw[if_pos ⟨T,by rw[ao];omega⟩]
    rw[b2];refine zx1 hr hB hd (k+1) (nxT u) s' aq (by rw[ar];exact hD) (by omega) (by omega) an fun hz=>?_;have G:=h4 hz;refine⟨fun m a6 I v hv hl=>Xb fun hx=>?_,fun _ m a6 I v hv hx=>?_,fun _ m a6 I k1 k2 _=>?_⟩
    . have:=(G.j2 Z m a6 I v (z8m T Z hv) hx).2;rw[this]at hl;omega
    . have:=(G.j2 Z m a6 I v (j1r T Z hv) hx).2;rw[this]at hv;exact absurd hv (z2s aq (qm6 _))
    rw[b1];exact G.j3 Z m a6 I k1 k2 (.inl I)
  rw[if_neg hb];have hb:(q4o g aB d a to sc u s).1=false:=by simpa using hb
  rw[hb]at h4
  symm
  refine zi6 ?_
  by_cases hz:s'.e=0
  .
   have G:=h4 hz;refine .inr fun p hp=>Xb fun hx=>?_;refine qv5 (H:=fun u'=>ok u'->bw u u'/\u'.D=u.D) (Q:=fun p=>s'.ins ⟨(p.1:Nat),p.2⟩=no2) (fun u' aj hk=>?_) (fun u' aj q hq=>?_) k (qk4 u) (fun hk=>?_) p hp |> hx
   . obtain⟨k1,k2,k3⟩:=zh9 hk;obtain⟨c1,c2⟩:=aj k1;rw[k3];exact j93 T Z c1 c2
   .
    refine Xb fun hx=>?_;obtain⟨m1,m2,m3⟩:=ql6 d a to sc u' q hq;have b3:=an _ hx;have ak:=(qe5 b3).2.1;obtain⟨k1,k2⟩:=m3 ak;obtain⟨c1,c2⟩:=aj k1;rcases k2 with k2|⟨k2,k3,k4⟩
    .
     have:=(G.j2 Z q.1 m1 m2 q.2 (j3p T c1 c2 k2) hx).1
     cases this
    rw[k4]at ak hx;obtain⟨_,_,k5⟩:=ql8 ak;rw[k5,jf9 T k1 Z c1 c2]at hx;exact hx (G.j3 Z q.1 m1 m2 k2 k3 (.inl m2))
   obtain⟨k1,k2,k3⟩:=zh9 hk;rw[k3];exact⟨z8m T Z (qm6 _),ar⟩
  exact .inl hz
theorem z8z{d:Nat}(hr:zc9 g aB d){a to:Nat}{sc:Int}(hB:Blk g a to sc)(hd:g.af.length-sc.toNat<=d+1){t:ay}(ht:ok t)(hD:t.D=(dep g sc:Int)):
 ∀(f n:Nat) (ar:Bool) (s:MS),to-n<=f->a<=n->n<=to->(n<to->At g a n sc)->W g s->(s.e=0->J g a to sc t n ar s)->
  (ql0 g aB (q4o g aB d) to sc t f ar n s).2=q10 g aB (q76 g (sched g d) to sc t f n) s/\((ql0 g aB (q4o g aB d) to sc t f ar n s).2.e=0->J g a to sc t to (ql0 g aB (q4o g aB d) to sc t f ar n s).1 (ql0 g aB (q4o g aB d) to sc t f ar n s).2)
 |0,n,ar,s,hf,Z,b4,_,_,T=>by
  obtain rfl:n=to:=by omega
  exact⟨rfl,T⟩
 |f+1,n,ar,s,hf,Z,b4,hA,hW,T=>by
  have c6:=hB.le;unfold ql0 q76
  by_cases hn:n<to
  .
   rw[if_pos hn,if_pos hn];have bs:n<g.ae.length:=by omega
   obtain⟨k0,k1,_⟩:=q2k hG bs
   by_cases hs:(nd g n).Scope≠sc
   .
    rw[if_pos hs,if_pos hs,qi1];obtain⟨hp,hz,bv⟩:=child hG hB Z hn (hA hn) hs;have an:=qu9 hG k0 k1;have ao:=ze6 (g:=g) hn an;obtain⟨_,b5,a6,aj⟩:=qm2 g (nd g n).Scope to (to-n) n b4;have aj:=aj (Xh _);obtain⟨b1,b2⟩:=j2t hG k0 k1
    generalize qb6 g (nd g n).Scope to (to-n) n=E at*
    have c0:Blk g n E (nd g n).Scope:=⟨ao,by omega,k0,k1,rfl,a6⟩;have c5:=q8p hG k0 k1 (hB.inn n Z hn);have c1:g.af.length-(nd g n).Scope.toNat<=d:=by omega
    have h4:=(z3a hG k0 k1).2.1;have ak:t.D≠4:=by omega
    have c2:q4s t=enT t:=by unfold q4s;rw[if_pos ⟨ht,ak⟩]
    obtain⟨l1,l2⟩:=jk6 ht ak;have hl:z6i (q4o g aB d n E (nd g n).Scope) (bnd g (nd g n).Scope).toNat (q4s t) s=q10 g aB (q5v (sched g d n E (nd g n).Scope) (bnd g (nd g n).Scope).toNat (q4s t)) s:=by
     rw[c2];refine zx1 hG hr c0 c1 _ _ _ (zm6 ht ak) (by show t.D+1=_;omega) (by show 2<=t.D+1;have:=ht.1;omega) (by omega) hW fun hz=>?_;have T:=T hz;refine⟨fun m G I v hv hl=>?_,fun _ m G I v hv hx=>?_,fun _ m G I _ _ hx=>?_⟩
     . obtain⟨q1,q2⟩:=zu7 hv;exact T.j1 m G (by omega) v q1 q2
     . obtain⟨q1,q2⟩:=j1s ht ak hv;exact absurd (T.j1 m G (by omega) v q1 q2) hx
     rcases hx with hx|hx
     . omega
     exact absurd l2 hx
    rw[hl];have b6:∀p∈q5v (sched g d n E (nd g n).Scope) (bnd g (nd g n).Scope).toNat (q4s t),n<=p.1/\p.1<E/\(ok p.2->under t p.2):=by
     refine qv5 (H:=fun u=>ok u->ok t/\under t u/\t.D<u.D) (fun u hu=>zs8 hu) (fun u hu q hq=>?_) _ _ (zi3 t);obtain⟨m1,m2,m3⟩:=ql6 d _ _ _ u q hq;refine⟨m1,m2,fun hk=>?_⟩;obtain⟨k1,k2⟩:=m3 hk;obtain⟨u1,u2,u3⟩:=hu k1;rcases k2 with k2|⟨_,_,k2⟩
     . exact z2g u2 k2
     rw[k2]at hk⊢;obtain⟨_,_,k3⟩:=ql8 hk;rw[k3];exact (qv3 u1 k1 u2 u3).1
    have c3:s.e=0->J g a to sc t E ar s:=fun hz=>by
     have T:=T hz;refine⟨fun m G I=>T.j1 m (by omega) I,T.j2,fun h2 m G I k1 k2 k3=>?_⟩
     by_cases c4:m<n
     . exact T.j3 h2 m G I k1 k2 (.inl c4)
     by_cases bi:m<E
     . have h5:=a6 m (by omega) bi;rw[k2]at h5;have:=q8p hG hB.s0 hB.s1 h5;exact absurd (by omega) hs
     exact T.j3 h2 m G I k1 k2 (.inr (k3.resolve_left bi))
    obtain⟨aq,b3⟩:=qm9 (g:=g) (aB:=aB) (P:=fun s=>W g s/\(s.e=0->J g a to sc t E ar s)) (L:=q5v (sched g d n E (nd g n).Scope) (bnd g (nd g n).Scope).toNat (q4s t)) (fun p hp' x hx=>by
     obtain⟨m1,m2,m3⟩:=b6 p hp';exact zj8 hG hB ht hD hp bv ao b5 a6 aj m1 m2 m3 hx.1 hx.2) ⟨hW,c3⟩
    exact z8z hr hB hd ht hD f E ar _ (by omega) (by omega) b5 (fun h=>zc3 hG hB Z hn hs (hA hn) h ao a6 (aj h)) aq b3
   rw[if_neg hs,if_neg hs,q59];have hs:(nd g n).Scope=sc:=by simpa using hs
   obtain⟨aq,b3⟩:=j1b hG (aB:=aB) hB ht Z hn hs hW T;exact z8z hr hB hd ht hD f (n+1) _ _ (by omega) (by omega) hn (fun h=>at_one hG hB Z h hs (hA hn)) aq b3
  rw[if_neg hn,if_neg hn];obtain rfl:n=to:=by omega
  exact⟨rfl,T⟩
theorem zl5:∀d:Nat,zc9 g aB d
 |0,a,to,sc,t,s,G,hd,_,_,_,_=>by have:=G.s0;have:=G.s1;omega
 |d+1,a,to,sc,t,s,G,hd,I,T,W,Z=>by
  unfold q4o sched;exact z8z hG (zl5 d) G hd I T (to-a) a false s (Xh _) (Xh _) (Nat.le_of_lt G.lt) (fun _ m h1 h2=>by omega) W Z
end
end MN
end
section
open Go Go.RowKit TS VA BG
namespace MN
open Classical
theorem j17{a:List a8}(h:Fn a)(G:tot a<=50000000):q0g a []=a:=by
 obtain⟨_,I,_,T⟩:=q7j h Fn.nil (by simp[tot]at G⊢;omega);exact Rt.unique I.rt h.rt fun x=>by rw[T];simp[cnt]
theorem jf0{a:List a8}(h:Fn a)(G:tot a<=50000000):q0g [] a=a:=by
 obtain⟨_,I,_,T⟩:=q7j Fn.nil h (by simp[tot]at G⊢;omega);exact Rt.unique I.rt h.rt fun x=>by rw[T];simp[cnt]
noncomputable def q58(g:aa)(e:Int):List (Nat×ay):=sched g 8 0 g.ae.length 0 (ep e)
noncomputable def q9k(g:aa)(aB:Int)(G:List Int)(s:MS):MS:=q10 g aB (G.flatMap (q58 g)) s
theorem z0z(g:aa)(aB:Int)(e:Int)(G:List Int)(s:MS):q9k g aB (e::G) s=q9k g aB G (q10 g aB (q58 g e) s):=by
 unfold q9k;rw[Yi,qi1]
theorem z9z{g:aa}{e:Int}:∀p∈q58 g e,p.1<g.ae.length:=fun p hp=>(ql6 8 0 _ 0 (ep e) p hp).2.1
theorem zv5{g:aa}{e:Int}:∀p∈q58 g e,ok p.2->p.2.C.a0=e:=fun p hp G=>by
 obtain⟨_,h|⟨_,_,h⟩⟩:=(ql6 8 0 _ 0 (ep e) p hp).2.2 G
 . exact h.2.1.symm
 rw[h]at G;exact absurd rfl (ql8 G).2.1
section
variable {g:aa} (hG:VA.Good g) {aB:Int}
include hG
theorem zd3:Blk g 0 g.ae.length 0:=by
 have W:=hG.nl;have Z:=hG.pl;have G:=(q9j (hG.no 0 (by omega))).2.2.2.2.1;unfold fits at G;rw[if_pos rfl,beq_iff_eq]at G;refine⟨by omega,Xh _,by omega,by omega,G,fun m _ I=>?_⟩;obtain⟨k0,T,_⟩:=q2k hG I;exact zr5 hG ((nd g m).Scope.toNat+1) _ k0 T (by omega)
theorem j76{e:Int}(I:0<=e/\e<=1048576){s:MS}(T:W g s)(hp:∀p,s.ins p≠no2->p.time.C.a0=e->p.time.D=1):zp0 g aB s e=q10 g aB (q58 g e) s:=by
 have h2:=hG.pl;refine (zl5 hG (aB:=aB) 8 (zd3 hG) (by omega) (j02 I) (by rw[ji1 hG];rfl) T fun _=>⟨fun m _ _ v Z G=>Xb fun hx=>?_,fun h=>absurd h (by show ¬(2:Int)<=1;decide),fun h=>absurd h (by show ¬(2:Int)<=1;decide)⟩).1;have h1:v.D=1:=hp ⟨(m:Int),v⟩ hx Z.2.1.symm;rw[h1]at G;exact absurd G (by show ¬(1:Int)<1;decide)
theorem z6y{e:Int}{s:MS}(I:W g s):W g (q10 g aB (q58 g e) s)/\ch g e s (q10 g aB (q58 g e) s):=
 qm9 (P:=fun x=>W g x/\ch g e s x) (fun p hp x G=>by
  obtain⟨T,Z⟩:=z6r hG aB (z9z p hp) (zv5 p hp) G.1;exact⟨T,G.2.trans Z⟩) ⟨I,ch.refl _ _ _⟩
theorem zx8:∀(G:List Int) (s:MS),G.Pairwise (· <·)->(∀e∈G,0<=e/\e<=1048576)->W g s->(∀p,s.ins p≠no2->p.time.C.a0∈G->p.time.D=1)->G.foldl (zp0 g aB) s=q9k g aB G s
 |[],_,_,_,_,_=>rfl
 |e::G,s,hs,hr,hW,hp=>by
  obtain⟨h1,h2⟩:=Xp.1 hs;rw[Y0,z0z,j76 hG (hr e (by simp)) hW fun p I T=>hp p I (by rw[T];simp)];obtain⟨k1,k2⟩:=z6y hG (aB:=aB) (e:=e) hW;refine zx8 G _ h2 (fun x I=>hr x (by simp[I])) k1 fun p I T=>?_;have Z:p.time.C.a0≠e:=fun h=>by have:=h1 _ T;omega
  rw[k2.ins p Z]at I;exact hp p I (by simp[T])
theorem zb3(q:Int->Bool):∀(G:List Int) (s:MS),G.Pairwise (· <·)->W g s->(∀p,s.ins p≠no2->p.time.C.a0∈G->q p.time.C.a0=true)->q9k g aB (G.filter q) s=q9k g aB G s
 |[],_,_,_,_=>rfl
 |e::G,s,hs,Z,hp=>by
  obtain⟨h1,h2⟩:=Xp.1 hs;rw[z0z]
  by_cases he:q e=true
  .
   rw[Xr he,z0z];obtain⟨k1,k2⟩:=z6y hG (aB:=aB) (e:=e) Z;refine zb3 q G _ h2 k1 fun p I T=>?_;have a6:p.time.C.a0≠e:=fun h=>by have:=h1 _ T;omega
   rw[k2.ins p a6]at I;exact hp p I (by simp[T])
  rw[Xy he];have hid:q10 g aB (q58 g e) s=s:=zi6 (.inr fun p aj=>Xb fun I=>by
   have ak:=(qe5 (Z _ I)).2.1;have h3:=zv5 p aj ak;have h4:=hp _ I (by dsimp only;rw[h3];simp);dsimp only at h4;rw[h3]at h4;exact he h4)
  rw[hid];exact zb3 q G s h2 Z fun p I T=>hp p I (by simp[T])
end
theorem zs7{aE:List aN}(G:∀f∈aE,OP.rR f.Rec)(T:aE.length<=1000){p:ah}(h:(q25 aE).ins p≠no2):p.time.D=1/\p.time.C.a0∈aE.map (·.aQ):=by
 obtain⟨W,Z,h3⟩:=(z0d aE G T).1 p;refine Xb fun hc=>h (z9k (Rt.unique W.rt Rt.nil fun x=>?_) Z);rw[h3]
 show cE aE p x=0
 unfold cE;rw[Y7.2]
 . rfl
 intro f hf I;simp only[decide_eq_true_eq]at I;refine hc ?_;rw[<-I.1];exact⟨rfl,Yb.2 ⟨f,hf,rfl⟩⟩
theorem z8q{g:aa}(hG:VA.Good g){aB:Int}{F:List aN}(hF:∀f∈F,q7b g f){X:List aN}(I:∀f∈X,OP.rR f.Rec)(hX:X.length<=1000)(hs:∀f∈X,f∈F):q4h g aB X=q9k g aB (q54 F) (q25 X):=by
 have hE:=z2a F;have hr:∀e∈q54 F,0<=e/\e<=1048576:=fun e h=>by
  obtain⟨f,T,rfl⟩:=Yb.1 ((hE.mem e).1 h);exact (hF f T).2.2.2
 have W:=j99 hG X fun f T=>hF f (hs f T);have Z:=z2a X;have G:q54 X=(q54 F).filter fun e=>decide (e∈X.map (·.aQ)):=da.unique Z ⟨hE.inc.sublist List.filter_sublist,fun x=>by
  rw[Yd,hE.mem,decide_eq_true_eq];refine⟨fun h=>h.2,fun h=>⟨?_,h⟩⟩;obtain⟨f,T,rfl⟩:=Yb.1 h;exact Yb.2 ⟨f,hs f T,rfl⟩⟩
 have h1:q4h g aB X=q9k g aB (q54 X) (q25 X):=zx8 hG (q54 X) (q25 X) Z.inc (fun e h=>hr e (by rw[G]at h;exact (Yd.1 h).1)) W fun p hp _=>(zs7 I hX hp).1;rw[h1,G];exact zb3 hG (fun e=>decide (e∈X.map (·.aQ))) _ _ hE.inc W fun p hp _=>decide_eq_true (zs7 I hX hp).2
end MN
end
section
open Go Go.RowKit TS VA BG
namespace MN
open Classical
structure Nz(g:aa)(n0 p0:Nat):Prop where
 lt:n0<g.ae.length
 pl:p0<g.ae.length
 ne:p0≠n0
 k0:(nd g n0).Kind≠10/\(nd g n0).Kind≠11/\(nd g n0).Kind≠12
 src:∀e∈g.aw,e.To=(n0:Int)->e.aL=(p0:Int)
 own:∃e∈g.aw,e.aL=(p0:Int)/\e.To=(n0:Int)
def Cons(g:aa)(G m:Nat):Prop:=∃e∈g.aw,e.aL=(G:Int)/\e.To=(m:Int)
def plain(g:aa)(p:Nat):Prop:=(nd g p).Kind≠10/\(nd g p).Kind≠11/\(nd g p).Kind≠12
def N0(G:Nat)(X:ay->Prop)(s:MS):Prop:=∀t,s.ins ⟨(G:Nat),t⟩≠no2->X t
def z11(f2:MS->Nat->ay->MS)(L:List (Nat×ay))(s:MS):MS:=L.foldl (fun s p=>f2 s p.1 p.2) s
def Step(g:aa)(aB:Int)(G I:Nat)(f2:MS->Nat->ay->MS)(R:MS->MS->Prop):Prop:=∀(m:Nat) (v:ay) (s s':MS),m<g.ae.length->W g s->R s s'->(q0c g aB s m v).2.e=0->
 (Cons g G m->PtM g ⟨m,v⟩->s.ins ⟨G,v⟩=no2)->(m=I->plain g I->s.ins ⟨G,v⟩=no2)->R (q0c g aB s m v).2 (f2 s' m v)
theorem zb5(f2:MS->Nat->ay->MS)(A B:List (Nat×ay))(s:MS):z11 f2 (A++B) s=z11 f2 B (z11 f2 A s):=X9
theorem flat{g:aa}{aB:Int}{f2:MS->Nat->ay->MS}{P:MS->Prop}{R:MS->MS->Prop}:∀(L:List (Nat×ay)) (s s':MS),(∀p∈L,∀s s',P s->R s s'->(q0c g aB s p.1 p.2).2.e=0->P (q0c g aB s p.1 p.2).2/\R (q0c g aB s p.1 p.2).2 (f2 s' p.1 p.2))->P s->R s s'->
 (q10 g aB L s).e=0->P (q10 g aB L s)/\R (q10 g aB L s) (z11 f2 L s')
 |[],_,_,_,hp,G,_=>⟨hp,G⟩
 |p::L,s,s',h,hp,G,I=>by
  rw[q59]at I⊢;obtain⟨T,W⟩:=h p (by simp) s s' hp G (qi0 I);exact flat L _ _ (fun q Z=>h q (by simp[Z])) T W I
section
variable {g:aa} (hG:VA.Good g) {aB:Int} {n0 p0:Nat} (hN:Nz g n0 p0) {f2:MS->Nat->ay->MS} {R:MS->MS->Prop} (hS:Step g aB n0 p0 f2 R)
include hG hN
theorem Nz.dG:q4t g (nd g p0)=(nd g n0).Scope/\(n0<p0->(nd g p0).Kind=12):=by
 obtain⟨e,he,G,I⟩:=hN.own;obtain⟨_,_,_,_,T,W,_⟩:=hG.ed.at he;have Z:ndI g e.aL=nd g p0:=by rw[G];unfold ndI;rw[Xe]
 have et:ndI g e.To=nd g n0:=by rw[I];unfold ndI;rw[Xe]
 rw[Z,et]at T;rw[Z]at W;refine⟨by rw[T];unfold q7w;rw[if_neg hN.k0.1],fun h=>W (by rw[G,I];omega)⟩
theorem Nz.cons{m:Nat}(h:Cons g n0 m):n0<m/\q7w g (nd g m)=(nd g n0).Scope/\m<g.ae.length:=by
 obtain⟨e,he,G,I⟩:=h;obtain⟨_,e2,_,_,T,W,_⟩:=hG.ed.at he;have Z:ndI g e.aL=nd g n0:=by rw[G];unfold ndI;rw[Xe]
 have et:ndI g e.To=nd g m:=by rw[I];unfold ndI;rw[Xe]
 rw[Z,et]at T;rw[Z]at W;refine⟨Xb fun hx=>hN.k0.2.2 (W (by rw[G,I];omega)),by rw[<-T];unfold q4t;rw[if_neg hN.k0.2.1],?_⟩;have:=e2.2;omega
omit hG in
theorem j4s{s:MS}{m:Nat}{v:ay}(I:(q0c g aB s m v).2.e=0){t:ay}(h:(q0c g aB s m v).2.ins ⟨(n0:Nat),t⟩≠no2):
 (s.ins ⟨(n0:Nat),t⟩≠no2/\¬(m=n0/\t=v))\/(m=p0/\t=(q0b g p0 v).1/\(q0b g p0 v).2=true/\s.ins ⟨(p0:Nat),v⟩≠no2):=by
 rcases z9c I h with⟨G,T⟩|⟨G,_,W,e,Z,hf,hp⟩
 . exact .inl ⟨G,fun⟨a,b⟩=>T (by rw[a,b])⟩
 simp only[ah.mk.injEq]at hp;have:=hN.src e Z hp.1.symm;have:m=p0:=by omega
 subst this;exact .inr ⟨rfl,hp.2,W,G⟩
omit hN in
theorem j9a{a n to:Nat}{sc:Int}(I:Blk g a to sc)(T:a<=n)(hn:n<to)(hA:At g a n sc)(W:(nd g n).Scope≠sc){E:Nat}(Z:n<E)(h2:E<to->(nd g n).Scope∉anc g.af (nd g E).Scope){m:Nat}(a6:a<=m)(aj:m<to)
 (h:(nd g n).Scope∈anc g.af (nd g m).Scope):n<=m/\m<E:=by
 have ak:=I.le;obtain⟨k0,k1,_⟩:=q2k hG (show n<g.ae.length by omega);have G:=qu9 hG k0 k1;refine⟨Xb fun hx=>?_,Xb fun hx=>beyond hG ak Z G h2 (by omega) aj h⟩;have h3:=q8p hG I.s0 I.s1 (hA m a6 (by omega) _ h G);have h4:=q8p hG k0 k1 (I.inn n T hn);exact W (by omega)
end
end MN
end
section
open Go Go.RowKit TS VA BG
namespace MN
open Classical
theorem k0u{t:ay}(G:ok t)(I:2<=t.D):t≠nxT t:=fun e=>z2s G (qm6 t) (z8m G I (by rw[<-e];exact qm6 t))
section
variable {g:aa} (hG:VA.Good g) {aB:Int} {n0 p0:Nat} (hN:Nz g n0 p0) {f2:MS->Nat->ay->MS} {R:MS->MS->Prop} (hS:Step g aB n0 p0 f2 R)
include hG hN hS
theorem ji7{a to n E:Nat}{sc:Int}{t:ay}(hB:Blk g a to sc)(ht:ok t)(hD:t.D=(dep g sc:Int))(hp:g.af.getD (nd g n).Scope.toNat 0=sc)(hd:dep g (nd g n).Scope=dep g sc+1)(T:n<E)(hE:E<=to)
 (h1:∀m,n<=m->m<E->(nd g n).Scope∈anc g.af (nd g m).Scope)(h2:E<to->(nd g n).Scope∉anc g.af (nd g E).Scope)(L:List (Nat×ay))(hL:∀p∈L,n<=p.1/\p.1<E/\(ok p.2->under t p.2))(ar:¬(n<=n0/\n0<E))(X:ay->Prop)
 (Z:n<=p0->p0<E->∀v,under t v->PtM g ⟨p0,v⟩->(q0b g p0 v).2=true->X (q0b g p0 v).1)(a6:∀m,n<=m->m<E->Cons g n0 m->∀v,PtM g ⟨m,v⟩->under t v->¬X v)(aj:n<=p0->p0<E->¬plain g p0)
 {s s':MS}(hW:W g s)(hJ:J g a to sc t E true s)(hX:N0 n0 X s)(hR:R s s')(I:(q10 g aB L s).e=0):
 W g (q10 g aB L s)/\J g a to sc t E true (q10 g aB L s)/\N0 n0 X (q10 g aB L s)/\R (q10 g aB L s) (z11 f2 L s'):=by
 obtain⟨⟨q1,q2,q3⟩,q4⟩:=flat (g:=g) (aB:=aB) (f2:=f2) (P:=fun s=>W g s/\J g a to sc t E true s/\N0 n0 X s) (R:=R) L s s' (fun p hp' x x' hw hr I=>by
  obtain⟨y1,y2,y3⟩:=hw;obtain⟨m1,m2,m3⟩:=hL p hp';have ak:p.1<g.ae.length:=by have:=hB.le;omega
  obtain⟨b1,b2⟩:=zj8 hG (aB:=aB) hB ht hD hp hd T hE h1 h2 m1 m2 m3 y1 (fun _=>y2);refine⟨⟨b1,b2 I,fun t' an=>?_⟩,hS p.1 p.2 x x' ak y1 hr I (fun hc G=>Classical.byContradiction fun hx=>?_) (fun e ao=>?_)⟩
  .
   rcases j4s hN I an with⟨h,_⟩|⟨e,h,hu,aq⟩
   . exact y3 t' h
   have G:=y1 _ aq;rw[h];exact Z (by omega) (by omega) p.2 (m3 (qe5 G).2.1) G hu
  . exact a6 p.1 m1 m2 hc p.2 G (m3 (qe5 G).2.1) (y3 _ hx)
  exact absurd ao (aj (by omega) (by omega))) ⟨hW,hJ,hX⟩ hR I
 exact⟨q1,q2,q3,q4⟩
noncomputable def Xn(g:aa)(n0 p0:Nat)(sc:Int)(t:ay)(n:Nat)(G:ay):Prop:=(nd g n0).Scope=sc/\((G=t/\n<=n0/\(plain g p0->p0<n))\/(G=nxT t/\(nd g p0).Kind=12/\bb G<bnd g sc))
def RdI(g:aa)(aB:Int)(n0 p0:Nat)(f2:MS->Nat->ay->MS)(R:MS->MS->Prop)(d:Nat):Prop:=∀{a to:Nat} {sc:Int} {t:ay} {s s':MS},Blk g a to sc->g.af.length-sc.toNat<=d->ok t->t.D=(dep g sc:Int)->a<=n0->n0<to->W g s->J g a to sc t a true s->R s s'->
 N0 n0 (fun G=>(nd g n0).Scope=sc/\G=t/\¬plain g p0) s->(q10 g aB (sched g d a to sc t) s).e=0->
  W g (q10 g aB (sched g d a to sc t) s)/\J g a to sc t to true (q10 g aB (sched g d a to sc t) s)/\N0 n0 (Xn g n0 p0 sc t to) (q10 g aB (sched g d a to sc t) s)/\R (q10 g aB (sched g d a to sc t) s) (z11 f2 (sched g d a to sc t) s')
omit hG hN hS in
theorem N0.mono{X Y:ay->Prop}{s:MS}(h:N0 n0 X s)(k:∀t,X t->Y t):N0 n0 Y s:=fun t G=>k t (h t G)
omit hS in
theorem j8x{d:Nat}(hr:RdI g aB n0 p0 f2 R d){a to:Nat}{sc:Int}(hB:Blk g a to sc)(hd:g.af.length-sc.toNat<=d)(ha:a<=n0)(hb:n0<to):
 ∀(k:Nat) (u:ay) (s s':MS),ok u->u.D=(dep g sc:Int)->2<=u.D->bb u+k=bnd g sc->bnd g sc<=64->W g s->J g a to sc u a true s->R s s'->N0 n0 (fun t'=>(nd g n0).Scope=sc/\t'=u/\¬plain g p0/\bb t'<bnd g sc) s->
  (q10 g aB (q5v (sched g d a to sc) k u) s).e=0->W g (q10 g aB (q5v (sched g d a to sc) k u) s)/\N0 n0 (fun _=>False) (q10 g aB (q5v (sched g d a to sc) k u) s)/\R (q10 g aB (q5v (sched g d a to sc) k u) s) (z11 f2 (q5v (sched g d a to sc) k u) s')
 |0,u,s,s',T,hD,Z,hl,_,hW,hJ,hR,hX,hz=>⟨hW,hX.mono fun t' h=>by have:=h.2.2.2;rw[h.2.1]at this;omega,hR⟩
 |k+1,u,s,s',T,hD,Z,hl,ak,hW,hJ,hR,hX,hz=>by
  unfold q5v at hz⊢;rw[qi1]at hz⊢;rw[zb5];have h0:=j1t T;have a6:qj1 u=64:=by unfold qj1;rw[if_neg (by omega)]
  have aj:=za9 T (by rw[a6];omega);have an:=zm9 T;obtain⟨ao,ar⟩:=jk5 T Z;have aq:qk4 u=nxT u:=by unfold qk4;rw[if_pos ⟨T,by rw[a6];omega⟩]
  obtain⟨q1,q2,q3,q4⟩:=hr hB hd T hD ha hb hW hJ hR (hX.mono fun t' h=>⟨h.1,h.2.1,h.2.2.1⟩) (qi0 hz);rw[aq]at hz⊢;refine j8x hr hB hd ha hb k (nxT u) _ _ aj (by rw[an];exact hD) (by omega) (by omega) ak q1 ⟨fun m I G v hv hl=>Xb fun hx=>?_,fun _ m I G v hv hx=>?_,fun _ m I G k1 k2 _=>?_⟩ q4 (q3.mono fun t' h=>?_) hz
  . have:=(q2.j2 Z m I G v (z8m T Z hv) hx).2;rw[this]at hl;omega
  . have:=(q2.j2 Z m I G v (j1r T Z hv) hx).2;rw[this]at hv;exact absurd hv (z2s aj (qm6 _))
  . rw[ao];exact q2.j3 Z m I G k1 k2 (.inl G)
  obtain⟨e1,h|h⟩:=h
  . omega
  exact⟨e1,h.1,fun hp=>hp.2.2 h.2.1,h.2.2⟩
set_option maxHeartbeats 2000000 in
theorem ze0{d:Nat}(hr:RdI g aB n0 p0 f2 R d){a to:Nat}{sc:Int}(hB:Blk g a to sc)(hd:g.af.length-sc.toNat<=d+1){t:ay}(ht:ok t)(hD:t.D=(dep g sc:Int))(ha:a<=n0)(hb:n0<to):
 ∀(f n:Nat) (s s':MS),to-n<=f->a<=n->n<=to->(n<to->At g a n sc)->W g s->J g a to sc t n true s->R s s'->N0 n0 (Xn g n0 p0 sc t n) s->(q10 g aB (q76 g (sched g d) to sc t f n) s).e=0->
  W g (q10 g aB (q76 g (sched g d) to sc t f n) s)/\J g a to sc t to true (q10 g aB (q76 g (sched g d) to sc t f n) s)/\N0 n0 (Xn g n0 p0 sc t to) (q10 g aB (q76 g (sched g d) to sc t f n) s)/\R (q10 g aB (q76 g (sched g d) to sc t f n) s) (z11 f2 (q76 g (sched g d) to sc t f n) s')
 |0,n,s,s',hf,ak,d0,_,hW,hJ,hR,hX,_=>by
  obtain rfl:n=to:=by omega
  exact⟨hW,hJ,hX,hR⟩
 |f+1,n,s,s',hf,ak,d0,hA,hW,hJ,hR,hX,hz=>by
  have e2:=hB.le;obtain⟨G,d1⟩:=Nz.dG hG hN;obtain⟨ds,dI,_⟩:=q2k hG hN.lt;have dJ:=hB.inn n0 ha hb;have d2:(nd g n0).Scope=sc->(nd g p0).Kind=12->t≠nxT t:=fun Z b3=>by
   have dK:q4t g (nd g p0)=(nd g p0).Scope:=by unfold q4t;rw[if_neg (by omega)]
   obtain⟨p1,p2,p3⟩:=q2k hG hN.pl;have h3:=((z3a hG p1 p2).2.2 (p3 (by omega))).2.2.2;rw[<-dK,G,Z]at h3;exact k0u ht (by omega)
  unfold q76 at hz⊢
  by_cases hn:n<to
  .
   rw[if_pos hn]at hz⊢;have bv:n<g.ae.length:=by omega
   obtain⟨k0,k1,_⟩:=q2k hG bv
   by_cases Z:(nd g n).Scope≠sc
   .
    rw[if_pos Z,qi1]at hz;rw[if_pos Z,qi1,zb5];obtain⟨hp,e3,d3⟩:=child hG hB ak hn (hA hn) Z;have cb:=qu9 hG k0 k1;have b5:=ze6 (g:=g) hn cb;obtain⟨_,c4,ao,b4⟩:=qm2 g (nd g n).Scope to (to-n) n d0;have b4:=b4 (Xh _);obtain⟨b1,b2⟩:=j2t hG k0 k1
    generalize qb6 g (nd g n).Scope to (to-n) n=E at*
    have dL:Blk g n E (nd g n).Scope:=⟨b5,by omega,k0,k1,rfl,ao⟩;have e1:=q8p hG k0 k1 (hB.inn n ak hn);have dM:g.af.length-(nd g n).Scope.toNat<=d:=by omega
    have h4:=(z3a hG k0 k1).2.1;have c5:t.D≠4:=by omega
    have dN:q4s t=enT t:=by unfold q4s;rw[if_pos ⟨ht,c5⟩]
    obtain⟨l1,l2⟩:=jk6 ht c5;have c9:∀p∈q5v (sched g d n E (nd g n).Scope) (bnd g (nd g n).Scope).toNat (q4s t),n<=p.1/\p.1<E/\(ok p.2->under t p.2):=by
     refine qv5 (H:=fun u=>ok u->ok t/\under t u/\t.D<u.D) (fun u hu=>zs8 hu) (fun u hu q hq=>?_) _ _ (zi3 t);obtain⟨m1,m2,m3⟩:=ql6 d _ _ _ u q hq;refine⟨m1,m2,fun hk=>?_⟩;obtain⟨k1,k2⟩:=m3 hk;obtain⟨u1,u2,u3⟩:=hu k1;rcases k2 with k2|⟨_,_,k2⟩
     . exact z2g u2 k2
     rw[k2]at hk⊢;obtain⟨_,_,k3⟩:=ql8 hk;rw[k3];exact (qv3 u1 k1 u2 u3).1
    have d4:J g a to sc t E true s:=by
     refine⟨fun m an aq=>hJ.j1 m (by omega) aq,hJ.j2,fun h2 m an aq k1 k2 k3=>?_⟩
     by_cases dO:m<n
     . exact hJ.j3 h2 m an aq k1 k2 (.inl dO)
     by_cases d5:m<E
     . have h5:=ao m (by omega) d5;rw[k2]at h5;have:=q8p hG hB.s0 hB.s1 h5;exact absurd (by omega) Z
     exact hJ.j3 h2 m an aq k1 k2 (.inr (k3.resolve_left d5))
    have dP:∀m,n<=m->m<E->(nd g m).Scope≠sc:=fun m an aq e=>by
     have h5:=ao m an aq;rw[e]at h5;have:=q8p hG hB.s0 hB.s1 h5;exact Z (by omega)
    by_cases ar:n<=n0/\n0<E
    .
     have a6:(nd g n0).Scope≠sc:=dP n0 ar.1 ar.2;have dQ:N0 n0 (fun _=>False) s:=hX.mono fun t' h=>a6 h.1;have dR:J g n E (nd g n).Scope (enT t) n true s:=by
      refine⟨fun m an aq v hv hl=>?_,fun _ m an aq v hv I=>?_,fun _ m an aq _ _ I=>?_⟩
      . obtain⟨q1,q2⟩:=zu7 hv;exact hJ.j1 m an (by omega) v q1 q2
      . obtain⟨q1,q2⟩:=j1s ht c5 hv;exact absurd (hJ.j1 m an (by omega) v q1 q2) I
      rcases I with I|I
      . omega
      exact absurd l2 I
     have b6:=qi0 hz;have d6:=qm9 (g:=g) (aB:=aB) (P:=fun s=>W g s/\(s.e=0->J g a to sc t E true s)) (L:=q5v (sched g d n E (nd g n).Scope) (bnd g (nd g n).Scope).toNat (q4s t)) (fun p hp' x I=>by
      obtain⟨m1,m2,m3⟩:=c9 p hp';exact zj8 hG hB ht hD hp d3 b5 c4 ao b4 m1 m2 m3 I.1 I.2) ⟨hW,fun _=>d4⟩
     have dS:=j8x hG hN hr dL dM ar.1 ar.2 (bnd g (nd g n).Scope).toNat (enT t) s s' (zm6 ht c5) (by show t.D+1=_;omega) (by show 2<=t.D+1;have:=ht.1;omega) (by omega) b2 hW dR hR (dQ.mono fun _ h=>h.elim);rw[dN]at hz b6 d6⊢;obtain⟨q1,q2,q3⟩:=dS b6;exact ze0 hr hB hd ht hD ha hb f E _ _ (by omega) (by omega) c4 (fun h=>zc3 hG hB ak hn Z (hA hn) h b5 ao (b4 h)) q1 (d6.2 b6) q3 (q2.mono fun _ h=>h.elim) hz
    have dT:∀m,n<=m->m<E->(nd g m).Kind≠10->q7w g (nd g m)=(nd g m).Scope:=fun m _ _ h=>by unfold q7w;rw[if_neg h]
    have hp0:n<=p0->p0<E->(nd g n0).Scope=sc/\(nd g p0).Kind=11/\n<=n0:=fun h1 h2=>by
     have h5:=ao p0 h1 h2;obtain⟨p1,p2,_⟩:=q2k hG hN.pl
     by_cases bi:(nd g p0).Kind=11
     .
      unfold q4t at G;rw[if_pos bi]at G
      by_cases d7:(nd g n).Scope=(nd g p0).Scope
      . rw[<-d7,hp]at G;exact⟨G.symm,bi,Xb fun I=>by have:=d1 (by omega);omega⟩
      have:=(z7x hG p1 p2 h5 d7).2;rw[G]at this;exact absurd (j9a hG hB ak hn (hA hn) Z b5 b4 ha hb this) ar
     unfold q4t at G;rw[if_neg bi]at G;rw[G]at h5;exact absurd (j9a hG hB ak hn (hA hn) Z b5 b4 ha hb h5) ar
    obtain⟨q1,q2,q3,q4⟩:=ji7 hG hN hS hB ht hD hp d3 b5 c4 ao b4 _ c9 ar (Xn g n0 p0 sc t n)
     (fun h1 h2 v hv c0 hu=>by
      obtain⟨g1,g2,g3⟩:=hp0 h1 h2;refine⟨g1,.inl ⟨?_,g3,fun T=>absurd g2 T.2.1⟩⟩;obtain⟨_,cc,d8⟩:=qe5 c0;obtain⟨p1,p2,_⟩:=q2k hG hN.pl;have e4:lev g p0=dep g (nd g p0).Scope:=by unfold lev;rw[dT p0 h1 h2 (by omega)]
      have h6:=j9q hG p1 p2 (ao p0 h1 h2);have h7:=zg1 hG hN.pl cc hu ht hv (.inl (by omega));obtain⟨e,he,hf,dU⟩:=hN.own;have h8:=(ze8 hG hN.pl c0 hu he hf).1;rw[dU]at h8;obtain⟨_,h9,cd⟩:=qe5 h8;refine j0l ht h9 h7 ?_;rw[cd,hD];unfold lev q7w;rw[if_neg hN.k0.1,g1])
     (fun m m1 m2 hc v c0 hv I=>by
      obtain⟨c1,c2,_⟩:=Nz.cons hG hN hc;obtain⟨a6,I⟩:=I;obtain⟨_,cc,d8⟩:=qe5 c0;have dV:v=t:=j0l ht cc hv (by rw[d8,hD];unfold lev;rw[c2,a6]);rcases I with⟨_,I,_⟩|⟨I,b3,_⟩
      . exact ar ⟨I,by omega⟩
      rw[dV]at I;exact d2 a6 b3 I)
     (fun h1 h2 T=>T.2.1 (hp0 h1 h2).2.1) hW d4 hX hR (qi0 hz)
    refine ze0 hr hB hd ht hD ha hb f E _ _ (by omega) (by omega) c4 (fun h=>zc3 hG hB ak hn Z (hA hn) h b5 ao (b4 h)) q1 q2 q4 (q3.mono fun t' h=>⟨h.1,h.2.imp (fun⟨a1,a2,a3⟩=>⟨a1,Xb fun I=>ar ⟨a2,by omega⟩,fun T=>by have:=a3 T;omega⟩) id⟩) hz
   rw[if_neg Z,q59]at hz;rw[if_neg Z,q59];have Z:(nd g n).Scope=sc:=by simpa using Z
   have b6:=qi0 hz;obtain⟨dW,dX⟩:=j1b hG (aB:=aB) hB ht ak hn Z hW (fun _=>hJ);have c3:∀m,m<g.ae.length->(nd g m).Scope=sc->((nd g m).Kind=10\/(nd g m).Kind=11\/(nd g m).Kind=12)->g.af.getD (nd g m).Scope.toNat 0<sc:=fun m hm dY hk=>by
    obtain⟨p1,p2,p3⟩:=q2k hG hm;have:=(hG.wp.2 _ p1 p2).1;rw[dY]at this⊢;exact this
   have c6:(nd g n).Kind≠10->atA g n t=t:=fun h=>by unfold atA;rw[if_neg h]
   refine ze0 hr hB hd ht hD ha hb f (n+1) _ (f2 s' n (atA g n t)) (by omega) (by omega) hn (fun h=>at_one hG hB ak h Z (hA hn)) dW (dX b6) ?_ ?_ hz
   .
    refine hS n (atA g n t) s s' bv hW hR b6 (fun hc c0=>Xb fun I=>?_) (fun e T=>Xb fun I=>?_)
    .
     obtain⟨c1,c2,_⟩:=Nz.cons hG hN hc;obtain⟨a6,aj⟩:=hX _ I;have cd:(nd g n).Kind≠10:=fun h=>by
      have:=c3 n bv Z (.inl h);unfold q7w at c2;rw[if_pos h]at c2;omega
     rw[c6 cd]at aj;rcases aj with⟨_,aj,_⟩|⟨aj,b3,_⟩
     . omega
     exact d2 a6 b3 aj
    subst e;obtain⟨a6,aj⟩:=hX _ I;rw[c6 T.1]at aj;rcases aj with⟨_,_,aj⟩|⟨aj,b3,_⟩
    . have:=aj T;omega
    exact T.2.2 b3
   intro t' dZ;rcases j4s hN b6 dZ with⟨h,e0⟩|⟨e,h,hu,c7⟩
   .
    obtain⟨a6,I⟩:=hX t' h;refine⟨a6,I.imp (fun⟨a1,a2,a3⟩=>⟨a1,?_,fun T=>by have:=a3 T;omega⟩) id⟩;refine Xb fun I=>e0 ⟨by omega,?_⟩;have:n=n0:=by omega
    rw[a1,c6 (by rw[this];exact hN.k0.1)]
   replace e:n=p0:=e;subst e;have a6:(nd g n0).Scope=sc:=by
    by_cases bi:(nd g n).Kind=11
    .
     exfalso
     have h5:=c3 n bv Z (.inr (.inl bi));unfold q4t at G;rw[if_pos bi]at G;have:=q8p hG ds dI dJ;omega
    unfold q4t at G;rw[if_neg bi]at G;rw[<-G];exact Z
   have dc:(nd g n).Kind≠12->n+1<=n0:=fun b3=>Xb fun I=>b3 (d1 (by have:=hN.ne;omega));refine⟨a6,?_⟩
   by_cases bs:(nd g n).Kind=10
   .
    have dd:atA g n t=ql1 t:=by unfold atA;rw[if_pos bs]
    rw[dd]at h hu c7;obtain⟨_,h1,h2⟩:=ql8 (qe5 (hW _ c7)).2.1;rw[h2]at h hu c7;have dk:2<=t.D:=by have:=ht.1;omega
    have cl:bb t=0:=Xb fun cl=>c7 (hJ.j3 dk n ak hn bs Z (.inr cl));rw[z0g bs]at h hu;refine .inl ⟨?_,dc (by omega),fun T=>absurd bs T.1⟩
    split at h
    . rw[h];exact jm1 ht dk cl
    rename_i c;rw[if_neg c]at hu;cases hu
   rw[c6 bs]at h hu
   by_cases cp:(nd g n).Kind=11
   .
    exfalso
    have h5:=c3 n bv Z (.inr (.inl cp));unfold q4t at G;rw[if_pos cp]at G;omega
   by_cases c8:(nd g n).Kind=12
   .
    rw[z0f c8]at h hu
    split at h
    .
     rename_i c
     rw[if_pos c]at hu;refine .inr ⟨h,c8,?_⟩;rw[h,<-Z]
     simpa using hu
    rename_i c;rw[if_neg c]at hu;cases hu
   rw[qt1 bs cp c8]at h;exact .inl ⟨h,dc c8,fun _=>by omega⟩
  rw[if_neg hn]at hz⊢;obtain rfl:n=to:=by omega
  exact⟨hW,hJ,hX,hR⟩
theorem j4d:∀d:Nat,RdI g aB n0 p0 f2 R d
 |0,a,to,sc,t,s,s',G,hd,_,_,_,_,_,_,_,_,_=>by have:=G.s0;have:=G.s1;omega
 |d+1,a,to,sc,t,s,s',G,hd,W,Z,I,hb,hW,hJ,hR,hX,T=>by
  unfold sched at T⊢;exact ze0 hG hN hS (j4d d) G hd W Z I hb (to-a) a s s' (Xh _) (Xh _) (Nat.le_of_lt G.lt) (fun _ m h1 h2=>by omega) hW hJ hR (hX.mono fun t' h=>⟨h.1,.inl ⟨h.2.1,I,fun hp=>absurd hp h.2.2⟩⟩) T
end
end MN
end
section
open Go Go.RowKit TS VA BG
namespace MN
open Classical
theorem jk0{g:aa}(I:VA.Good g){aB:Int}{n0 p0:Nat}(Z:Nz g n0 p0){f2:MS->Nat->ay->MS}{R:MS->MS->Prop}(hS:Step g aB n0 p0 f2 R):∀(G:List Int) (s s':MS),G.Pairwise (· <·)->(∀e∈G,0<=e/\e<=1048576)->W g s->(∀p,s.ins p≠no2->p.time.C.a0∈G->p.time.D=1)->R s s'->N0 n0 (fun _=>False) s->
 (q9k g aB G s).e=0->R (q9k g aB G s) (z11 f2 (G.flatMap (q58 g)) s')/\N0 n0 (fun _=>False) (q9k g aB G s)
 |[],_,_,_,_,_,_,hR,hX,_=>⟨hR,hX⟩
 |e::G,s,s',hs,hr,hW,hp,hR,hX,hz=>by
  obtain⟨h1,h2⟩:=Xp.1 hs;rw[z0z]at hz⊢;rw[Yi,zb5];have a6:(q10 g aB (q58 g e) s).e=0:=by unfold q9k at hz;exact qi0 hz
  obtain⟨k1,k2⟩:=z6y I (aB:=aB) (e:=e) hW;have aq:=I.pl;have he:=hr e (by simp);obtain⟨q1,_,q3,q4⟩:=j4d I Z hS 8 (zd3 I) (t:=ep e) (s:=s) (s':=s') (by omega) (j02 he) (by rw[ji1 I];rfl) (X0 _) Z.lt hW
   ⟨fun m _ _ v hu hl=>Xb fun hx=>by
    have aj:v.D=1:=hp ⟨(m:Int),v⟩ hx (by rw[hu.2.1.symm];simp[ep]);rw[aj]at hl;exact absurd hl (by show ¬(1:Int)<1;decide),fun h=>absurd h (by show ¬(2:Int)<=1;decide),fun h=>absurd h (by show ¬(2:Int)<=1;decide)⟩ hR (hX.mono fun _ h=>h.elim) a6
  refine jk0 I Z hS G _ _ h2 (fun x hx=>hr x (by simp[hx])) k1 (fun p hx hy=>?_) q4 (fun t ht=>?_) hz
  .
   have ak:p.time.C.a0≠e:=fun h=>by have:=h1 _ hy;omega
   rw[k2.ins p ak]at hx;exact hp p hx (by simp[hy])
  obtain⟨an,⟨_,h,_⟩|⟨_,ao,_⟩⟩:=q3 t ht
  . have:=Z.lt;omega
  obtain⟨T,_⟩:=Nz.dG I Z;obtain⟨_,_,p3⟩:=q2k I Z.pl;unfold q4t at T;rw[if_neg (by omega),an]at T;exact p3 (.inr (.inr ao)) T
def aE(G:List aC)(n q π:Int):Prop:=∃e∈G,e.aL=n/\e.To=q/\e.Port=π
noncomputable def deg(G:List aC)(n:Int):Int:=((G.filter fun e=>decide (e.aL=n)).length:Int)
noncomputable def qs4(x:bA (List a8))(P Q:Prop)(b:List a8):bA (List a8):=⟨if P then q0g x.a0 b else x.a0,if Q then q0g x.a1 b else x.a1⟩
def bQ(G:List aC):Prop:=G.Pairwise (fun a b=>¬(a.To=b.To/\a.Port=b.Port))/\∀e∈G,e.Port=0\/e.Port=1
theorem zd8(x:bA (List a8)){P Q:Prop}(G:¬P)(I:¬Q)(b:List a8):qs4 x P Q b=x:=by unfold qs4;rw[if_neg G,if_neg I]
theorem qr8{n:Nat}{u:ay}{out:List a8}(ho:out≠[]):∀(T:List aC) (s:MS),bQ T->∀(q:Int) (t:ay),
 (q23 n u out T s).ins ⟨q,t⟩=if t=u then qs4 (s.ins ⟨q,t⟩) (aE T n q 0) (aE T n q 1) out else s.ins ⟨q,t⟩
 |[],s,_,q,t=>by
  have h:∀π,¬aE [] n q π:=fun π ⟨e,he,_⟩=>by cases he
  show s.ins _=_
  rw[zd8 _ (h 0) (h 1)];split<;>rfl
 |e::T,s,hP,q,t=>by
  obtain⟨hp1,hp2⟩:=hP;obtain⟨h1,h2⟩:=Xp.1 hp1;have ih:=qr8 ho (n:=n) (u:=u) T (q1x n u out s e) ⟨h2,fun x I=>hp2 x (by simp[I])⟩ q t
  show (q23 n u out T (q1x n u out s e)).ins ⟨q,t⟩=_
  rw[ih]
  by_cases ht:t=u
  .
   rw[if_pos ht,if_pos ht]
   by_cases hf:e.aL=n/\e.To=q
   .
    have hi:(q1x n u out s e).ins ⟨q,t⟩=qg2 (s.ins ⟨q,t⟩) e.Port out:=by
     unfold q1x;rw[if_pos hf.1];dsimp only;rw[qd7,if_pos ⟨ho,by rw[hf.2,ht]⟩,hf.2,ht]
    have ak:¬aE T n q e.Port:=fun⟨x,I,_,a6,aj⟩=>h1 x I ⟨by rw[hf.2,a6],aj.symm⟩;have Z:aE (e::T) n q e.Port:=⟨e,by simp,hf.1,hf.2,rfl⟩;have G:∀π,π≠e.Port->(aE (e::T) n q π↔aE T n q π):=fun π an=>by
     refine⟨fun⟨x,I,W,a6,aj⟩=>?_,fun⟨x,I,W⟩=>⟨x,by simp[I],W⟩⟩;rcases Xi.1 I with rfl|I
     . exact absurd aj.symm an
     exact⟨x,I,W,a6,aj⟩
    rw[hi];unfold qs4 qg2;rcases hp2 e (by simp)with h0|h0
    . rw[h0]at ak Z G;rw[if_pos h0,if_neg ak,if_pos Z];dsimp only;rw[show (aE (e::T) n q 1)=(aE T n q 1)from propext (G 1 (by decide))]
    rw[h0]at ak Z G;rw[if_neg (show ¬e.Port=0 by omega),if_neg ak,if_pos Z];dsimp only;rw[show (aE (e::T) n q 0)=(aE T n q 0)from propext (G 0 (by decide))]
   have hi:(q1x n u out s e).ins ⟨q,t⟩=s.ins ⟨q,t⟩:=by
    unfold q1x
    split
    .
     rename_i ao
     dsimp only;rw[qd7,if_neg];rintro⟨_,I⟩;simp only[ah.mk.injEq]at I;exact hf ⟨ao,I.1.symm⟩
    rfl
   have G:∀π,(aE (e::T) n q π)=(aE T n q π):=fun π=>propext (by
    refine⟨fun⟨x,I,W,a6,aj⟩=>?_,fun⟨x,I,W⟩=>⟨x,by simp[I],W⟩⟩;rcases Xi.1 I with rfl|I
    . exact absurd ⟨W,a6⟩ hf
    exact⟨x,I,W,a6,aj⟩)
   rw[hi,G,G]
  rw[if_neg ht,if_neg ht];unfold q1x
  split
  . dsimp only;rw[qd7,if_neg];rintro⟨_,I⟩;simp only[ah.mk.injEq]at I;exact ht I.2
  rfl
theorem zj5(e:aC)(G:List aC)(n:Int):deg (e::G) n=(if e.aL=n then 1 else 0)+deg G n:=by
 unfold deg
 by_cases h:e.aL=n
 . rw[Xr (by simpa using h),if_pos h];simp only[Xk];push_cast;omega
 rw[Xy (by simpa using h),if_neg h];omega
theorem qd3{n:Nat}{u:ay}{out:List a8}:∀(G:List aC) (s:MS),(q23 n u out G s).work=s.work+deg G n*tot out/\(q23 n u out G s).aK=s.aK/\(q23 n u out G s).aJ=s.aJ/\(q23 n u out G s).outs=s.outs/\(q23 n u out G s).e=s.e
 |[],s=>⟨by show s.work=s.work+deg [] n*tot out;simp[deg],rfl,rfl,rfl,rfl⟩
 |e::G,s=>by
  obtain⟨W,Z,h3,h4,h5⟩:=qd3 (n:=n) (u:=u) (out:=out) G (q1x n u out s e);have I:(q1x n u out s e).work=s.work+(if e.aL=n then 1 else 0)*tot out/\(q1x n u out s e).aK=s.aK/\(q1x n u out s e).aJ=s.aJ/\(q1x n u out s e).outs=s.outs/\(q1x n u out s e).e=s.e:=by
   unfold q1x
   by_cases T:e.aL=n
   . rw[if_pos T,if_pos T];obtain⟨r1,r2,r3,r4,r5⟩:=z3z s ⟨e.To,u⟩ e.Port out;exact⟨by dsimp only;omega,r1,r2,r4,r5⟩
   rw[if_neg T,if_neg T];exact⟨by omega,rfl,rfl,rfl,rfl⟩
  refine⟨?_,Z.trans I.2.1,h3.trans I.2.2.1,h4.trans I.2.2.2.1,h5.trans I.2.2.2.2⟩
  show (q23 n u out G (q1x n u out s e)).work=_
  rw[W,I.1,zj5,Int.add_mul];omega
theorem qx0(G:List aC)(n:Int):0<=deg G n:=by unfold deg;omega
theorem k06(G:List aC)(n:Int):deg G n<=G.length:=by
 unfold deg;have:=List.length_filter_le (fun e:aC=>decide (e.aL=n)) G;omega
theorem j56{G:List aC}{n q π:Int}(h:aE G n q π):1<=deg G n:=by
 obtain⟨e,I,T,_⟩:=h;unfold deg;have:=Y6 (l:=G.filter fun e=>decide (e.aL=n)) (Yd.2 ⟨I,by simpa using T⟩);omega
structure Bd(C:Int)(s:MS):Prop where
 fn:∀p,Fn (s.ins p).a0/\Fn (s.ins p).a1
 le:∀p,tot (s.ins p).a0<=C+s.work/\tot (s.ins p).a1<=C+s.work
 w0:0<=s.work
theorem j4j{x:bA (List a8)}(T:Fn x.a0)(W:Fn x.a1){b:List a8}(hb:Fn b){K:Int}(k0:tot x.a0<=K)(k1:tot x.a1<=K)(hK:K+tot b<=50000000)(P Q:Prop):
 (Fn (qs4 x P Q b).a0/\Fn (qs4 x P Q b).a1)/\tot (qs4 x P Q b).a0<=K+(if P then tot b else 0)/\tot (qs4 x P Q b).a1<=K+(if Q then tot b else 0):=by
 obtain⟨_,Z,p2,_⟩:=q7j T hb (by omega);obtain⟨_,q1,q2,_⟩:=q7j W hb (by omega);unfold qs4
 by_cases G:P<;>by_cases I:Q
 . rw[if_pos G,if_pos I,if_pos G,if_pos I];exact⟨⟨Z,q1⟩,by dsimp only;omega,by dsimp only;omega⟩
 . rw[if_pos G,if_neg I,if_pos G,if_neg I];exact⟨⟨Z,W⟩,by dsimp only;omega,by dsimp only;omega⟩
 . rw[if_neg G,if_pos I,if_neg G,if_pos I];exact⟨⟨T,q1⟩,by dsimp only;omega,by dsimp only;omega⟩
 rw[if_neg G,if_neg I,if_neg G,if_neg I];exact⟨⟨T,W⟩,by dsimp only;omega,by dsimp only;omega⟩
theorem j4b{n:Nat}{u:ay}{out:List a8}(ho:out≠[])(W:Fn out){C:Int}{G:List aC}(hP:bQ G){s:MS}(h:Bd C s)(hC:C+s.work+tot out<=50000000):Bd C (q23 n u out G s):=by
 have Z:=(qd3 (n:=n) (u:=u) (out:=out) G s).1;have hl:=W.len;have hd:=qx0 G n;have T:0<=deg G n*tot out:=Int.mul_nonneg hd (by omega);have key:∀p:ah,(Fn ((q23 n u out G s).ins p).a0/\Fn ((q23 n u out G s).ins p).a1)/\tot ((q23 n u out G s).ins p).a0<=C+(q23 n u out G s).work/\tot ((q23 n u out G s).ins p).a1<=C+(q23 n u out G s).work:=fun p=>by
  obtain⟨q,t⟩:=p;obtain⟨f0,f1⟩:=h.fn ⟨q,t⟩;obtain⟨l0,l1⟩:=h.le ⟨q,t⟩;rw[qr8 ho G s hP q t,Z]
  split
  .
   obtain⟨a,b,c⟩:=j4j f0 f1 W l0 l1 hC (aE G n q 0) (aE G n q 1);have I:∀π,(if aE G n q π then tot out else 0)<=deg G n*tot out:=fun π=>by
    split
    .
     rename_i I
     have:=Int.mul_le_mul_of_nonneg_right (j56 I) (show 0<=tot out by omega);omega
    exact T
   have:=I 0;have:=I 1;exact⟨a,by omega,by omega⟩
  exact⟨⟨f0,f1⟩,by omega,by omega⟩
 exact⟨fun p=>(key p).1,fun p=>(key p).2,by rw[Z];have:=h.w0;omega⟩
theorem j46{g:aa}{n:Nat}{t:ay}{C:Int}(T:0<=C){s:MS}(h:Bd C s):Bd C (aM g n t s):=by
 have G:(aM g n t s).work=s.work:=by unfold aM;split<;>rfl
 have I:=h.w0;have W:tot ([]:List a8)=0:=by simp[tot]
 refine⟨fun p=>?_,fun p=>?_,by rw[G];exact I⟩
 .
  rw[qe1];split
  . exact⟨Fn.nil,Fn.nil⟩
  exact h.fn p
 rw[qe1,G];split
 . unfold no2;dsimp only;omega
 exact h.le p
theorem js9{g:aa}{aB C:Int}(hC:0<=C)(hP:bQ g.aw){s:MS}(h:Bd C s)(hm:C+s.work<=40000000){n:Nat}{t:ay}(G:(q0c g aB s n t).2.e=0):Bd C (q0c g aB s n t).2:=by
 by_cases I:s.ins ⟨n,t⟩=no2\/s.e≠0
 . rw[ql5 I];exact h
 have T:=j46 (g:=g) (n:=n) (t:=t) hC h;have hw:(aM g n t s).work=s.work:=by unfold aM;split<;>rfl
 unfold q0c at G⊢;rw[if_neg I]at G⊢
 generalize (if (nd g n).Kind=14 then q6o (aM g n t s) n t else (s.ins ⟨n,t⟩).a1)=b at*
 generalize aM g n t s=x at*
 unfold q6k at G⊢
 cases Z:q3p (nd g n) (s.ins ⟨n,t⟩).a0 b with
 |none=>rw[Z]at G;exact absurd G (by show ¬(9:Int)=0;decide)
 |some out=>
  obtain⟨f1,f2⟩:=qm4 Z;rw[Z]at G;dsimp only at G⊢
  by_cases W:(nd g n).Kind=15
  . rw[if_pos W];exact⟨T.fn,T.le,T.w0⟩
  rw[if_neg W]at G⊢
  by_cases hx:(q0b g n t).2=false\/out=[]
  . rw[if_pos hx];exact T
  rw[if_neg hx]at G⊢;have hb:=j4b (n:=n) (u:=(q0b g n t).1) (fun e=>hx (.inr e)) f1 hP T (by omega);dsimp only at G⊢
  split at G
  . exact absurd G (by show ¬(9:Int)=0;decide)
  rename_i hc;rw[if_neg hc];exact hb
end MN
end
section
open Go Go.RowKit TS VA BG
namespace MN
open Classical
def GL(g:aa)(l:List aC):aa:=⟨g.af,g.aG,g.ae,l⟩
theorem zn2(g:aa)(l:List aC)(n:Nat):nd (GL g l) n=nd g n:=rfl
theorem zi5(g:aa)(l:List aC)(n:Nat)(t:ay):q0b (GL g l) n t=q0b g n t:=rfl
theorem zr0{f f':ay->Int}{v:ay}{y:Int}(G:∀t,f' t=if t=v then y else f t):∀{T:List ay},T.Nodup->v∈T->(T.map f').sum=(T.map f).sum-f v+y
 |[],_,h=>by cases h
 |t::T,W,h=>by
  obtain⟨Z,h2⟩:=Yf.1 W;simp only[X3,X4]
  by_cases I:t=v
  .
   subst I;have:T.map f'=T.map f:=List.map_congr_left fun x hx=>by rw[G,if_neg (fun e=>Z (by rw[<-e];exact hx))]
   rw[this,G,if_pos rfl];omega
  have h3:v∈T:=by rcases Xi.1 h with e|h;exact absurd e.symm I;exact h
  rw[zr0 G h2 h3,G,if_neg I];omega
theorem zo5{W:List aC}(hP:bQ W){n m q π:Int}(h1:aE W n q π)(h2:aE W m q π):n=m:=by
 obtain⟨a,Z,a1,a2,a3⟩:=h1;obtain⟨b,hb,b1,b2,b3⟩:=h2
 by_cases I:a=b
 . rw[<-a1,<-b1,I]
 have:∀{l:List aC},l.Pairwise (fun a b=>¬(a.To=b.To/\a.Port=b.Port))->a∈l->b∈l->False:=fun {l} hp=>by
  induction l with
  |nil=>intro h;cases h
  |cons c l ih=>
   intro Z hb;obtain⟨p1,p2⟩:=Xp.1 hp;rcases Xi.1 Z with e1|T
   .
    rcases Xi.1 hb with e2|G
    . exact I (e1.trans e2.symm)
    exact p1 b G (by rw[<-e1];exact⟨a2.trans b2.symm,a3.trans b3.symm⟩)
   rcases Xi.1 hb with e2|G
   . exact p1 a T (by rw[<-e2];exact⟨b2.trans a2.symm,b3.trans a3.symm⟩)
   exact ih p2 T G
 exact (this hP.1 Z hb).elim
theorem j5y{a b c:List a8}(G:Fn a)(hb:Fn b)(I:Fn c)(ht:tot a+tot b+tot c<=50000000):q0g (q0g a b) c=q0g a (q0g b c):=by
 have la:=G.len;have lb:=hb.len;have lc:=I.len;obtain⟨_,T,p2,W⟩:=q7j G hb (by omega);obtain⟨_,Z,q2,q3⟩:=q7j hb I (by omega);obtain⟨_,u1,_,u3⟩:=q7j T I (by omega);obtain⟨_,v1,_,v3⟩:=q7j G Z (by omega);exact Rt.unique u1.rt v1.rt fun x=>by rw[u3,v3,W,q3];omega
theorem jy1{s s':MS}(G:s.aK=s'.aK)(I:s.aJ=s'.aJ)(n:Int)(t:ay):q6o s n t=q6o s' n t:=by unfold q6o;rw[G,I]
structure Lv(g:aa)(C:Int)(n0:Nat)(Q:List a8->Prop)(s s':MS):Prop where
 bd:Bd C s
 a1:∀t,(s.ins ⟨(n0:Nat),t⟩).a1=[]
 sg:∀t,Q (s.ins ⟨(n0:Nat),t⟩).a0
 eq:∀(q:Int) (t:ay),q≠n0->s'.ins ⟨q,t⟩=qs4 (s.ins ⟨q,t⟩) (aE g.aw n0 q 0) (aE g.aw n0 q 1) (s.ins ⟨(n0:Nat),t⟩).a0
 st:s.aK=s'.aK/\s.aJ=s'.aJ/\s.outs=s'.outs/\s.e=0/\s'.e=0
 wk:∃T:List ay,T.Nodup/\(∀t,t∉T->s.ins ⟨(n0:Nat),t⟩=no2)/\(T.map fun t=>tot (s.ins ⟨(n0:Nat),t⟩).a0).sum<=s.work/\s'.work<=s.work+deg g.aw n0*(T.map fun t=>tot (s.ins ⟨(n0:Nat),t⟩).a0).sum
structure Lh(g:aa)(n0 p0:Nat)(l':List aC)(Q:List a8->Prop):Prop where
 N:Nz g n0 p0
 k:(nd g n0).Kind≠14/\(nd g n0).Kind≠15
 P:bQ g.aw
 P':bQ l'
 f':∀m q π:Int,m≠n0->q≠n0->(aE l' m q π↔aE g.aw m q π\/(m=p0/\aE g.aw n0 q π))
 d':∀m:Int,m≠n0->deg l' m<=deg g.aw m+if m=p0 then deg g.aw n0-1 else 0
 i0:∀m:Int,aE g.aw m n0 0↔m=p0
 i1:∀m:Int,¬aE g.aw m n0 1
 q0:Q []
 qq:(∀b,Q b)\/(plain g p0/\∀a b o,q3p (nd g p0) a b=some o->Q o)
 id:∀b,Fn b->tot b<=60000->Q b->q3p (nd g n0) b []=some b
theorem zh6{x:bA (List a8)}(G:Fn x.a0)(I:Fn x.a1)(k0:tot x.a0<=50000000)(T:tot x.a1<=50000000)(P Q:Prop):qs4 x P Q []=x:=by
 unfold qs4;rw[j17 G k0,j17 I T]
 split<;>split<;>rfl
noncomputable def lv2(g:aa)(l':List aC)(G:Nat)(s':MS)(m:Nat)(v:ay):MS:=if m=G then s' else (q0c (GL g l') 1000000 s' m v).2
section
variable {g:aa} (hG:VA.Good g) {aB C:Int} (hC:0<=C) (hCm:C+aB<=5000) {n0 p0:Nat} {l':List aC} {Q:List a8->Prop} (hL:Lh g n0 p0 l' Q)
include hG hC hCm hL
theorem jy9{s s':MS}{v:ay}(hW:W g s)(h:Lv g C n0 Q s s')(hw:s.work<=aB)(hz:(q0c g aB s n0 v).2.e=0):Lv g C n0 Q (q0c g aB s n0 v).2 s'/\(q0c g aB s n0 v).2.work<=aB:=by
 by_cases aj:s.ins ⟨(n0:Nat),v⟩=no2\/s.e≠0
 . rw[ql5 aj];exact⟨h,hw⟩
 have hN:=hL.N;have an:=js9 hC hL.P h.bd (by omega) hz;have ao:s.ins ⟨(n0:Nat),v⟩≠no2:=fun e=>aj (.inl e);obtain⟨f0,_⟩:=h.bd.fn ⟨(n0:Nat),v⟩;obtain⟨k0,_⟩:=h.bd.le ⟨(n0:Nat),v⟩;have aq:=h.a1 v;have ar:(s.ins ⟨(n0:Nat),v⟩).a0≠[]:=fun e=>ao (z9k e aq);have b5:=hL.id _ f0 (by omega) (h.sg v);have b6:q0b g n0 v=(v,true):=qt1 hN.k0.1 hN.k0.2.1 hN.k0.2.2;have ak:(q0c g aB s n0 v).2=q23 n0 v (s.ins ⟨(n0:Nat),v⟩).a0 g.aw (aM g n0 v s)/\(q0c g aB s n0 v).2.work<=aB:=by
  unfold q0c at hz⊢;rw[if_neg aj,if_neg hL.k.1,aq]at hz⊢;unfold q6k at hz⊢;rw[b5]at hz⊢;dsimp only at hz⊢;rw[if_neg hL.k.2,b6,if_neg (fun e=>e.elim (fun e=>by cases e) ar)]at hz⊢;dsimp only at hz⊢
  split at hz
  . exact absurd hz (by show ¬(9:Int)=0;decide)
  rename_i hc;rw[if_neg hc];exact⟨rfl,by omega⟩
 obtain⟨ak,bi⟩:=ak;refine⟨?_,bi⟩;rw[ak]at an⊢;have b1:aM g n0 v s={s with ins:=upd s.ins ⟨(n0:Nat),v⟩ no2}:=by unfold aM;rw[if_neg hL.k.1]
 obtain⟨r1,r2,r3,r4,r5⟩:=qd3 (n:=n0) (u:=v) (out:=(s.ins ⟨(n0:Nat),v⟩).a0) g.aw (aM g n0 v s);have a6:=qr8 (n:=n0) (u:=v) ar g.aw (aM g n0 v s) hL.P;have I:∀π,¬aE g.aw n0 n0 π:=fun π ⟨e,he,e1,e2,_⟩=>by
  have:=hN.src e he e2;have:=hN.ne;omega
 have Z:∀t,(q23 n0 v (s.ins ⟨(n0:Nat),v⟩).a0 g.aw (aM g n0 v s)).ins ⟨(n0:Nat),t⟩=if t=v then no2 else s.ins ⟨(n0:Nat),t⟩:=fun t=>by
  rw[a6 n0 t,zd8 _ (I 0) (I 1),qe1]
  by_cases G:t=v
  . rw[if_pos G,if_pos G,if_pos (by rw[G])]
  rw[if_neg G,if_neg G,if_neg (fun e=>G (by simp only[ah.mk.injEq]at e;exact e.2))]
 have b2:(aM g n0 v s).work=s.work:=by rw[b1]
 refine⟨an,fun t=>?_,fun t=>?_,fun q t hq=>?_,?_,?_⟩
 .
  rw[Z];split
  . rfl
  exact h.a1 t
 .
  rw[Z];split
  . exact hL.q0
  exact h.sg t
 .
  rw[h.eq q t hq,a6 q t,Z];have hx:(aM g n0 v s).ins ⟨q,t⟩=s.ins ⟨q,t⟩:=by rw[qe1,if_neg];intro e;simp only[ah.mk.injEq]at e;exact hq e.1
  rw[hx]
  by_cases G:t=v
  .
   rw[if_pos G,if_pos G,G];obtain⟨g0,g1⟩:=h.bd.fn ⟨q,v⟩;obtain⟨j0,j1⟩:=h.bd.le ⟨q,v⟩;obtain⟨⟨u0,u1⟩,u2,u3⟩:=j4j g0 g1 f0 j0 j1 (by omega) (aE g.aw n0 q 0) (aE g.aw n0 q 1);have bs:=f0.len
   show _=qs4 (qs4 (s.ins ⟨q,v⟩) _ _ _) _ _ []
   rw[zh6 u0 u1 (by split at u2<;>omega) (by split at u3<;>omega)]
  rw[if_neg G,if_neg G]
 . rw[r2,r3,r4,r5,b1];exact h.st
 obtain⟨T,t1,t2,t3,t4⟩:=h.wk;have b3:v∈T:=Xb fun hx=>ao (t2 v hx);have b4:=zr0 (f:=fun t=>tot (s.ins ⟨(n0:Nat),t⟩).a0) (f':=fun t=>tot ((q23 n0 v (s.ins ⟨(n0:Nat),v⟩).a0 g.aw (aM g n0 v s)).ins ⟨(n0:Nat),t⟩).a0) (v:=v) (y:=0) (fun t=>by
  rw[Z];split
  . simp[no2,tot]
  rfl) t1 b3
 refine⟨T,t1,fun t G=>?_,?_,?_⟩
 . rw[Z,if_neg (fun e=>G (by rw[e];exact b3))];exact t2 t G
 . rw[b4,r1,b2];have hl:=f0.len;have:=Int.mul_nonneg (qx0 g.aw n0) (show 0<=tot (s.ins ⟨(n0:Nat),v⟩).a0 by omega);omega
 rw[b4,r1,b2];have e1:∀a b c:Int,a*(b-c+0)=a*b-a*c:=fun a b c=>by rw[Int.add_zero,Int.mul_sub]
 rw[e1];omega
end
end MN
end
end Go.Proofs.YtomicnbiniapfaaGreat

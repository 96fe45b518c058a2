/-
  The laws in plain words: what the plain functions give. No condition beyond those that each theorem names.
-/
import Derived.Test.YtdcdfkdhomekeaaGreatWalkWM1
import Derived.Test.YtdcdfkdhomekeaaGreatLawWM0
import Derived.Test.YtdcdfkdhomekeaaGreatWalkWM2
import Derived.Test.YtdcdfkdhomekeaaGreatWalkWM0
set_option linter.unusedSimpArgs false
set_option linter.unusedVariables false
set_option linter.unusedSectionVars false
open List renaming replicate->Xa,length_take->Xb,length_append->Xc,getD_eq_getElem?_getD->Xe,getElem_mem->Xg,append_assoc->Xh,mem_append->Xj,length_drop->Xk,length_cons->Xl,take_of_length_le->Xm,length_replicate->Xp,mem_singleton->Xq,take_succ_eq_append_getElem->Xr,mem_iff_getElem->Xs,mem_filter->Xt,take_length->Xu,mem_cons->Xw,append_nil->Xx,filter_append->Xz,getElem?_eq_getElem->X0,getElem_take->X3,replicate_succ->X5,Perm.refl->X6,filter_cons->X7,drop_of_length_le->X8,take_append_drop->X9,mem_append_right->Ya,getElem?_eq_none->Yb,pairwise_iff_getElem->Yd,mem_cons_of_mem->Ye,mem_append_left->Yf,filter_cons_of_neg->Yg,getElem?_replicate->Yh,drop_append_of_le_length->Yj,mem_map->Ym,getElem_map->Yn,map_cons->Yo,sum_cons->Yp,length_map->Yq,filter_cons_of_pos->Yt,length_filter_le->Yu,map_append->Yw,foldl_cons->Yx,take_append_of_le_length->Yz,pairwise_cons->Y0,foldl_append->Y3,nil_append->Y5,filter_nil->Y6,getElem?_set_self->Y8,perm_append_comm->Y9,mem_range->Za,length_singleton->Zb,set_append_right->Zc,pairwise_append->Zd,mem_of_mem_take->Ze,range->Zf,getElem?_set_ne->Zg,map_congr_left->Zh,replicate_zero->Zi,set_cons_zero->Zk,any_eq_false->Zm,getElem_drop->Zn,length_range->Zo
open Classical renaming byContradiction->Xd
open Int renaming toNat_natCast->Xf,le_refl->Xv,toNat_of_nonneg->X4,le_trans->Ys,reduceLT->Zl
open Nat renaming le_refl->Xi,zero_le->Xn,min_eq_left->Yc,lt_or_ge->Yl,mul_le_mul_right->Yv,sub_self->Yy,le_trans->Y4,add_mul->Y7,one_mul->Zp
open Bool renaming or_eq_false_iff->Xo,and_eq_true->Xy,or_eq_true->Yi,not_eq_true'->Yk,false_eq_true->Yr,not_eq_false'->Zj
open Option renaming bind_some->Zq
namespace Go.Proofs.YtdcdfkdhomekeaaGreat
section
open Go Go.RowKit
namespace SO
section
variable {key:aB->Int}
def Blk(key:aB->Int)(v:Nat)(l:List aB):Prop:=∀k:Nat,Inc key ((l.drop (k*v)).take v)
theorem Blk.nil(v:Nat):Blk key v []:=λk=>by simp
theorem Blk.app{v k:Nat}{L R:List aB}(h:Blk key v L)(d:L.length=k*v)(c:Inc key R)(e:R.length<=v):Blk key v (L++R):=λj=>by
 rcases Yl j k with a|a
 . have b:(j+1)*v<=k*v:=Yv _ a;rw[Y7,Zp]at b;rw[Yj (by omega),Yz (by rw[Xk];omega)];exact h j
 have b:k*v<=j*v:=Yv _ a;rw[List.drop_append,X8 (l:=L) (by omega),Y5];exact c.sublist ((List.take_sublist _ _).trans (List.drop_sublist _ _))
theorem Blk.drop{v:Nat}{L:List aB}(h:Blk key v L)(k:Nat):Blk key v (L.drop (k*v)):=λj=>by
 rw[List.drop_drop,<-Y7];exact h (k+j)
theorem Blk.all{v:Nat}{L:List aB}(h:Blk key v L)(a:L.length<=v):Inc key L:=by
 have:=h 0;rw[Nat.zero_mul,List.drop_zero,Xm a]at this;exact this
abbrev fA(key:aB->Int)(S Z:List aB):Prop:=∀k:Int,Z.filter (λx=>decide (key x=k))=S.filter (λx=>decide (key x=k))
theorem zw7{S Z:List aB}(h:fA key S Z)(x:aB)(b:x∈Z):x∈S:=by
 have a:x∈Z.filter (λy=>decide (key y=key x)):=by simpa [Xt]using b
 rw[h]at a;exact (Xt.1 a).1
variable {D:aB->Prop} {cmp:aB->aB->Option Int} (hc:∀x y,D x->D y->∃n,cmp x y=some n/\(n<0↔key x<key y))
include hc
theorem dz{data:List aB}(hD:∀x∈data,D x)(hn:data.length<100000000):Ok (q0o data cmp) (λr=>Srt key data r):=by
 obtain⟨N,hN⟩:∃N,N=data.length:=⟨_,rfl⟩;have b:∀{Z:List aB},fA key data Z->Z.length=N:=λ{Z} h=>by rw[hN];exact (j2v _ Z data rfl h).symm
 unfold q0o;refine k2g (P:=λr=>Srt key data r) ?_ λr O=>Ok.guard O.len (Ok.some O);unfold q4t;rw[<-hN];refine k2j (λs=>∃(k:Nat) (L R:List aB),s=(((k*20:Nat):Int),((k*20+20:Nat):Int),L++R)/\L.length=k*20/\k*20<=N/\Blk key 20 L/\fA key data (L++R)) (λs=>N-s.1.toNat) ?_ ⟨0,[],data,rfl,rfl,Xn _,Blk.nil _,λ_=>rfl⟩ (by simp only[rounds];omega);rintro rec _ ⟨k,L,R,rfl,z,hk,G,p⟩ O;have c:=b p;rw[Xc]at c
 have m:∀(S R':List aB),R=S++R'->Ok (q19 (L++R) ((k*20:Nat):Int) ((k*20+S.length:Nat):Int) cmp) (λr=>∃Z,r=L++Z++R'/\Srt key S Z):=λS R' d=>by
  have:=j02 (A:=L) (B:=R') (S:=S) hc (λx o=>hD x (zw7 p x (by rw[d];simp[o]))) (by rw[d]at c;simp only[Xc]at c⊢;omega);rw[Xc,z]at this;rw[d,<-Xh];exact this
 have a:∀{S Z R':List aB},R=S++R'->Srt key S Z->fA key data ((L++Z)++R'):=λ{S Z R'} d f q=>by
  rw[<-p q,d];simp only[Xz,f.fil q,Xh]
 unfold q60;dsimp only;refine k2h (λo=>?_) (λo=>?_)
 .
  simp only[decide_eq_true_eq]at o;have d:R=R.take 20++R.drop 20:=(X9 _ _).symm;have C:(R.take 20).length=20:=by rw[Xb];omega
  have g:=m _ _ d;rw[C]at g;refine k2g g λv H=>?_;obtain⟨Z,rfl,f⟩:=H;have j:=f.len;rw[C]at j;refine Ok.guard (by rw[b (a d f)];rw[Xc];omega) ?_;have hw:IntKind.i64.wrap (((k*20+20:Nat):Int)+20)=((k*20+20+20:Nat):Int):=by rw[wrap_i64 _ (by omega)];omega
  rw[hw];refine O _ ⟨k+1,L++Z,R.drop 20,by rw[show (k+1)*20=k*20+20 by omega],by rw[Xc];omega,by omega,G.app z f.inc (by omega),a d f⟩ (by dsimp only;omega)
 simp only[decide_eq_false_iff_not]at o;unfold q3v;have g:=m R [] (by simp);rw[show k*20+R.length=N by omega]at g;refine k2g g λv H=>?_;obtain⟨Z,rfl,f⟩:=H;have j:=f.len;have I:=a (R':=[]) (by simp) f;refine Ok.guard (by rw[b I];rw[Xc];omega) ?_;have ao:Blk key 20 (L++Z):=G.app z f.inc (by omega);rw[Xx]at I⊢;clear g m a O p G;refine k2j (λs=>∃w:Nat,∃l:List aB,s=((w:Int),l)/\20<=w/\w<=400000000/\Blk key w l/\fA key data l) (λs=>N-s.1.toNat) ?_ ⟨20,L++Z,rfl,by omega,by omega,ao,I⟩ (by simp only[rounds];omega);rintro b2 _ ⟨w,l,rfl,g1,g2,Q,J⟩ T;have b4:=b J;unfold q3w;dsimp only;refine k2h (λo=>?_) (λo=>Ok.some ⟨Q.all ?_,J⟩)
 rotate_left
 . simp only[decide_eq_false_iff_not]at o;omega
 simp only[decide_eq_true_eq]at o;have U:IntKind.i64.wrap (2*(w:Int))=((2*w:Nat):Int):=by rw[wrap_i64 _ (by omega)];omega
 have ar:IntKind.i64.wrap ((w:Int)*2)=((2*w:Nat):Int):=by rw[wrap_i64 _ (by omega)];omega
 rw[U];refine k2j (λs=>∃(k:Nat) (L R:List aB),s=(((k*(2*w):Nat):Int),((k*(2*w)+2*w:Nat):Int),L++R)/\L.length=k*(2*w)/\k*(2*w)<=N/\Blk key (2*w) L/\Blk key w R/\fA key data (L++R)) (λs=>N-s.1.toNat) ?_ ⟨0,[],l,by simp,by simp,by simp,Blk.nil _,Q,by rw[Y5];exact J⟩ (by simp only[rounds];omega);rintro b3 _ ⟨k,L,R,rfl,z,hk,G,t,p⟩ b0;have c:=b p;rw[Xc]at c;have b5:k*(2*w)<1000000000:=by omega
 have V:IntKind.i64.wrap (((k*(2*w):Nat):Int)+(w:Int))=((k*(2*w)+w:Nat):Int):=by rw[wrap_i64 _ (by omega)];omega
 have E:∀(X Y R':List aB),R=X++Y++R'->X≠[]->Y≠[]->Inc key X->Inc key Y->Ok (q49 (L++R) ((k*(2*w):Nat):Int) ((k*(2*w)+X.length:Nat):Int) ((k*(2*w)+X.length+Y.length:Nat):Int) cmp) (λr=>∃Z,r=L++Z++R'/\Srt key (X++Y) Z):=λX Y R' d g h2 h3 h4=>
  z4q hc rounds (A:=L) (X:=X) (Y:=Y) (B:=R') (λx o=>hD x (zw7 p x o)) (by rw[d];simp only[Xh]) z.symm rfl rfl g h2 h3 h4 (by rw[Xc];omega) (by rw[d]at c;simp only[Xc]at c;simp only[rounds];omega)
 have a:∀{S Z R':List aB},R=S++R'->Srt key S Z->fA key data ((L++Z)++R'):=λ{S Z R'} d f q=>by
  rw[<-p q,d];simp only[Xz,f.fil q,Xh]
 have W:Inc key (R.take w):=by have:=t 0;rw[Nat.zero_mul,List.drop_zero]at this;exact this
 have K:Inc key ((R.drop w).take w):=by have:=t 1;rw[Zp]at this;exact this
 unfold q61;dsimp only;refine k2h (λhy=>?_) (λhy=>?_)
 .
  simp only[decide_eq_true_eq]at hy;rw[V,U];have l1:(R.take w).length=w:=by rw[Xb];omega
  have u:((R.drop w).take w).length=w:=by rw[Xb,Xk];omega
  have d:R=R.take w++(R.drop w).take w++R.drop (2*w):=by
   have e:R.drop (2*w)=(R.drop w).drop w:=by rw[List.drop_drop];congr 1;omega
   rw[e,Xh,X9,X9]
  have g:=E _ _ _ d (λh=>by rw[h]at l1;simp at l1;omega) (λh=>by rw[h]at u;simp at u;omega) W K;rw[l1,u,show k*(2*w)+w+w=k*(2*w)+2*w by omega]at g;refine k2g g λv H=>?_;obtain⟨Z,rfl,f⟩:=H;have j:=f.len;rw[Xc,l1,u]at j;refine Ok.guard (by rw[b (a d f)];rw[Xc];omega) ?_;have hw:IntKind.i64.wrap (((k*(2*w)+2*w:Nat):Int)+((2*w:Nat):Int))=((k*(2*w)+2*w+2*w:Nat):Int):=by rw[wrap_i64 _ (by omega)];omega
  rw[hw];have a6:(k+1)*(2*w)=k*(2*w)+2*w:=by rw[Y7,Zp]
  refine b0 _ ⟨k+1,L++Z,R.drop (2*w),by rw[a6],by rw[Xc,a6];omega,by omega,G.app z f.inc (by omega),t.drop 2,a d f⟩ (by dsimp only;omega)
 simp only[decide_eq_false_iff_not]at hy;unfold q3u;rw[V,ar];refine k2h (λhz=>?_) (λhz=>?_)
 .
  simp only[decide_eq_true_eq]at hz;have l1:(R.take w).length=w:=by rw[Xb];omega
  have u:(R.drop w).length=N-(k*(2*w)+w):=by rw[Xk];omega
  have b1:Inc key (R.drop w):=by rw[Xm (by omega)]at K;exact K
  have d:R=R.take w++R.drop w++[]:=by rw[Xx,X9]
  have g:=E _ _ _ d (λh=>by rw[h]at l1;simp at l1;omega) (λh=>by rw[h]at u;simp at u;omega) W b1;rw[l1,u,show k*(2*w)+w+(N-(k*(2*w)+w))=N by omega]at g;refine k2g g λv H=>?_;obtain⟨Z,rfl,f⟩:=H;have j:=f.len;rw[Xc,l1,u]at j;have M:=a d f;refine Ok.guard (by rw[b M];rw[Xc];omega) ?_;rw[Xx]at M⊢;exact T _ ⟨2*w,L++Z,rfl,by omega,by omega,G.app z f.inc (by omega),M⟩ (by dsimp only;omega)
 simp only[decide_eq_false_iff_not]at hz;exact T _ ⟨2*w,L++R,rfl,by omega,by omega,G.app z (t.all (by omega)) (by omega),p⟩ (by dsimp only;omega)
end
theorem eG{key:aB->Int}{cmp:aB->aB->Option Int}(a:∀x y,∃n,cmp x y=some n/\(n<0↔key x<key y)){data:List aB}(b:data.length<100000000):Ok (q0o data cmp) (λr=>Srt key data r):=
 dz (D:=λ_=>True) (λx y _ _=>a x y) (λ_ _=>trivial) b
end SO
end
section
open Go Go.RowKit TS VA BG
namespace MN
open Classical
structure fI(L:List Int)(es:List Int):Prop where
 inc:es.Pairwise (· <·)
 mem:∀x,x∈es↔x∈L
theorem fI.unique{L a es':List Int}(h:fI L a)(b:fI L es'):a=es':=by
 have nd:∀{l:List Int},l.Pairwise (· <·)->l.Nodup:=λh=>h.imp λc e=>by omega
 have p:a.Perm es':=(List.perm_ext_iff_of_nodup (nd h.inc) (nd b.inc)).2 λr=>(h.mem r).trans (b.mem r).symm;exact List.Perm.eq_of_pairwise (le:=(· <·)) (λx y _ _ d f=>by omega) h.inc b.inc p
theorem j0t{v:List Int}(t:v.Pairwise (· <=·)):fI v (Lib.compact v):=by
 have f:=Yd.1 t;have p:∀j,j<v.length->v.toArray[j]! =v.getD j 0:=λj g=>by
  rw[getElem!_pos v.toArray j (by simpa using g)];simp[Xe,g]
 have key:∀m,m<=v.length->(Lib.compactUpTo v.toArray m).Pairwise (· <·)/\∀x,x∈Lib.compactUpTo v.toArray m↔x∈v.take m:=by
  intro m
  induction m with
  |zero=>intro _;simp[Lib.compactUpTo]
  |succ m u=>
   intro A;obtain⟨q,l⟩:=u (by omega);have a:m<v.length:=by omega
   have b:v.toArray[m]! =v[m]:=by rw[getElem!_pos v.toArray m (by simpa using a)];simp
   rw[Lib.compactUpTo_succ,Xr a]
   by_cases c:Lib.keeps v.toArray m=true
   .
    rw[if_pos c,b];refine⟨?_,λx=>by simp only[Xj,l]⟩;rw[Zd];refine⟨q,by simp,λx k y s=>?_⟩;rw[Xq]at s;subst s;obtain⟨j,g,rfl⟩:=Xs.1 ((l x).1 k);rw[Xb]at g;rw[X3];have n:m≠0:=by omega
    have w:v[m]≠v[m-1]:=λe=>by
     have o:v.toArray[m-1]! =v[m-1]:=by rw[getElem!_pos v.toArray (m-1) (by simp;omega)];simp
     have:=Lib.keeps_neg (d:=v.toArray) (m:=m) (by omega) (by rw[b,o,e]);rw[this]at c;cases c
    have B:=f (m-1) m (by omega) a (by omega);rcases Yl j (m-1)with h|h
    . have C:=f j (m-1) (by omega) (by omega) h;omega
    have:j=m-1:=by omega
    subst this;omega
   rw[if_neg c,Xx];refine⟨q,λx=>?_⟩;rw[l,Xj];refine⟨.inl,λh=>h.elim id λk=>?_⟩;rw[Xq]at k;have n:m≠0:=λe=>by subst e;exact c (Lib.keeps_lt_one _ 0 (by omega))
   have z:v[m]=v[m-1]:=by
    refine Decidable.byContradiction λe=>c (Lib.keeps_pos ?_);rw[b,getElem!_pos v.toArray (m-1) (by simp;omega)];simpa using e
   rw[k,z];exact Xs.2 ⟨m-1,by rw[Xb];omega,by simp⟩
 have:=key v.length (Xi _);rw[Xu]at this;have e:Lib.compactUpTo v.toArray v.length=Lib.compact v:=rfl;rw[e]at this;exact⟨this.1,this.2⟩
theorem cX{s:List aT}{f:aT->Option Bool}{p:aT->Bool}(a:s.length<9223372036854775808)(b:∀x∈s,f x=some (p x)):q4r s f=some (s.any p):=qg6 a b
def cB(g:aa)(f:aT):Prop:=0<=f.Node/\f.Node<g.al.length/\(nd g f.Node.toNat).Kind=1/\0<=f.aJ/\f.aJ<=1048576
theorem cO(g:aa)(aA:List aT)(aC:Int)(n:aA.length<1000000000):qo4 g aA aC=some (decide (VA.Good g/\0<=aC/\aC<=1048576/\∀f∈aA,cB g f)):=by
 unfold qo4;rw[zd9];refine k2k (Ok.bind (Ok.some (k2h (λh=>Ok.some ?_) (λh=>?_))))
 .
  symm
  rw[decide_eq_false_iff_not];rintro⟨a,o,c,_⟩;have:=z3o.2 a;simp[this]at h;omega
 simp only[Xo,Zj,beq_iff_eq,decide_eq_false_iff_not]at h;have m:=z3o.1 h.1.1;rw[cX (p:=λf=>decide (¬cB g f)) (by omega) (λf _=>by
  unfold qf3;refine k2k (k2h (λd=>Ok.some ?_) (λd=>?_))
  .
   symm;simp only[decide_eq_true_eq]
   intro b;simp only[Yi,decide_eq_true_eq]at d;have:=b.1;have:=b.2.1;omega
  simp only[Xo,decide_eq_false_iff_not]at d;refine Ok.bind (Ok.dg (by omega) (by omega) λx e=>Ok.some ?_);have j:nd g f.Node.toNat=x:=by unfold nd;rw[List.getD_eq_getElem?_getD,e];rfl
  rw[Bool.eq_iff_iff];simp only[Bool.or_eq_true,Bool.not_eq_true',beq_eq_false_iff_ne,decide_eq_true_eq,cB,j]
  constructor
  .
   rintro a ⟨_,_,c,k,l⟩;rcases a with (a|a)|a
   . exact a c
   . omega
   omega
  intro a
  by_cases c:x.Kind=1
  .
   by_cases k:0<=f.aJ
   . exact .inr (Int.not_le.1 λl=>a ⟨by omega,by omega,c,k,l⟩)
   exact .inl (.inr (by omega))
  exact .inl (.inl c))]
 refine Ok.bind (Ok.some (Ok.some ?_));rw[Bool.eq_iff_iff];simp only[Yk,Zm,decide_eq_true_eq,Classical.not_not];exact⟨λb=>⟨m,by omega,by omega,b⟩,λb=>b.2.2.2⟩
def Ask(g:aa)(aA:List aT)(aC:Int):Prop:=VA.Good g/\0<=aC/\aC<=1048576/\∀f∈aA,cB g f
theorem zk5{g:aa}(a:VA.Good g):∀(k:Nat) (s:Int),0<=s->s<g.ae.length->s<k->(0:Int)∈anc g.ae s
 |0,s,_,_,h=>by omega
 |k+1,s,b,c,h=>by
  rw[q46 a.wp b c]
  by_cases d:s=0
  . rw[d];simp
  have hd:=(bb a b c).2.2 d;have:=(a.wp.2 s b c).1;exact Ye _ (zk5 a k _ hd.1 hd.2.1 (by omega))
theorem fT{g:aa}(a:VA.Good g):dep g 0=1:=by
 have b:=a.wp;have hp:=a.pl;have c:=(b.2 0 (by omega) (by omega)).2.2 rfl;unfold dep;rw[q46 b (by omega) (by omega),c,q6p];rfl
def ep(e:Int):af:=⟨1,⟨e,0,0,0⟩⟩
theorem zg2{e:Int}(h:0<=e/\e<=1048576):ok (ep e):=by unfold ok ep;dsimp only;simp;omega
theorem dI{g:aa}(a:VA.Good g){n:Nat}(b:n<g.al.length)(c:(nd g n).Kind=1){e:Int}(d:0<=e/\e<=1048576):PtM g ⟨(n:Int),ep e⟩:=by
 have f:=(q7t (a.no n b)).2.2.2.1 (.inl c);refine⟨n,b,rfl,zg2 d,?_⟩
 show (1:Int)=_
 unfold lev q0s;rw[if_neg (by omega),f,fT a];rfl
def s0:MS:=⟨λ_=>no2,λ_=>[],λ_=>[],0,[],0⟩
noncomputable def bJ(s:MS)(f:aT):MS:=q6l s ⟨f.Node,ep f.aJ⟩ 0 [⟨f.Rec,1⟩]
noncomputable def bK(aA:List aT):MS:=aA.foldl bJ s0
def dx(aA:List aT):List Int:=Lib.compact ((aA.map (·.aJ)).mergeSort λx y=>decide (x<=y))
noncomputable def zi5(g:aa)(aC:Int)(s:MS)(e:Int):MS:=(q4q g aC 8 0 g.al.length 0 (ep e) s).2
noncomputable def dV(g:aa)(aC:Int)(aA:List aT):MS:=(dx aA).foldl (zi5 g aC) (bK aA)
def cv(outs:List aB):List aB:=(q0o outs λx y=>q6f x y).getD []
noncomputable def fr(g:aa)(aA:List aT)(aC:Int):List aB×Int:=if Ask g aA aC then (if (dV g aC aA).e≠0 then ([],(dV g aC aA).e)else (cv (dV g aC aA).outs,0))else ([],1)
theorem cw(aA:List aT):fI (aA.map (·.aJ)) (dx aA):=by
 have hp:=List.mergeSort_perm (aA.map (·.aJ)) (λx y=>decide (x<=y));have d:((aA.map (·.aJ)).mergeSort (λx y=>decide (x<=y))).Pairwise (· <=·):=
  (List.pairwise_mergeSort (le:=λx y:Int=>decide (x<=y)) (λa b c=>by simp only[decide_eq_true_eq];omega) (λa b=>by simp only[Yi,decide_eq_true_eq];omega) (aA.map (·.aJ))).imp (by simp)
 have:=j0t d;exact⟨this.inc,λx=>(this.mem x).trans hp.mem_iff⟩
theorem fP(a b:Int):q38 a b=some (if a<b then -1 else if b<a then 1 else 0):=by
 simp only[q38,q8c,q9,Zq,beq_self_eq_true,Bool.not_true,Yr,if_false,decide_eq_true_eq]
 split<;>(try rfl)
 split<;>rfl
theorem jm6(x y:aB):∃n,q6f x y=some n/\(n<0↔x.Node<y.Node):=by
 unfold q6f;rw[fP];refine⟨_,rfl,?_⟩
 split
 . simp;assumption
 split<;>simp<;>omega
theorem cV{outs:List aB}(h:outs.length<100000000):q0o outs (λx y=>q6f x y)=some (cv outs)/\SO.Srt (λo=>o.Node) outs (cv outs):=by
 obtain⟨r,a,b⟩:=SO.eG (key:=λo=>o.Node) (cmp:=λx y=>q6f x y) jm6 h;have:cv outs=r:=by unfold cv;rw[a];rfl
 rw[this];exact⟨a,b⟩
theorem j5q{outs:List aB}(h:outs.length<100000000):q0o outs (λx y=>q6f x y)=some (cv outs)/\(cv outs).Perm outs:=⟨(cV h).1,(cV h).2.perm⟩
theorem ew(r:aR):Fn [⟨r,1⟩]/\tot [(⟨r,1⟩:a7)]=1:=⟨⟨⟨by simp,by simp⟩,by simp[OP.Pos]⟩,by simp[tot]⟩
theorem jz2{g:aa}{C aC:Int}(b:C+aC<=7000){aA:List aT}(c:Ask g aA aC){r:a8}(a:St g C aC r)(d:ab r=dV g aC aA):qj9 r=some (fr g aA aC):=by
 unfold qj9 fr;rw[if_pos c,<-d];refine k2k (k2h (λh=>Ok.some ?_) (λh=>?_))
 .
  have h:(ab r).e≠0:=by simpa [ab]using h
  rw[if_pos h];rfl
 have h:r.e=0:=by simpa using h
 rw[if_neg (λf=>f h)];have l:=a.inv.pot;have m:=a.inv.eI;have n:=a.wx;obtain⟨j,k⟩:=j5q (outs:=r.outs) (by omega);refine Ok.bind (Ok.of_eq j ?_);exact Ok.guard k.length_eq (Ok.some rfl)
theorem eR(g:aa)(aA:List aT){aC:Int}(L:aC<=5000)(P:aA.length<=500):Ok (qh9 g aA aC) λv=>v=fr g aA aC/\(Ask g aA aC->∃r,St g aA.length aC r/\ab r=dV g aC aA):=by
 unfold qh9;rw[cO g aA aC (by omega)]
 by_cases o:Ask g aA aC
 case neg=>
  unfold fr;rw[if_neg o];refine Ok.bind (Ok.some (k2h (λ_=>Ok.some ⟨rfl,λh=>absurd h o⟩) (λh=>?_)));exact absurd (by simpa [Ask]using h) o
 have p:=o;obtain⟨d,E,_,M⟩:=o;have Q:=d.nl;have R:=d.pl;refine Ok.bind (Ok.some (k2h (λh=>by simp only[Yk,decide_eq_false_iff_not]at h;exact absurd p h) (λ_=>?_)));have S:ab ⟨g,(Prod.mk ([]:List ah) ([]:List (aP (List a7)))),(Prod.mk ([]:List Int) ([]:List (List aD))),(Prod.mk ([]:List ah) ([]:List (List a7))),0,aC,([]:List aB),0⟩=s0:=rfl;refine Ok.each (l:=aA) (by omega) (λi (s:a8×List Int)=>Inv g i s.1/\s.1.aC=aC/\s.1.work=0/\s.1.e=0/\ab s.1=(aA.take i).foldl bJ s0/\s.2=(aA.take i).map (·.aJ)) 0 (λrec i hi s _ j a=>?_) (λrec s j=>?_)
  ⟨⟨rfl,rfl,by simp,by simp,by simp,rfl,by simp,rfl,by simp,by simp,by simp,by simp,by simp⟩,rfl,rfl,rfl,S,rfl⟩ (Xn _)
 .
  obtain⟨b,G⟩:=s;obtain⟨q,u,A,B,k,c⟩:=j;dsimp only at q u A B k c;unfold qk0;dsimp only;rw[if_pos (by simpa using hi),iw hi (by omega)];refine Ok.bind (k2i hi (Ok.guard ?_ ?_))
  . rw[c];simp only[Yq,Xb,Xl,List.length_nil];omega
  obtain⟨f0,f1,T,f3,U⟩:=M _ (Xg hi);have H:PtM g ⟨aA[i].Node,ep aA[i].aJ⟩:=by
   have:=dI d (n:=aA[i].Node.toNat) (by omega) T ⟨f3,U⟩;rw[X4 f0]at this;exact this
  obtain⟨V,o2⟩:=ew aA[i].Rec;refine k2g (j30 d q (t:=ep aA[i].aJ) H (.inl rfl) V (by omega) (by omega)) λv I=>?_;obtain⟨v1,v2,v3,v4⟩:=I;refine a _ ⟨?_,v3.trans u,v4.trans A,?_,?_,?_⟩
  . rw[o2]at v1;exact_mod_cast v1
  .
   have:(ab v).e=(q6l (ab b) ⟨aA[i].Node,ep aA[i].aJ⟩ 0 [⟨aA[i].Rec,1⟩]).e:=by rw[v2]
   have W:(q6l (ab b) ⟨aA[i].Node,ep aA[i].aJ⟩ 0 [⟨aA[i].Rec,1⟩]).e=(ab b).e:=by unfold q6l;split<;>rfl
   rw[W]at this;exact this.trans B
  . dsimp only;rw[Xr hi,Y3,<-k,v2];rfl
  dsimp only;rw[Xr hi,Yw,c];rfl
 obtain⟨b,G⟩:=s;obtain⟨q,u,A,B,k,c⟩:=j;dsimp only at q u A B k c;rw[Xu]at k c;unfold qk0;dsimp only;rw[if_neg (by simp)];unfold qu1 qd3 q8x j3i zd6;have N:G.length=aA.length:=by rw[c,Yq]
 refine Ok.bind (Ok.guard (by omega) (Ok.some (Ok.guard (by simp) (Ok.bind (Ok.guard (by simp;omega) (Ok.some ?_))))));have w:Lib.compact (G.mergeSort λx y=>decide (x<=y))=dx aA:=by rw[c];rfl
 rw[w];have J:=cw aA;have O:(dx aA).length<=500:=by
  have:=Lib.compact_length_le ((aA.map (·.aJ)).mergeSort λx y=>decide (x<=y));rw[List.length_mergeSort,Yq]at this;exact Y4 this P
 refine Ok.each (l:=dx aA) (by omega) (λi (s:a8)=>St g aA.length aC s/\ab s=((dx aA).take i).foldl (zi5 g aC) (bK aA)) 0 (λrec i hi s _ j a=>?_) (λrec s j=>?_)
  ⟨⟨q.mono (by omega),u,by omega,λ_=>by omega,by omega⟩,k⟩ (Xn _)
 .
  obtain⟨D,z⟩:=j;unfold qk1;dsimp only;rw[if_pos (by simpa using hi),iw hi (by omega)];refine Ok.bind (k2i hi ?_);have K:okz (ep (dx aA)[i]):=by
   obtain⟨f,X,Y⟩:=Ym.1 ((J.mem _).1 (Xg hi));rw[<-Y];have:=(M f X).2.2.2;exact .inl (zg2 this)
  have:=zx1 d (C:=aA.length) (aC:=aC) (by omega) E (by omega) 8 rounds (from_:=0) (to:=g.al.length) (sc:=0) (t:=ep (dx aA)[i]) (r:=s) (Xn _) (Xi _) K (Xv _) (by omega) (λm _ L=>by
   obtain⟨k1,k2,_⟩:=aQ d L;exact zk5 d _ _ k1 k2 (by have:=X4 k1;show (nd g m).Scope<(((nd g m).Scope.toNat+1:Nat):Int);omega)) (by simp;omega) (by simp only[rounds];omega) D
  refine k2g this λv I=>?_;obtain⟨v1,v2,v3⟩:=I;refine a _ ⟨v2,?_⟩;rw[Xr hi,Y3,<-z,v3];rfl
 obtain⟨D,z⟩:=j;rw[Xu]at z;unfold qk1;dsimp only;rw[if_neg (by simp)];exact Ok.of_eq (jz2 (by omega) p D z) ⟨rfl,λ_=>⟨s,D,z⟩⟩
end MN
end
section
open Go Go.RowKit TS VA BG
namespace MN
open Classical
theorem dL(g:aa):Ok (q45 g) λ_=>True:=by
 unfold q45;refine k2h (λ_=>Ok.some trivial) (λh=>?_);simp only[Xo,decide_eq_false_iff_not]at h;refine k2l (l:=g.al) (by omega) (λ_=>True) 0 (λrec i hi _ _ a=>?_) (λrec _=>?_) trivial (Xn _)
 . unfold q44;rw[if_pos (by simpa using hi),iw hi (by omega)];exact Ok.bind (k2i hi (k2h (λ_=>Ok.some trivial) (λ_=>a trivial)))
 unfold q44;rw[if_neg (by simp)];exact Ok.some trivial
theorem dn{l:List aB}(b:l.length<9223372036854775807):q78 l l=some true:=by
 unfold q78;rw[if_neg (by simp)];refine k2k (k2l (l:=l) b (λ_=>True) 0 (λrec i hi _ _ a=>?_) (λrec _=>?_) trivial (Xn _))
 . unfold q7f;rw[if_pos (by simpa using hi),iw hi b];refine Ok.bind (k2i hi (Ok.bind (k2i hi ?_)));rw[if_neg (by simp)];exact a trivial
 unfold q7f;rw[if_neg (by simp)];exact Ok.some rfl
noncomputable def fm(aA:List aT)(p:ah)(x:aR):Int:=((aA.filter λf=>decide ((⟨f.Node,ep f.aJ⟩:ah)=p/\f.Rec=x)).length:Int)
theorem j7e(f:aT)(l:List aT)(p:ah)(x:aR):fm (f::l) p x=(if (⟨f.Node,ep f.aJ⟩:ah)=p/\f.Rec=x then 1 else 0)+fm l p x:=by
 unfold fm
 by_cases h:(⟨f.Node,ep f.aJ⟩:ah)=p/\f.Rec=x
 . rw[Yt (by simpa using h),if_pos h];simp only[Xl];push_cast;omega
 rw[Yg (by simpa using h),if_neg h];omega
theorem j4x(r x:aR):cnt [⟨r,1⟩] x=if r=x then 1 else 0:=by simp[cnt]
theorem zq3:∀(aA:List aT) (s:MS) (K:Int),(∀p,Fn (s.ins p).a0/\tot (s.ins p).a0<=K/\(s.ins p).a1=[])->K+aA.length<=1000000->
 (∀p,Fn ((aA.foldl bJ s).ins p).a0/\((aA.foldl bJ s).ins p).a1=[]/\∀x,cnt ((aA.foldl bJ s).ins p).a0 x=cnt (s.ins p).a0 x+fm aA p x)/\
 (aA.foldl bJ s).ay=s.ay/\(aA.foldl bJ s).aE=s.aE/\(aA.foldl bJ s).work=s.work/\(aA.foldl bJ s).outs=s.outs/\(aA.foldl bJ s).e=s.e
 |[],s,K,h,_=>⟨λp=>⟨(h p).1,(h p).2.2,λx=>by simp[fm]⟩,rfl,rfl,rfl,rfl,rfl⟩
 |f::l,s,K,h,j=>by
  simp only[Xl]at j;rw[Yx];obtain⟨m,o2⟩:=ew f.Rec;have k:∀p,(bJ s f).ins p=if p=⟨f.Node,ep f.aJ⟩then⟨aS (s.ins p).a0 [⟨f.Rec,1⟩],(s.ins p).a1⟩else s.ins p:=λp=>by
   unfold bJ q6l;rw[if_neg (by simp)]
   show upd s.ins _ _ p=_
   unfold upd q6m
   by_cases hp:p=⟨f.Node,ep f.aJ⟩
   . subst hp;rw[if_pos rfl,if_pos rfl,if_pos rfl]
   rw[if_neg hp,if_neg hp]
  have a:∀p,q31 (s.ins p).a0 [⟨f.Rec,1⟩]=some (aS (s.ins p).a0 [⟨f.Rec,1⟩])/\Fn (aS (s.ins p).a0 [⟨f.Rec,1⟩])/\tot (aS (s.ins p).a0 [⟨f.Rec,1⟩])=tot (s.ins p).a0+tot [⟨f.Rec,1⟩]/\∀x,cnt (aS (s.ins p).a0 [⟨f.Rec,1⟩]) x=cnt (s.ins p).a0 x+cnt [⟨f.Rec,1⟩] x:=λp=>
   aY (h p).1 m (by have:=(h p).2.1;omega)
  obtain⟨g,b⟩:=zq3 l (bJ s f) (K+1) (λp=>by
   rw[k]
   by_cases hp:p=⟨f.Node,ep f.aJ⟩
   . rw[if_pos hp];obtain⟨_,n,o,_⟩:=a p;exact⟨n,by dsimp only;have:=(h p).2.1;omega,(h p).2.2⟩
   rw[if_neg hp];exact⟨(h p).1,by have:=(h p).2.1;omega,(h p).2.2⟩) (by push_cast at j;omega)
  refine⟨λp=>⟨(g p).1,(g p).2.1,λx=>?_⟩,?_⟩
  .
   rw[(g p).2.2 x,k,j7e]
   by_cases hp:p=⟨f.Node,ep f.aJ⟩
   .
    rw[if_pos hp];dsimp only;rw[(a p).2.2.2 x,j4x]
    by_cases d:f.Rec=x
    . rw[if_pos d,if_pos ⟨hp.symm,d⟩];omega
    rw[if_neg d,if_neg (λh=>d h.2)];omega
   rw[if_neg hp,if_neg (λh=>hp h.1.symm)];omega
  have c:(bJ s f).ay=s.ay/\(bJ s f).aE=s.aE/\(bJ s f).work=s.work/\(bJ s f).outs=s.outs/\(bJ s f).e=s.e:=by
   unfold bJ q6l;rw[if_neg (by simp)];exact⟨rfl,rfl,rfl,rfl,rfl⟩
  exact⟨b.1.trans c.1,b.2.1.trans c.2.1,b.2.2.1.trans c.2.2.1,b.2.2.2.1.trans c.2.2.2.1,b.2.2.2.2.trans c.2.2.2.2⟩
theorem jb6{x y:aP (List a7)}(a:x.a0=y.a0)(b:x.a1=y.a1):x=y:=by
 cases x;cases y;simp_all
theorem dj(aA:List aT)(c:aA.length<=1000):(∀p,Fn ((bK aA).ins p).a0/\((bK aA).ins p).a1=[]/\∀x,cnt ((bK aA).ins p).a0 x=fm aA p x)/\
 (bK aA).ay=s0.ay/\(bK aA).aE=s0.aE/\(bK aA).work=0/\(bK aA).outs=[]/\(bK aA).e=0:=by
 obtain⟨a,b⟩:=zq3 aA s0 0 (λp=>⟨Fn.nil,by simp[s0,no2,tot],rfl⟩) (by omega);exact⟨λp=>⟨(a p).1,(a p).2.1,λx=>by have:=(a p).2.2 x;rw[show cnt (s0.ins p).a0 x=0 by simp[s0,no2,cnt]]at this;unfold bK;omega⟩,b⟩
end MN
end
section
open Go Go.RowKit TS VA BG
namespace MN
open Classical
def W(g:aa)(s:MS):Prop:=∀p,s.ins p≠no2->PtM g p
theorem bH(s:MS)(q:ah)(port:Int)(b:List a7)(p:ah):(q6l s q port b).ins p=if b≠[]/\p=q then q6m (s.ins q) port b else s.ins p:=by
 unfold q6l
 by_cases hb:b=[]
 . rw[if_pos hb,if_neg (λh=>h.1 hb)]
 rw[if_neg hb]
 show upd s.ins q _ p=_
 unfold upd
 by_cases hp:p=q
 . rw[if_pos hp,if_pos ⟨hb,hp⟩]
 rw[if_neg hp,if_neg (λh=>hp h.2)]
theorem z7e(s:MS)(q:ah)(port:Int)(b:List a7):(q6l s q port b).ay=s.ay/\(q6l s q port b).aE=s.aE/\(q6l s q port b).work=s.work/\(q6l s q port b).outs=s.outs/\(q6l s q port b).e=s.e:=by
 unfold q6l;split<;>exact⟨rfl,rfl,rfl,rfl,rfl⟩
theorem js4(t:af):(leT t).C.a0=t.C.a0:=by
 unfold leT
 split
 . rfl
 split<;>rfl
theorem jr4{t:af}(h:t.D≠1):(nxT t).C.a0=t.C.a0:=by
 unfold nxT;rw[if_neg h]
 split
 . rfl
 split<;>rfl
theorem zc6{g:aa}(f:VA.Good g){n:Nat}(j:n<g.al.length){t:af}(k:PtM g ⟨n,t⟩)(a:(q05 g n t).2=true):(q05 g n t).1.C.a0=t.C.a0:=by
 obtain⟨m,s,l,o,p⟩:=k;obtain rfl:n=m:=by have:(n:Int)=m:=l;omega
 dsimp only at o p
 by_cases b:(nd g n).Kind=10
 .
  rw[bY b]at a⊢
  split
  . rfl
  rename_i c;rw[if_neg c]at a;cases a
 by_cases d:(nd g n).Kind=11
 .
  rw[bN d]at a⊢
  split
  . exact js4 t
  rename_i c;rw[if_neg c]at a;cases a
 by_cases e:(nd g n).Kind=12
 .
  rw[bz e]at a⊢
  split
  .
   show (nxT t).C.a0=_
   obtain⟨k1,k2,q⟩:=aQ f j;have hd:=(bb f k1 k2).2.2 (q (by omega));have:lev g n=dep g (nd g n).Scope:=by unfold lev q0s;rw[if_neg b]
   exact jr4 (by omega)
  rename_i c;rw[if_neg c]at a;cases a
 rw[cg b d e]
structure br(g:aa)(e:Int)(s s':MS):Prop where
 ins:∀p:ah,p.time.C.a0≠e->s'.ins p=s.ins p
 work:s.work<=s'.work
 outs:∃more,s'.outs=s.outs++more/\∀o∈more,o.aJ=e
 dead:s.e≠0->s'.e≠0
 ay:(∀n,n<g.al.length->(nd g n).Kind≠14)->s'.ay=s.ay/\s'.aE=s.aE
theorem br.refl(g:aa)(e:Int)(s:MS):br g e s s:=⟨λ_ _=>rfl,Xv _,⟨[],by simp,by simp⟩,λh=>h,λ_=>⟨rfl,rfl⟩⟩
theorem br.trans{g:aa}{e:Int}{a b c:MS}(h:br g e a b)(k:br g e b c):br g e a c:=by
 obtain⟨f,j,l⟩:=h.outs;obtain⟨m,k1,k2⟩:=k.outs;refine⟨λp hp=>(k.ins p hp).trans (h.ins p hp),Ys h.work k.work,⟨f++m,by rw[k1,j,Xh],λo n=>?_⟩,λhd=>k.dead (h.dead hd),λd=>⟨(k.ay d).1.trans (h.ay d).1,(k.ay d).2.trans (h.ay d).2⟩⟩;rcases Xj.1 n with h|h
 . exact l o h
 exact k2 o h
section
variable {g:aa} (hG:VA.Good g)
include hG
theorem zo4{n:Nat}(c:n<g.al.length){t:af}(d:PtM g ⟨n,t⟩)(f:(q05 g n t).2=true){out:List a7}(m:Fn out):∀(a:List aU) (s:MS),(∀e∈a,e∈g.aw)->W g s->
 W g (q3b n (q05 g n t).1 out a s)/\br g t.C.a0 s (q3b n (q05 g n t).1 out a s)/\(q3b n (q05 g n t).1 out a s).e=s.e
 |[],s,_,b=>⟨b,br.refl _ _ _,rfl⟩
 |e::a,s,o,b=>by
  have j:W g (ba n (q05 g n t).1 out s e)/\br g t.C.a0 s (ba n (q05 g n t).1 out s e)/\(ba n (q05 g n t).1 out s e).e=s.e:=by
   unfold ba
   by_cases k:e.aO=n
   .
    rw[if_pos k];obtain⟨u,w,H,y,q⟩:=z7e s ⟨e.To,(q05 g n t).1⟩ e.Port out;obtain⟨z,_⟩:=dq hG c d f (o e (by simp)) k;have l:=zc6 hG c d f;have:=m.len;refine⟨λp hp=>?_,⟨λp hp=>?_,by dsimp only;omega,⟨[],by dsimp only;rw[y];simp,by simp⟩,by dsimp only;rw[q];exact λh=>h,λ_=>⟨u,w⟩⟩,q⟩
    .
     dsimp only at hp;rw[bH]at hp
     split at hp
     . rename_i A;rw[A.2];exact z
     exact b p hp
    dsimp only;rw[bH,if_neg];rintro⟨_,rfl⟩;exact hp l
   rw[if_neg k];exact⟨b,br.refl _ _ _,rfl⟩
  obtain⟨B,D,E⟩:=zo4 c d f m a (ba n (q05 g n t).1 out s e) (λx G=>o x (by simp[G])) j.1;exact⟨B,j.2.1.trans D,E.trans j.2.2⟩
omit hG in
theorem j5n{n:Nat}(d:n<g.al.length){t:af}(s:MS)(f:W g s):W g (aX g n t s)/\br g t.C.a0 s (aX g n t s)/\(aX g n t s).e=s.e:=by
 have b:∀p,upd s.ins ⟨n,t⟩ no2 p≠no2->PtM g p:=λp hp=>by
  unfold upd at hp
  split at hp
  . exact absurd rfl hp
  exact f p hp
 have c:∀p:ah,p.time.C.a0≠t.C.a0->upd s.ins ⟨n,t⟩ no2 p=s.ins p:=λp hp=>by
  unfold upd;rw[if_neg];rintro rfl;exact hp rfl
 unfold aX
 by_cases a:(nd g n).Kind=14
 . rw[if_pos a];exact⟨b,⟨c,Xv _,⟨[],by simp,by simp⟩,λh=>h,λh=>absurd a (h n d)⟩,rfl⟩
 rw[if_neg a];exact⟨b,⟨c,Xv _,⟨[],by simp,by simp⟩,λh=>h,λ_=>⟨rfl,rfl⟩⟩,rfl⟩
theorem z4k(aC:Int){n:Nat}(m:n<g.al.length){t:af}{e:Int}(q:ok t->t.C.a0=e){s:MS}(d:W g s):W g (bh g aC s n t).2/\br g e s (bh g aC s n t).2:=by
 unfold bh
 by_cases h:s.ins ⟨n,t⟩=no2\/s.e≠0
 . rw[if_pos h];exact⟨d,br.refl _ _ _⟩
 rw[if_neg h];have f:s.ins ⟨n,t⟩≠no2:=λe=>h (.inl e);have a:=d _ f;have j:t.C.a0=e:=q (by obtain⟨_,_,_,u,_⟩:=a;exact u);subst j;obtain⟨w1,k1,z⟩:=j5n m (t:=t) s d
 generalize aX g n t s=p at*
 generalize (if (nd g n).Kind=14 then dW p n t else (s.ins ⟨n,t⟩).a1)=b
 unfold cm
 cases w:bM (nd g n) (s.ins ⟨n,t⟩).a0 b with
 |none=>
  dsimp only;exact⟨w1,k1.trans ⟨λ_ _=>rfl,Xv _,⟨[],by simp,by simp⟩,λ_=>by dsimp only;decide,λ_=>⟨rfl,rfl⟩⟩⟩
 |some out=>
  dsimp only;obtain⟨k,_⟩:=z4n w
  by_cases c:(nd g n).Kind=15
  . rw[if_pos c];refine⟨w1,k1.trans ⟨λ_ _=>rfl,Xv _,⟨_,rfl,λo k=>?_⟩,λh=>h,λ_=>⟨rfl,rfl⟩⟩⟩;obtain⟨r,_,rfl⟩:=Ym.1 k;rfl
  rw[if_neg c]
  by_cases l:(q05 g n t).2=false\/out=[]
  . rw[if_pos l];exact⟨w1,k1⟩
  rw[if_neg l];have y:(q05 g n t).2=true:=by simpa using λe=>l (.inl e)
  obtain⟨w2,k2,A⟩:=zo4 hG m a y k g.aw p (λ_ h=>h) w1;dsimp only
  split
  . exact⟨w2,k1.trans (k2.trans ⟨λ_ _=>rfl,Xv _,⟨[],by simp,by simp⟩,λ_=>by dsimp only;decide,λ_=>⟨rfl,rfl⟩⟩)⟩
  exact⟨w2,k1.trans k2⟩
end
section
variable {g:aa} {aC:Int} {T:Int->Prop} {P:MS->Prop} (hev:∀s n t,n<g.al.length->(ok t->T t.C.a0)->P s->P (bh g aC s n t).2)
include hev
end
section
variable {g:aa} {aC:Int} {T:Int->Prop} {G:MS->MS->Prop}
 (hev:∀s s' n t,n<g.al.length->(ok t->T t.C.a0)->G s s'->(bh g aC s n t).2.e=0->G (bh g aC s n t).2 (bh g aC s' n t).2/\(bh g aC s n t).1=(bh g aC s' n t).1)
include hev
end
end MN
end
section
open Go Go.RowKit TS VA BG
namespace MN
open Classical
section
variable {g:aa} (hG:VA.Good g) {aC:Int} {V:Int->Prop} {d:Int} (hd:0<=d) {pre:List aB}
include hG hd
omit hd
include hd
end
theorem jm5{g:aa}{s:MS}{q:ah}{port:Int}{b:List a7}(h:W g s)(a:PtM g q):W g (q6l s q port b):=λp hp=>by
 rw[bH]at hp
 split at hp
 . rename_i c;rw[c.2];exact a
 exact h p hp
theorem fj{g:aa}(b:VA.Good g)(aA:List aT)(c:∀f∈aA,cB g f):W g (bK aA):=by
 unfold bK;have:∀(l:List aT) (s:MS),(∀f∈l,cB g f)->W g s->W g (l.foldl bJ s):=by
  intro l
  induction l with
  |nil=>intro s _ h;exact h
  |cons f l d=>
   intro s a h;rw[Yx];refine d _ (λx e=>a x (by simp[e])) ?_;obtain⟨f0,f1,j,f3,k⟩:=a f (by simp);refine jm5 h ?_;have:=dI b (n:=f.Node.toNat) (by omega) j ⟨f3,k⟩;rw[X4 f0]at this;exact this
 exact this aA s0 c (λp hp=>absurd rfl hp)
end MN
end
section
open Go Go.RowKit TS VA BG
namespace MN
open Classical
def under(t v:af):Prop:=t.D<=v.D/\t.C.a0=v.C.a0/\(1<t.D->v.C.a1=t.C.a1)/\(2<t.D->v.C.a2=t.C.a2)/\(3<t.D->v.C.a3=t.C.a3)
def bS(t v:af):Prop:=t.D<=v.D/\(1<t.D->v.C.a0=t.C.a0)/\(2<t.D->v.C.a1=t.C.a1)/\(3<t.D->v.C.a2=t.C.a2)/\(t.D=1->t.C.a0<v.C.a0)/\(t.D=2->t.C.a1<v.C.a1)/\(t.D=3->t.C.a2<v.C.a2)/\(t.D=4->t.C.a3<v.C.a3)
theorem q8r(t:af):under t t:=by unfold under;omega
theorem z0v{t u v:af}(h:under t u)(k:under u v):under t v:=by unfold under at*;omega
theorem zv1(t:af):under t (enT t)/\t.D<(enT t).D:=by unfold under enT;dsimp only;omega
theorem qp1{t v:af}(a:ok t)(b:ok v)(h:under t v)(hd:t.D<v.D):under t (leT v)/\under t (nxT v):=by
 have c:=cL b;have d:=a.1;obtain⟨E,⟨b0,e,f,g⟩⟩:=v;unfold under leT nxT at*;dsimp only at*;rcases c with rfl|rfl|rfl|rfl<;>simp<;>omega
theorem j9l{t v:af}(a:ok t)(b:t.D≠4)(h:bS (enT t) v):under t v/\t.D<v.D:=by
 have c:=cL a;unfold under bS enT at*;dsimp only at*;omega
theorem j5j{t v:af}(h:under (enT t) v):under t v/\t.D<v.D:=by
 unfold under enT at*;dsimp only at*;omega
theorem qw7{t v:af}(a:ok t)(h:under t v):¬bS t v:=by
 have b:=cL a;unfold under bS at*;omega
theorem z2q{t v:af}(a:ok t)(c:2<=t.D)(h:under (nxT t) v):bS t v:=by
 have b:=cL a;obtain⟨D,⟨a0,a1,a2,a3⟩⟩:=t;unfold under bS nxT at*;dsimp only at*;rcases b with rfl|rfl|rfl|rfl<;>simp at*<;>omega
theorem j9k{t v:af}(a:ok t)(c:2<=t.D)(h:bS (nxT t) v):bS t v:=by
 have b:=cL a;obtain⟨D,⟨a0,a1,a2,a3⟩⟩:=t;unfold bS nxT at*;dsimp only at*;rcases b with rfl|rfl|rfl|rfl<;>simp at*<;>omega
theorem z6a{t v:af}(a:ok t)(c:ok v)(h:under t v)(hd:v.D=t.D):v=t:=by
 have b:=cL a;obtain⟨D,⟨a0,a1,a2,a3⟩⟩:=t;obtain⟨E,⟨b0,d,e,f⟩⟩:=v;unfold under ok at*;dsimp only at*;subst hd;rcases b with rfl|rfl|rfl|rfl<;>simp at*<;>omega
theorem jy4{t:af}(a:ok t)(c:2<=t.D)(h:bj t=0):enT (leT t)=t:=by
 have b:=cL a;obtain⟨D,⟨a0,a1,a2,a3⟩⟩:=t;unfold enT leT bj ok at*;dsimp only at*;rcases b with rfl|rfl|rfl|rfl<;>simp at*<;>omega
theorem zt6{t:af}(a:ok t)(c:t.D≠4):leT (enT t)=t/\bj (enT t)=0:=by
 have b:=cL a;obtain⟨D,⟨a0,a1,a2,a3⟩⟩:=t;unfold enT leT bj ok at*;dsimp only at*;rcases b with rfl|rfl|rfl|rfl<;>simp at*<;>omega
theorem eV{t:af}(a:ok t)(c:2<=t.D):leT (nxT t)=leT t/\bj (nxT t)=bj t+1:=by
 have b:=cL a;obtain⟨D,⟨a0,a1,a2,a3⟩⟩:=t;unfold nxT leT bj at*;dsimp only at*;rcases b with rfl|rfl|rfl|rfl<;>simp at*
theorem last_pos{t:af}(a:ok t):0<=bj t:=by
 have b:=cL a;unfold ok at a;unfold bj;rcases b with h|h|h|h<;>simp[h]<;>omega
theorem z4y{u a v:af}(b:ok u)(h:bS u a)(hd:a.D=u.D)(c:under a v):bS u v:=by
 have d:=cL b;unfold bS under at*;omega
theorem z8e{u a:af}(b:ok u)(d:2<=u.D)(h:bS u a)(hd:a.D=u.D):bS u (nxT a)/\(nxT a).D=u.D:=by
 have c:=cL b;obtain⟨D,⟨a0,a1,a2,a3⟩⟩:=u;obtain⟨E,⟨b0,e,f,g⟩⟩:=a;unfold bS nxT at*;dsimp only at*;subst hd;rcases c with rfl|rfl|rfl|rfl<;>simp at*<;>omega
theorem zz9{u a:af}(b:ok u)(c:ok a)(e:2<=u.D)(h:bS u a)(hd:a.D=u.D):leT a=leT u:=by
 have d:=cL b;obtain⟨D,⟨a0,a1,a2,a3⟩⟩:=u;obtain⟨E,⟨b0,f,g,j⟩⟩:=a;unfold bS leT at*;dsimp only at*;subst hd;rcases d with rfl|rfl|rfl|rfl<;>simp at*<;>omega
section
variable {g:aa} (hG:VA.Good g)
include hG
theorem z4o:∀(k:Nat) (s x:Int),0<=s->s<g.ae.length->s<k->x∈anc g.ae s->∃pre,anc g.ae s=pre++anc g.ae x/\∀y∈pre,x<y
 |0,s,_,c,_,m,_=>by omega
 |k+1,s,x,c,j,m,l=>by
  have d:=hG.wp;have b:=q46 d c j;rw[b]at l;rcases Xw.1 l with rfl|a
  . exact⟨[],rfl,by simp⟩
  have hp:=d.2 s c j
  by_cases n:s=0
  . rw[hp.2.2 n,q6p]at a;cases a
  have hp0:=hp.2.1 (by omega);obtain⟨pre,o,p⟩:=z4o k _ x hp0 (by omega) (by omega) a;have e:x<s:=by
   have:=z9l d k _ (.inr ⟨hp0,by omega⟩) (by omega) x a;omega
  refine⟨s::pre,by rw[b,o];rfl,λy f=>?_⟩;rcases Xw.1 f with rfl|f
  . exact e
  exact p y f
theorem bF{s x:Int}(a:0<=s)(b:s<g.ae.length)(c:x∈anc g.ae s):0<=x/\x<=s:=z9l hG.wp (s.toNat+1) s (.inr ⟨a,b⟩) (by omega) x c
theorem z8t{s x y:Int}(a:0<=s)(b:s<g.ae.length)(c:x∈anc g.ae s)(d:y∈anc g.ae x):y∈anc g.ae s:=by
 obtain⟨pre,e,_⟩:=z4o hG (s.toNat+1) s x a b (by omega) c;rw[e];exact Ya _ d
theorem zr2{s x y:Int}(b:0<=s)(c:s<g.ae.length)(a:x∈anc g.ae s)(d:y∈anc g.ae s)(h:x<=y):x∈anc g.ae y:=by
 obtain⟨pre,e,hp⟩:=z4o hG (s.toNat+1) s y b c (by omega) d;rw[e]at a;rcases Xj.1 a with a|a
 . have:=hp x a;omega
 exact a
theorem cJ{s x:Int}(c:0<=s)(d:s<g.ae.length)(a:x∈anc g.ae s)(b:x≠s):s≠0/\x∈anc g.ae (g.ae.getD s.toNat 0):=by
 have e:=hG.wp;rw[q46 e c d]at a;rcases Xw.1 a with rfl|a
 . exact absurd rfl b
 refine⟨?_,a⟩;rintro rfl;rw[(e.2 0 c d).2.2 rfl,q6p]at a;cases a
theorem cS{s x:Int}(a:0<=s)(b:s<g.ae.length)(c:x∈anc g.ae s):dep g x<=dep g s:=by
 obtain⟨pre,e,_⟩:=z4o hG (s.toNat+1) s x a b (by omega) c;unfold dep;rw[e,Xc];omega
theorem j7d{s x:Int}(b:0<=s)(c:s<g.ae.length)(d:x∈anc g.ae s)(a:x≠s):dep g x<dep g s:=by
 obtain⟨e,hp⟩:=cJ hG b c d a;obtain⟨f,j,k,_⟩:=(bb hG b c).2.2 e;have:=cS hG f j hp;omega
theorem fit{k:Nat}(l:k<g.al.length)(s:0<k){c:Int}(h:c∈anc g.ae (nd g k).Scope)(m:c∉anc g.ae (nd g (k-1)).Scope):
 (nd g k).Scope=c/\g.ae.getD c.toNat 0∈anc g.ae (nd g (k-1)).Scope/\∀i<k,(nd g i).Scope≠c:=by
 have a:=(q7t (hG.no k l)).2.2.2.2.1;obtain⟨p,k1,_⟩:=aQ hG l;obtain⟨n,o,_⟩:=aQ hG (show k-1<g.al.length by omega);unfold fits at a;rw[if_neg (by omega)]at a;simp only[Yi,Xy,decide_eq_true_eq,Yk,Zm,beq_iff_eq]at a;rcases a with b|⟨b,q⟩
 . exact absurd (z8t hG n o b h) m
 have d:(nd g k).Scope=c:=Xd λf=>m (z8t hG n o b (cJ hG p k1 h (λe=>f e.symm)).2);refine⟨d,by rw[<-d];exact b,λi hi e=>?_⟩;have j:i<g.al.length:=by omega
 refine q (nd g i) ?_ (by rw[e,d]);rw[<-q7i j];exact List.mem_take_iff_getElem.2 ⟨i,by omega,rfl⟩
theorem first{k:Nat}(e:k<g.al.length)(a:0<k){c:Int}(h:c∈anc g.ae (nd g k).Scope)(f:c∉anc g.ae (nd g (k-1)).Scope):∀i<k,c∉anc g.ae (nd g i).Scope:=by
 obtain⟨_,_,b⟩:=fit hG e a h f;intro i
 induction i with
 |zero=>
  intro _ hi;have d:=(q7t (hG.no 0 (by omega))).2.2.2.2.1;unfold fits at d;rw[if_pos rfl,beq_iff_eq]at d;obtain⟨j,l,_⟩:=aQ hG (show 0<g.al.length by omega);have:=bF hG j l hi;exact b 0 a (by omega)
 |succ i m=>
  intro hi n;exact b (i+1) hi (fit hG (by omega) (by omega) n (m (by omega))).1
theorem eg{i j:Nat}(a:i<j){c:Int}(hi:c∈anc g.ae (nd g i).Scope)(b:c∉anc g.ae (nd g j).Scope):∀k,j<=k->k<g.al.length->c∉anc g.ae (nd g k).Scope:=by
 intro k m;obtain⟨d,rfl⟩:∃d,k=j+d:=⟨k-j,by omega⟩
 induction d with
 |zero=>intro _;exact b
 |succ d e=>
  intro f l;exact first hG f (by omega) l (e (by omega) (by omega)) i (by omega) hi
def At(g:aa)(a n:Nat)(sc:Int):Prop:=∀m,a<=m->m<n->∀x,x∈anc g.ae (nd g m).Scope->x∈anc g.ae (nd g n).Scope->x∈anc g.ae sc
structure Blk(g:aa)(a to:Nat)(sc:Int):Prop where
 lt:a<to
 le:to<=g.al.length
 s0:0<=sc
 s1:sc<g.ae.length
 hd:(nd g a).Scope=sc
 inn:∀m,a<=m->m<to->sc∈anc g.ae (nd g m).Scope
theorem child{a n to:Nat}{sc:Int}(c:Blk g a to sc)(f:a<=n)(w:n<to)(p:At g a n sc)(d:(nd g n).Scope≠sc):g.ae.getD (nd g n).Scope.toNat 0=sc/\(nd g n).Scope≠0/\dep g (nd g n).Scope=dep g sc+1:=by
 have j:n<g.al.length:=by have:=c.le;omega
 have y:a<n:=by
  rcases Nat.eq_or_lt_of_le f with rfl|h
  . exact absurd c.hd d
  exact h
 obtain⟨k,k1,_⟩:=aQ hG j;have l:=c.inn n f w;have B:=bF hG k k1 l;have b:(nd g n).Scope∈anc g.ae (nd g n).Scope:=bQ hG k k1;have m:(nd g n).Scope∉anc g.ae (nd g (n-1)).Scope:=λh=>by
  have:=bF hG c.s0 c.s1 (p (n-1) (by omega) (by omega) _ h b);exact d (by omega)
 obtain⟨_,hp,_⟩:=fit hG j (by omega) b m;obtain⟨q,z⟩:=cJ hG k k1 l (λe=>d e.symm);obtain⟨s,t,A,_⟩:=(bb hG k k1).2.2 q;have o:g.ae.getD (nd g n).Scope.toNat 0∈anc g.ae (nd g n).Scope:=by
  rw[q46 hG.wp k k1];exact Ye _ (bQ hG s t)
 have C:=bF hG c.s0 c.s1 (p (n-1) (by omega) (by omega) _ hp o);have D:=bF hG s t z;have u:g.ae.getD (nd g n).Scope.toNat 0=sc:=by omega
 exact⟨u,q,by rw[A,u]⟩
theorem at_one{a n to:Nat}{sc:Int}(e:Blk g a to sc)(f:a<=n)(l:n+1<to)(c:(nd g n).Scope=sc)(o:At g a n sc):At g a (n+1) sc:=by
 intro m p j x d b;rcases Yl m n with h|h
 . refine Xd λk=>?_;exact eg hG h d (by rw[c];exact k) (n+1) (by omega) (by have:=e.le;omega) b
 obtain rfl:m=n:=by omega
 rw[<-c];exact d
theorem j14{a n to:Nat}{sc:Int}(o:Blk g a to sc)(f:a<=n)(t:n<to)(j:(nd g n).Scope≠sc)(p:At g a n sc){E:Nat}(I:E<to)(u:n<E)
 (w:∀m,n<=m->m<E->(nd g n).Scope∈anc g.ae (nd g m).Scope)(y:(nd g n).Scope∉anc g.ae (nd g E).Scope):At g a E sc:=by
 have b:E<g.al.length:=by have:=o.le;omega
 obtain⟨hp,J,_⟩:=child hG o f t p j;obtain⟨z,A,_⟩:=aQ hG b;intro m B k x e c;rcases Yl m n with h|h
 . refine p m B h x e (Xd λC=>?_);exact eg hG h e C E (by omega) b c
 have d:=w m h k;obtain⟨q,s,_⟩:=aQ hG (show m<g.al.length by omega);obtain⟨D,k1,_⟩:=aQ hG (show n<g.al.length by omega);rcases (by omega:x<(nd g n).Scope\/(nd g n).Scope<=x)with G|l
 . have:=zr2 hG q s e d (by omega);have:=(cJ hG D k1 this (by omega)).2;rw[hp]at this;exact this
 have H:=zr2 hG q s d e l;exact absurd (z8t hG z A c H) y
theorem beyond{n to:Nat}(b:to<=g.al.length){c:Int}{E:Nat}(a:n<E)(d:c∈anc g.ae (nd g n).Scope)(e:E<to->c∉anc g.ae (nd g E).Scope){m:Nat}(f:E<=m)(j:m<to):c∉anc g.ae (nd g m).Scope:=
 eg hG a d (e (by omega)) m f (by omega)
end
end MN
end
section
open Go Go.RowKit TS VA BG
namespace MN
open Classical
noncomputable def q8n(f:af->List (Nat×af)):Nat->af->List (Nat×af)
 |0,_=>[]
 |k+1,u=>f u++q8n f k (q9q u)
noncomputable def q7g(g:aa)(self:Nat->Nat->Int->af->List (Nat×af))(to:Nat)(sc:Int)(t:af):Nat->Nat->List (Nat×af)
 |0,_=>[]
 |f+1,n=>
  if n<to then
   if (nd g n).Scope≠sc then q8n (self n (q9i g (nd g n).Scope to (to-n) n) (nd g n).Scope) (bnd g (nd g n).Scope).toNat (q5v t)++q7g g self to sc t f (q9i g (nd g n).Scope to (to-n) n)
   else (n,atA g n t)::q7g g self to sc t f (n+1)
  else []
noncomputable def sched(g:aa):Nat->Nat->Nat->Int->af->List (Nat×af)
 |0,_,_,_,_=>[]
 |d+1,a,b,sc,t=>q7g g (sched g d) b sc t (b-a) a
noncomputable def bZ(g:aa)(aC:Int)(L:List (Nat×af))(s:MS):MS:=L.foldl (λs p=>(bh g aC s p.1 p.2).2) s
theorem z4d(g:aa)(aC:Int)(A B:List (Nat×af))(s:MS):bZ g aC (A++B) s=bZ g aC B (bZ g aC A s):=Y3
theorem qy5(g:aa)(aC:Int)(p:Nat×af)(B:List (Nat×af))(s:MS):bZ g aC (p::B) s=bZ g aC B (bh g aC s p.1 p.2).2:=rfl
theorem j2x{g:aa}{aC:Int}{s:MS}{n:Nat}{t:af}(h:s.ins ⟨n,t⟩=no2\/s.e≠0):bh g aC s n t=(false,s):=by unfold bh;rw[if_pos h]
theorem z6t{g:aa}{aC:Int}:∀{L:List (Nat×af)} {s:MS},(s.e≠0\/∀p∈L,s.ins ⟨p.1,p.2⟩=no2)->bZ g aC L s=s
 |[],_,_=>rfl
 |p::L,s,h=>by
  have:bh g aC s p.1 p.2=(false,s):=j2x (h.elim .inr λh=> .inl (h p (by simp)));rw[qy5,this];exact z6t (h.elim .inl λh=> .inr λq a=>h q (by simp[a]))
theorem bV{g:aa}{aC:Int}{P:MS->Prop}:∀{L:List (Nat×af)} {s:MS},(∀p∈L,∀s,P s->P (bh g aC s p.1 p.2).2)->P s->P (bZ g aC L s)
 |[],_,_,h=>h
 |p::L,s,hp,h=>by
  rw[qy5];exact bV (λq a=>hp q (by simp[a])) (hp p (by simp) s h)
theorem j6b{t:af}(h:ok (q5v t)):ok t/\t.D≠4/\q5v t=enT t:=by
 unfold q5v at*
 split at h
 . rename_i c;exact⟨c.1,c.2,if_pos c⟩
 exact absurd h.1 (by decide)
theorem qf7{t:af}(h:ok (q3o t)):ok t/\t.D≠1/\q3o t=leT t:=by
 unfold q3o at*
 split at h
 . rename_i c;exact⟨c.1,c.2,if_pos c⟩
 exact absurd h.1 (by decide)
theorem z6l{t:af}(h:ok (q9q t)):ok t/\bj t≠q95 t/\q9q t=nxT t:=by
 unfold q9q at*
 split at h
 . rename_i c;exact⟨c.1,c.2,if_pos c⟩
 exact absurd h.1 (by decide)
theorem qa9{f:af->List (Nat×af)}{H:af->Prop}{Q:Nat×af->Prop}(a:∀u,H u->H (q9q u))(b:∀u,H u->∀p∈f u,Q p):∀(k:Nat) (u:af),H u->∀p∈q8n f k u,Q p
 |0,_,_,p,hp=>by cases hp
 |k+1,u,c,p,hp=>by
  unfold q8n at hp;rcases Xj.1 hp with h|h
  . exact b u c p h
  exact qa9 a b k _ (a u c) p h
theorem zm0{t:af}{u:af}(h:ok u->ok t/\under t u/\t.D<u.D):ok (q9q u)->ok t/\under t (q9q u)/\t.D<(q9q u).D:=λe=>by
 obtain⟨d,_,f⟩:=z6l e;obtain⟨a,b,c⟩:=h d;rw[f];exact⟨a,(qp1 a d b c).2,by rw[z6m d];exact c⟩
theorem zc4(t:af):ok (q5v t)->ok t/\under t (q5v t)/\t.D<(q5v t).D:=λa=>by
 obtain⟨b,_,c⟩:=j6b a;rw[c];exact⟨b,zv1 t⟩
theorem q6q{g:aa}:∀(d a b:Nat) (sc:Int) (t:af),∀p∈sched g d a b sc t,a<=p.1/\p.1<b/\(ok p.2->ok t/\(under t p.2\/((nd g p.1).Kind=10/\(nd g p.1).Scope=sc/\p.2=q3o t)))
 |0,_,_,_,_,p,hp=>by cases hp
 |d+1,a,b,sc,t,p,hp=>by
  unfold sched at hp;have key:∀(f n:Nat),∀p∈q7g g (sched g d) b sc t f n,n<=p.1/\p.1<b/\(ok p.2->ok t/\(under t p.2\/((nd g p.1).Kind=10/\(nd g p.1).Scope=sc/\p.2=q3o t))):=by
   intro f
   induction f with
   |zero=>intro n p hp;cases hp
   |succ f s=>
    intro n p hp;unfold q7g at hp
    split at hp
    .
     rename_i z
     split at hp
     .
      obtain⟨E,G,_⟩:=qc0 g (nd g n).Scope b (b-n) n (by omega);rcases Xj.1 hp with h|h
      .
       refine qa9 (H:=λu=>ok u->ok t/\under t u/\t.D<u.D) (Q:=λp=>n<=p.1/\p.1<b/\(ok p.2->ok t/\(under t p.2\/((nd g p.1).Kind=10/\(nd g p.1).Scope=sc/\p.2=q3o t)))) (λu l=>zm0 l) (λu l q A=>?_) _ _ (zc4 t) p h;obtain⟨m,k,j⟩:=q6q d _ _ _ u q A;refine⟨m,by omega,λe=>?_⟩;obtain⟨k1,k2⟩:=j e;obtain⟨w,y,B⟩:=l k1;refine⟨w,.inl ?_⟩;rcases k2 with k2|⟨_,_,k2⟩
       . exact z0v y k2
       rw[k2]at e⊢;obtain⟨_,_,C⟩:=qf7 e;rw[C];exact (qp1 w k1 y B).1
      obtain⟨m,k,j⟩:=s _ p h;exact⟨by omega,k,j⟩
     rename_i o
     have o:(nd g n).Scope=sc:=by simpa using o
     rcases Xw.1 hp with rfl|h
     .
      refine⟨Xi _,z,λe=>?_⟩;dsimp only at e⊢;unfold atA at e⊢
      split at e
      .
       rename_i c
       rw[if_pos c];exact⟨(qf7 e).1,.inr ⟨c,o,rfl⟩⟩
      rename_i c
      rw[if_neg c];exact⟨e,.inl (q8r t)⟩
     obtain⟨m,k,j⟩:=s _ p h;exact⟨by omega,k,j⟩
    cases hp
  exact key _ _ p hp
theorem ze8{n:Nat}{u:af}{out:List a7}:∀(a:List aU) (s:MS) (p:ah),(q3b n u out a s).ins p≠no2->s.ins p≠no2\/∃e∈a,e.aO=n/\p=⟨e.To,u⟩
 |[],_,_,h=> .inl h
 |e::a,s,p,h=>by
  rcases ze8 a (ba n u out s e) p h with h|⟨x,b,c,d⟩
  .
   unfold ba at h
   split at h
   .
    rename_i f
    dsimp only at h;rw[bH]at h
    split at h
    . rename_i g;exact .inr ⟨e,by simp,f,g.2⟩
    exact .inl h
   exact .inl h
  exact .inr ⟨x,by simp[b],c,d⟩
theorem cM(g:aa)(n:Nat)(t:af)(s:MS)(p:ah):(aX g n t s).ins p=if p=⟨n,t⟩then no2 else s.ins p:=by
 unfold aX;split<;>rfl
theorem zi3{g:aa}{aC:Int}{s:MS}{n:Nat}{t:af}(a:(bh g aC s n t).2.e=0){p:ah}(hp:(bh g aC s n t).2.ins p≠no2):
 (s.ins p≠no2/\p≠⟨n,t⟩)\/(s.ins ⟨n,t⟩≠no2/\(bh g aC s n t).1=true/\(q05 g n t).2=true/\∃e∈g.aw,e.aO=n/\p=⟨e.To,(q05 g n t).1⟩):=by
 by_cases h:s.ins ⟨n,t⟩=no2\/s.e≠0
 .
  rw[j2x h]at a hp;rcases h with h|h
  . exact .inl ⟨hp,λe=>hp (by rw[e];exact h)⟩
  exact absurd a h
 have j:s.ins ⟨n,t⟩≠no2:=λe=>h (.inl e);have f:(aX g n t s).ins p≠no2->s.ins p≠no2/\p≠⟨n,t⟩:=λc=>by
  rw[cM]at c
  split at c
  . exact absurd rfl c
  rename_i o;exact⟨c,o⟩
 unfold bh at a hp⊢;rw[if_neg h]at a hp⊢
 generalize aX g n t s=l at*
 generalize (if (nd g n).Kind=14 then dW l n t else (s.ins ⟨n,t⟩).a1)=b at*
 unfold cm at a hp⊢
 cases m:bM (nd g n) (s.ins ⟨n,t⟩).a0 b with
 |none=>rw[m]at hp;exact .inl (f hp)
 |some out=>
  rw[m]at a hp;dsimp only at a hp⊢
  by_cases d:(nd g n).Kind=15
  . rw[if_pos d]at hp;exact .inl (f hp)
  rw[if_neg d]at a hp⊢
  by_cases c:(q05 g n t).2=false\/out=[]
  . rw[if_pos c]at hp;exact .inl (f hp)
  rw[if_neg c]at a hp⊢;have q:(q05 g n t).2=true:=by simpa using λe=>c (.inl e)
  have hp':(q3b n (q05 g n t).1 out g.aw l).ins p≠no2:=by
   dsimp only at hp
   split at hp<;>exact hp
  rcases ze8 _ _ _ hp' with k|k
  . exact .inl (f k)
  exact .inr ⟨j,rfl,q,k⟩
end MN
end
section
open Go Go.RowKit TS VA BG
namespace MN
open Classical
structure J(g:aa)(a to:Nat)(sc:Int)(t:af)(n:Nat)(ar:Bool)(s:MS):Prop where
 j1:∀m,n<=m->m<to->∀v,under t v->t.D<v.D->s.ins ⟨(m:Nat),v⟩=no2
 j2:2<=t.D->∀m,a<=m->m<to->∀v,bS t v->s.ins ⟨(m:Nat),v⟩≠no2->ar=true/\v=nxT t
 j3:2<=t.D->∀m,a<=m->m<to->(nd g m).Kind=10->(nd g m).Scope=sc->(m<n\/bj t≠0)->s.ins ⟨(m:Nat),leT t⟩=no2
theorem bm{g:aa}{m:Nat}{v:af}(h:PtM g ⟨m,v⟩):m<g.al.length/\ok v/\v.D=(lev g m:Int):=by
 obtain⟨k,a,b,c,d⟩:=h;obtain rfl:m=k:=by have:(m:Int)=k:=b;omega
 exact⟨a,c,d⟩
section
variable {g:aa} (hG:VA.Good g) {aC:Int}
include hG
theorem za1{n:Nat}(l:n<g.al.length){v:af}(j:ok v)(a:(q05 g n v).2=true){t:af}(k:ok t)(b:under t v)(h:t.D<v.D\/(nd g n).Kind=10):under t (q05 g n v).1:=by
 by_cases d:(nd g n).Kind=10
 .
  rw[bY d]at a⊢
  split
  . exact z0v b (zv1 v).1
  rename_i c;rw[if_neg c]at a;cases a
 have h:=h.resolve_right d
 by_cases e:(nd g n).Kind=11
 .
  rw[bN e]at a⊢
  split
  . exact (qp1 k j b h).1
  rename_i c;rw[if_neg c]at a;cases a
 by_cases f:(nd g n).Kind=12
 .
  rw[bz f]at a⊢
  split
  . exact (qp1 k j b h).2
  rename_i c;rw[if_neg c]at a;cases a
 rw[cg d e f];exact b
theorem jb2{a to n E:Nat}{sc:Int}{t:af}{T:Bool}(K:Blk g a to sc)(L:ok t)(hD:t.D=(dep g sc:Int))(hp:g.ae.getD (nd g n).Scope.toNat 0=sc)(hd:dep g (nd g n).Scope=dep g sc+1)(M:n<E)(hE:E<=to)
 (h1:∀m,n<=m->m<E->(nd g n).Scope∈anc g.ae (nd g m).Scope)(h2:E<to->(nd g n).Scope∉anc g.ae (nd g E).Scope){b:Nat}{v0:af}(hm:n<=b)(N:b<E)(hv:ok v0->under t v0){s:MS}(U:W g s)(q:s.e=0->J g a to sc t E T s):
 W g (bh g aC s b v0).2/\((bh g aC s b v0).2.e=0->J g a to sc t E T (bh g aC s b v0).2):=by
 have j:b<g.al.length:=by have:=K.le;omega
 obtain⟨O,hK⟩:=z4k hG aC j (t:=v0) (e:=v0.C.a0) (λ_=>rfl) U;refine⟨O,λV=>?_⟩;have q:=q (Xd λk=>hK.dead k V);have P:n<g.al.length:=by omega
 obtain⟨n0,n1,_⟩:=aQ hG P;obtain⟨X,Y,_⟩:=aQ hG j;have Q:=h1 b hm N
 have new:∀p,(bh g aC s b v0).2.ins p≠no2->s.ins p≠no2\/(under t p.time/\∃e∈g.aw,e.aO=b/\p.node=e.To/\p.time.D=(lev g e.To.toNat:Int)):=λp k=>by
  rcases zi3 V k with h|⟨k1,_,H,e,Z,k5,rfl⟩
  . exact .inl h.1
  have u:=U _ k1;obtain⟨_,y,a6⟩:=bm u;refine .inr ⟨za1 hG j y H L (hv y) ?_,e,Z,k5,rfl,?_⟩
  .
   by_cases z:(nd g b).Kind=10
   . exact .inr z
   have:lev g b=dep g (nd g b).Scope:=by unfold lev q0s;rw[if_neg z]
   have:=cS hG X Y Q;exact .inl (by omega)
  obtain⟨w,_,w1,w2,w3⟩:=(dq hG j u H Z k5).1;dsimp only at w1 w3⊢;rw[w1,Xf];exact w3
 refine⟨λm c d v hu I=>Xd λk=>?_,λl m c d v I k=>?_,λl m c d k1 k2 H=>Xd λk=>?_⟩
 .
  rcases new _ k with h|⟨_,e,he,hf,o,A⟩
  . exact h (q.j1 m c d v hu I)
  dsimp only at o A;obtain⟨_,_,_,_,R,_⟩:=hG.ed.at he;have ef:ndI g e.aO=nd g b:=by rw[hf];unfold ndI;rw[Xf]
  have et:ndI g e.To=nd g m:=by rw[<-o];unfold ndI;rw[Xf]
  rw[ef,et]at R;rw[<-o,Xf]at A;have B:m<g.al.length:=by have:=K.le;omega
  obtain⟨r0,r1,r2⟩:=aQ hG B;have f:(nd g n).Scope∈anc g.ae (q3n g (nd g b)):=by
   unfold q3n
   split
   .
    rename_i S
    by_cases G:(nd g b).Scope=(nd g n).Scope
    .
     exfalso
     have:lev g m=dep g sc:=by
      unfold lev;rw[<-R];unfold q3n;rw[if_pos S,G,hp]
     omega
    exact (cJ hG X Y Q (λe=>G e.symm)).2
   exact Q
  rw[R]at f;have:(nd g n).Scope∈anc g.ae (nd g m).Scope:=by
   unfold q0s at f
   split at f
   . rw[q46 hG.wp r0 r1];exact Ye _ f
   exact f
  exact beyond hG K.le M (bQ hG n0 n1) h2 c d this
 .
  rcases new _ k with h|⟨h,_⟩
  . exact q.j2 l m c d v I h
  exact absurd I (qw7 L h)
 rcases new _ k with h|⟨h,_⟩
 . exact h (q.j3 l m c d k1 k2 H)
 have h3:=z9b L (by omega);have:=h.1;dsimp only at this;omega
theorem j97{a to n:Nat}{sc:Int}{t:af}{U:Bool}(V:Blk g a to sc)(y:ok t)(I:a<=n)(hn:n<to)(X:(nd g n).Scope=sc){s:MS}(Y:W g s)(z:s.e=0->J g a to sc t n U s):
 W g (bh g aC s n (atA g n t)).2/\((bh g aC s n (atA g n t)).2.e=0->J g a to sc t (n+1) (U||((bh g aC s n (atA g n t)).1&&(nd g n).Kind==12)) (bh g aC s n (atA g n t)).2):=by
 have B:n<g.al.length:=by have:=V.le;omega
 obtain⟨K,hK⟩:=z4k hG aC B (t:=atA g n t) (e:=(atA g n t).C.a0) (λ_=>rfl) Y;refine⟨K,λZ=>?_⟩;have z:=z (Xd λo=>hK.dead o Z);have hle:t.D≠1->(leT t).D=t.D-1:=z9b y;have L:(nxT t).D=t.D:=z6m y
 have new:∀p,(bh g aC s n (atA g n t)).2.ins p≠no2->(s.ins p≠no2/\p≠⟨(n:Nat),atA g n t⟩)\/(p.time=t\/(t.D≠1/\p.time=leT t/\(nd g n).Kind=11/\∃e∈g.aw,e.aO=n/\p.node=e.To)\/(2<=t.D/\p.time=nxT t/\(bh g aC s n (atA g n t)).1=true/\(nd g n).Kind=12)):=λp o=>by
  rcases zi3 Z o with h|⟨k1,k2,d,e,k4,k5,rfl⟩
  . exact .inl h
  obtain⟨_,E,M⟩:=bm (Y _ k1);refine .inr ?_;dsimp only
  by_cases f:(nd g n).Kind=10
  .
   have q:atA g n t=q3o t:=by unfold atA;rw[if_pos f]
   rw[q]at k1 d E⊢;obtain⟨_,h1,N⟩:=qf7 E;rw[N]at k1 d⊢;have j:2<=t.D:=by have:=y.1;omega
   have O:bj t=0:=Xd λO=>k1 (z.j3 j n I hn f X (.inr O));rw[bY f]at d⊢
   split
   . exact .inl (jy4 y j O)
   rename_i c;rw[if_neg c]at d;cases d
  have q:atA g n t=t:=by unfold atA;rw[if_neg f]
  rw[q]at k1 k2 d⊢
  by_cases k:(nd g n).Kind=11
  .
   rw[bN k]at d⊢
   split
   . rename_i c;exact .inr (.inl ⟨c.2,rfl,k,e,k4,k5,rfl⟩)
   rename_i c;rw[if_neg c]at d;cases d
  by_cases w:(nd g n).Kind=12
  .
   rw[bz w]at d⊢
   split
   .
    obtain⟨r0,P,Q⟩:=aQ hG B;have A:lev g n=dep g (nd g n).Scope:=by unfold lev q0s;rw[if_neg f]
    have h3:=((bb hG r0 P).2.2 (Q (by omega))).2.2.2;rw[q]at M;exact .inr (.inr ⟨by omega,rfl,k2,w⟩)
   rename_i c;rw[if_neg c]at d;cases d
  rw[cg f k w];exact .inl rfl
 refine⟨λm u l v hu A=>Xd λo=>?_,λj m u l v A o=>?_,λj m u l k1 k2 d=>Xd λo=>?_⟩
 .
  rcases new _ o with h|h|⟨h,b,_⟩|⟨h,b,_⟩
  . exact h.1 (z.j1 m (by omega) l v hu A)
  . dsimp only at h;subst h;omega
  . dsimp only at b;subst b;have:=hle h;omega
  dsimp only at b;subst b;omega
 .
  rcases new _ o with h|h|⟨h,b,_⟩|⟨h,b,h1,N⟩
  . obtain⟨P,Q⟩:=z.j2 j m u l v A h.1;exact⟨by rw[P];rfl,Q⟩
  . dsimp only at h;subst h;exact absurd A (qw7 y (q8r _))
  . dsimp only at b;subst b;have:=hle h;have:=A.1;omega
  dsimp only at b;exact⟨by rw[h1,N];simp,b⟩
 have G:=hle (by omega);rcases new _ o with h|h|⟨h,b,k,e,he,hf,H⟩|⟨h,b,_⟩
 .
  by_cases R:m=n
  .
   subst R;refine h.2 ?_;have:atA g m t=leT t:=by
    unfold atA q3o;rw[if_pos k1,if_pos ⟨y,by omega⟩]
   rw[this]
  exact h.1 (z.j3 j m u l k1 k2 (by omega))
 . dsimp only at h;rw[h]at G;omega
 .
  dsimp only at H;have S:m<g.al.length:=by have:=V.le;omega
  refine hG.ag m S ⟨k1,?_⟩;have T:leaves g (nd g m).Scope e.aO=true:=by
   unfold leaves;rw[hf];unfold ndI;rw[Xf,k,X,k2];simp
  rw[H];exact .fS e he T
 dsimp only at b;rw[b,L]at G;omega
end
end MN
end
section
open Go Go.RowKit TS VA BG
namespace MN
open Classical
section
variable {g:aa} (hG:VA.Good g) {aC:Int}
include hG
theorem jt0{L:List (Nat×af)}(a:∀p∈L,p.1<g.al.length){s:MS}(b:W g s):W g (bZ g aC L s):=
 bV (P:=λs=>W g s) (λp hp s c=>(z4k hG aC (a p hp) (t:=p.2) (e:=p.2.C.a0) (λ_=>rfl) c).1) b
def z8y(g:aa)(aC:Int)(d:Nat):Prop:=∀{a to:Nat} {sc:Int} {t:af} {s:MS},Blk g a to sc->g.ae.length-sc.toNat<=d->ok t->t.D=(dep g sc:Int)->W g s->(s.e=0->J g a to sc t a false s)->
 (q4q g aC d a to sc t s).2=bZ g aC (sched g d a to sc t) s/\((q4q g aC d a to sc t s).2.e=0->J g a to sc t to (q4q g aC d a to sc t s).1 (q4q g aC d a to sc t s).2)
theorem zq1{d:Nat}(U:z8y g aC d){a to:Nat}{sc:Int}(O:Blk g a to sc)(hd:g.ae.length-sc.toNat<=d):
 ∀(k:Nat) (u:af) (s:MS),ok u->u.D=(dep g sc:Int)->2<=u.D->bj u+k<=64->W g s->(s.e=0->J g a to sc u a false s)->z4a (q4q g aC d a to sc) k u s=bZ g aC (q8n (sched g d a to sc) k u) s
 |0,_,_,_,_,_,_,_,_=>rfl
 |k+1,u,s,f,V,j,X,Y,hJ=>by
  obtain⟨Z,I⟩:=U O hd f V Y hJ;have a6:=O.le;have hL:∀(v:af),∀p∈sched g d a to sc v,a<=p.1/\p.1<to:=λv p hp=>by
   obtain⟨K,y,_⟩:=q6q d a to sc v p hp;exact⟨K,y⟩
  unfold z4a q8n;rw[z4d,<-Z];have z:W g (q4q g aC d a to sc u s).2:=by rw[Z];exact jt0 hG (λp hp=>by have:=hL u p hp;omega) Y
  have h0:=last_pos f;have A:q95 u=64:=by unfold q95;rw[if_neg (by omega)]
  have B:=z5m f (by rw[A];omega);have C:=z6m f;obtain⟨P,ao⟩:=eV f j
  generalize (q4q g aC d a to sc u s).2=s' at*
  by_cases hb:(q4q g aC d a to sc u s).1=true
  .
   rw[if_pos hb];rw[hb]at I
   cases k with
   |zero=>rfl
   |succ k=>
    have R:q9q u=nxT u:=by unfold q9q;rw[if_pos ⟨f,by rw[A];omega⟩]
    rw[R];refine zq1 U O hd (k+1) (nxT u) s' B (by rw[C];exact V) (by omega) (by omega) z λL=>?_;have b:=I L;refine⟨λm l c v E X=>Xd λn=>?_,λ_ m l c v E n=>?_,λ_ m l c k1 k2 _=>?_⟩
    . have:=(b.j2 j m l c v (z2q f j E) n).2;rw[this]at X;omega
    . have:=(b.j2 j m l c v (j9k f j E) n).2;rw[this]at E;exact absurd E (qw7 B (q8r _))
    rw[P];exact b.j3 j m l c k1 k2 (.inl c)
  rw[if_neg hb];have hb:(q4q g aC d a to sc u s).1=false:=by simpa using hb
  rw[hb]at I
  symm
  refine z6t ?_
  by_cases L:s'.e=0
  .
   have b:=I L;refine .inr λp hp=>Xd λn=>?_;refine qa9 (H:=λw=>ok w->bS u w/\w.D=u.D) (Q:=λp=>s'.ins ⟨(p.1:Nat),p.2⟩=no2) (λw o S=>?_) (λw o q hq=>?_) k (q9q u) (λS=>?_) p hp |> n
   . obtain⟨k1,k2,G⟩:=z6l S;obtain⟨M,N⟩:=o k1;rw[G];exact z8e f j M N
   .
    refine Xd λn=>?_;obtain⟨K,y,m3⟩:=q6q d a to sc w q hq;have T:=z _ n;have t:=(bm T).2.1;obtain⟨k1,k2⟩:=m3 t;obtain⟨M,N⟩:=o k1;rcases k2 with k2|⟨k2,G,k4⟩
    .
     have:=(b.j2 j q.1 K y q.2 (z4y f M N k2) n).1
     cases this
    rw[k4]at t n;obtain⟨_,_,k5⟩:=qf7 t;rw[k5,zz9 f k1 j M N]at n;exact n (b.j3 j q.1 K y k2 G (.inl y))
   obtain⟨k1,k2,G⟩:=z6l S;rw[G];exact⟨z2q f j (q8r _),C⟩
  exact .inl L
theorem z6n{d:Nat}(V:z8y g aC d){a to:Nat}{sc:Int}(o:Blk g a to sc)(hd:g.ae.length-sc.toNat<=d+1){t:af}(z:ok t)(X:t.D=(dep g sc:Int)):
 ∀(f n:Nat) (y:Bool) (s:MS),to-n<=f->a<=n->n<=to->(n<to->At g a n sc)->W g s->(s.e=0->J g a to sc t n y s)->
  (qe7 g aC (q4q g aC d) to sc t f y n s).2=bZ g aC (q7g g (sched g d) to sc t f n) s/\((qe7 g aC (q4q g aC d) to sc t f y n s).2.e=0->J g a to sc t to (qe7 g aC (q4q g aC d) to sc t f y n s).1 (qe7 g aC (q4q g aC d) to sc t f y n s).2)
 |0,n,y,s,hf,k,O,_,_,j=>by
  obtain rfl:n=to:=by omega
  exact⟨rfl,j⟩
 |f+1,n,y,s,hf,k,O,Y,Z,j=>by
  have bi:=o.le;unfold qe7 q7g
  by_cases l:n<to
  .
   rw[if_pos l,if_pos l];have a6:n<g.al.length:=by omega
   obtain⟨Q,k1,_⟩:=aQ hG a6
   by_cases w:(nd g n).Scope≠sc
   .
    rw[if_pos w,if_pos w,z4d];obtain⟨hp,U,ao⟩:=child hG o k l (Y l) w;have I:=bQ hG Q k1;have K:=z9h (g:=g) l I;obtain⟨_,R,A,B⟩:=qc0 g (nd g n).Scope to (to-n) n O;have B:=B (Xi _);obtain⟨b1,b2⟩:=dR hG Q k1
    generalize q9i g (nd g n).Scope to (to-n) n=E at*
    have b0:Blk g n E (nd g n).Scope:=⟨K,by omega,Q,k1,rfl,A⟩;have bc:=bF hG Q k1 (o.inn n k l);have b3:g.ae.length-(nd g n).Scope.toNat<=d:=by omega
    have h4:=(bb hG Q k1).2.1;have C:t.D≠4:=by omega
    have b4:q5v t=enT t:=by unfold q5v;rw[if_pos ⟨z,C⟩]
    obtain⟨l1,l2⟩:=zt6 z C;have hl:z4a (q4q g aC d n E (nd g n).Scope) (bnd g (nd g n).Scope).toNat (q5v t) s=bZ g aC (q8n (sched g d n E (nd g n).Scope) (bnd g (nd g n).Scope).toNat (q5v t)) s:=by
     rw[b4];refine zq1 hG V b0 b3 _ _ _ (z3a z C) (by show t.D+1=_;omega) (by show 2<=t.D+1;have:=z.1;omega) (by omega) Z λU=>?_;have j:=j U;refine⟨λm b c v hv hl=>?_,λ_ m b c v hv G=>?_,λ_ m b c _ _ G=>?_⟩
     . obtain⟨q1,q2⟩:=j5j hv;exact j.j1 m b (by omega) v q1 q2
     . obtain⟨q1,q2⟩:=j9l z C hv;exact absurd (j.j1 m b (by omega) v q1 q2) G
     rcases G with G|G
     . omega
     exact absurd l2 G
    rw[hl];have S:∀p∈q8n (sched g d n E (nd g n).Scope) (bnd g (nd g n).Scope).toNat (q5v t),n<=p.1/\p.1<E/\(ok p.2->under t p.2):=by
     refine qa9 (H:=λu=>ok u->ok t/\under t u/\t.D<u.D) (λu hu=>zm0 hu) (λu hu q hq=>?_) _ _ (zc4 t);obtain⟨m1,m2,m3⟩:=q6q d _ _ _ u q hq;refine⟨m1,m2,λhk=>?_⟩;obtain⟨k1,k2⟩:=m3 hk;obtain⟨u1,u2,u3⟩:=hu k1;rcases k2 with k2|⟨_,_,k2⟩
     . exact z0v u2 k2
     rw[k2]at hk⊢;obtain⟨_,_,k3⟩:=qf7 hk;rw[k3];exact (qp1 u1 k1 u2 u3).1
    have b5:s.e=0->J g a to sc t E y s:=λU=>by
     have j:=j U;refine⟨λm b c=>j.j1 m (by omega) c,j.j2,λh2 m b c k1 k2 k3=>?_⟩
     by_cases b6:m<n
     . exact j.j3 h2 m b c k1 k2 (.inl b6)
     by_cases T:m<E
     . have h5:=A m (by omega) T;rw[k2]at h5;have:=bF hG o.s0 o.s1 h5;exact absurd (by omega) w
     exact j.j3 h2 m b c k1 k2 (.inr (k3.resolve_left T))
    obtain⟨M,N⟩:=bV (g:=g) (aC:=aC) (P:=λs=>W g s/\(s.e=0->J g a to sc t E y s)) (L:=q8n (sched g d n E (nd g n).Scope) (bnd g (nd g n).Scope).toNat (q5v t)) (λp hp' x G=>by
     obtain⟨m1,m2,m3⟩:=S p hp';exact jb2 hG o z X hp ao K R A B m1 m2 m3 G.1 G.2) ⟨Z,b5⟩
    exact z6n V o hd z X f E y _ (by omega) (by omega) R (λh=>j14 hG o k l w (Y l) h K A (B h)) M N
   rw[if_neg w,if_neg w,qy5];have w:(nd g n).Scope=sc:=by simpa using w
   obtain⟨M,N⟩:=j97 hG (aC:=aC) o z k l w Z j;exact z6n V o hd z X f (n+1) _ _ (by omega) (by omega) l (λh=>at_one hG o k h w (Y l)) M N
  rw[if_neg l,if_neg l];obtain rfl:n=to:=by omega
  exact⟨rfl,j⟩
theorem zf2:∀d:Nat,z8y g aC d
 |0,a,to,sc,t,s,b,hd,_,_,_,_=>by have:=b.s0;have:=b.s1;omega
 |d+1,a,to,sc,t,s,b,hd,c,e,f,j=>by
  unfold q4q sched;exact z6n hG (zf2 d) b hd c e (to-a) a false s (Xi _) (Xi _) (Nat.le_of_lt b.lt) (λ_ m k l=>by omega) f j
end
end MN
end
section
open Go Go.RowKit TS VA BG
namespace MN
open Classical
theorem ff{a:List a7}(h:Fn a)(b:tot a<=50000000):aS [] a=a:=by
 obtain⟨_,c,_,d⟩:=aY Fn.nil h (by simp[tot]at b⊢;omega);exact Rt.unique c.rt h.rt λx=>by rw[d];simp[cnt]
noncomputable def qm3(g:aa)(e:Int):List (Nat×af):=sched g 8 0 g.al.length 0 (ep e)
noncomputable def z2d(g:aa)(aC:Int)(a:List Int)(s:MS):MS:=bZ g aC (a.flatMap (qm3 g)) s
theorem z2c(g:aa)(aC:Int)(e:Int)(a:List Int)(s:MS):z2d g aC (e::a) s=z2d g aC a (bZ g aC (qm3 g e) s):=by
 unfold z2d;rw[List.flatMap_cons,z4d]
theorem j5x{g:aa}{e:Int}:∀p∈qm3 g e,p.1<g.al.length:=λp hp=>(q6q 8 0 _ 0 (ep e) p hp).2.1
theorem z19{g:aa}{e:Int}:∀p∈qm3 g e,ok p.2->p.2.C.a0=e:=λp hp a=>by
 obtain⟨_,h|⟨_,_,h⟩⟩:=(q6q 8 0 _ 0 (ep e) p hp).2.2 a
 . exact h.2.1.symm
 rw[h]at a;exact absurd rfl (qf7 a).2.1
section
variable {g:aa} (hG:VA.Good g) {aC:Int}
include hG
theorem zk1:Blk g 0 g.al.length 0:=by
 have d:=hG.nl;have e:=hG.pl;have a:=(q7t (hG.no 0 (by omega))).2.2.2.2.1;unfold fits at a;rw[if_pos rfl,beq_iff_eq]at a;refine⟨by omega,Xi _,by omega,by omega,a,λm _ b=>?_⟩;obtain⟨c,k1,_⟩:=aQ hG b;exact zk5 hG ((nd g m).Scope.toNat+1) _ c k1 (by omega)
theorem j4t{e:Int}(b:0<=e/\e<=1048576){s:MS}(c:W g s)(hp:∀p,s.ins p≠no2->p.time.C.a0=e->p.time.D=1):zi5 g aC s e=bZ g aC (qm3 g e) s:=by
 have k:=hG.pl;refine (zf2 hG (aC:=aC) 8 (zk1 hG) (by omega) (zg2 b) (by rw[fT hG];rfl) c λ_=>⟨λm _ _ v d a=>Xd λf=>?_,λh=>absurd h (by show ¬(2:Int)<=1;decide),λh=>absurd h (by show ¬(2:Int)<=1;decide)⟩).1;have j:v.D=1:=hp ⟨(m:Int),v⟩ f d.2.1.symm;rw[j]at a;exact absurd a (by show ¬(1:Int)<1;decide)
theorem z9w{e:Int}{s:MS}(b:W g s):W g (bZ g aC (qm3 g e) s)/\br g e s (bZ g aC (qm3 g e) s):=
 bV (P:=λx=>W g x/\br g e s x) (λp hp x a=>by
  obtain⟨k1,k2⟩:=z4k hG aC (j5x p hp) (z19 p hp) a.1;exact⟨k1,a.2.trans k2⟩) ⟨b,br.refl _ _ _⟩
theorem zq8:∀(a:List Int) (s:MS),a.Pairwise (· <·)->(∀e∈a,0<=e/\e<=1048576)->W g s->(∀p,s.ins p≠no2->p.time.C.a0∈a->p.time.D=1)->a.foldl (zi5 g aC) s=z2d g aC a s
 |[],_,_,_,_,_=>rfl
 |e::a,s,k,f,j,hp=>by
  obtain⟨l,m⟩:=Y0.1 k;rw[Yx,z2c,j4t hG (f e (by simp)) j λp b c=>hp p b (by rw[c];simp)];obtain⟨k1,k2⟩:=z9w hG (aC:=aC) (e:=e) j;refine zq8 a _ m (λx b=>f x (by simp[b])) k1 λp b c=>?_;have d:p.time.C.a0≠e:=λh=>by have:=l _ c;omega
  rw[k2.ins p d]at b;exact hp p b (by simp[c])
theorem z8j(q:Int->Bool):∀(a:List Int) (s:MS),a.Pairwise (· <·)->W g s->(∀p,s.ins p≠no2->p.time.C.a0∈a->q p.time.C.a0=true)->z2d g aC (a.filter q) s=z2d g aC a s
 |[],_,_,_,_=>rfl
 |e::a,s,t,d,hp=>by
  obtain⟨u,n⟩:=Y0.1 t;rw[z2c]
  by_cases f:q e=true
  .
   rw[Yt f,z2c];obtain⟨k1,k2⟩:=z9w hG (aC:=aC) (e:=e) d;refine z8j q a _ n k1 λp b c=>?_;have j:p.time.C.a0≠e:=λh=>by have:=u _ c;omega
   rw[k2.ins p j]at b;exact hp p b (by simp[c])
  rw[Yg f];have hid:bZ g aC (qm3 g e) s=s:=z6t (.inr λp k=>Xd λb=>by
   have l:=(bm (d _ b)).2.1;have o:=z19 p k l;have m:=hp _ b (by dsimp only;rw[o];simp);dsimp only at m;rw[o]at m;exact f m)
  rw[hid];exact z8j q a s n d λp b c=>hp p b (by simp[c])
end
theorem e9{aA:List aT}(b:aA.length<=1000){p:ah}(h:(bK aA).ins p≠no2):p.time.D=1/\p.time.C.a0∈aA.map (·.aJ):=by
 obtain⟨c,d,e⟩:=(dj aA b).1 p;refine Xd λg=>h (jb6 (Rt.unique c.rt Rt.nil λx=>?_) d);rw[e]
 show fm aA p x=0
 unfold fm;rw[List.filter_eq_nil_iff.2]
 . rfl
 intro f j a;simp only[decide_eq_true_eq]at a;refine g ?_;rw[<-a.1];exact⟨rfl,Ym.2 ⟨f,j,rfl⟩⟩
theorem en{g:aa}(k:VA.Good g){aC:Int}{F:List aT}(l:∀f∈F,cB g f){X:List aT}(m:X.length<=1000)(n:∀f∈X,f∈F):dV g aC X=z2d g aC (dx F) (bK X):=by
 have j:=cw F;have o:∀e∈dx F,0<=e/\e<=1048576:=λe h=>by
  obtain⟨f,b,rfl⟩:=Ym.1 ((j.mem e).1 h);exact (l f b).2.2.2
 have c:=fj k X λf b=>l f (n f b);have d:=cw X;have a:dx X=(dx F).filter λe=>decide (e∈X.map (·.aJ)):=fI.unique d ⟨j.inc.sublist List.filter_sublist,λx=>by
  rw[Xt,j.mem,decide_eq_true_eq];refine⟨λh=>h.2,λh=>⟨?_,h⟩⟩;obtain⟨f,b,rfl⟩:=Ym.1 h;exact Ym.2 ⟨f,n f b,rfl⟩⟩
 have q:dV g aC X=z2d g aC (dx X) (bK X):=zq8 k (dx X) (bK X) d.inc (λe h=>o e (by rw[a]at h;exact (Xt.1 h).1)) c λp hp _=>(e9 m hp).1;rw[q,a];exact z8j k (λe=>decide (e∈X.map (·.aJ))) _ _ j.inc c λp hp _=>decide_eq_true (e9 m hp).2
end MN
end
section
open Go Go.RowKit TS VA BG
namespace MN
open Classical
def aA(a:List aU)(n q b:Int):Prop:=∃e∈a,e.aO=n/\e.To=q/\e.Port=b
noncomputable def deg(a:List aU)(n:Int):Int:=((a.filter λe=>decide (e.aO=n)).length:Int)
noncomputable def dX(x:aP (List a7))(P Q:Prop)(b:List a7):aP (List a7):=⟨if P then aS x.a0 b else x.a0,if Q then aS x.a1 b else x.a1⟩
def eO(c:List aU):Prop:=c.Pairwise (λa b=>¬(a.To=b.To/\a.Port=b.Port))/\∀e∈c,e.Port=0\/e.Port=1
theorem j2i(x:aP (List a7)){P Q:Prop}(a:¬P)(c:¬Q)(b:List a7):dX x P Q b=x:=by unfold dX;rw[if_neg a,if_neg c]
theorem zb1{n:Nat}{u:af}{out:List a7}(z:out≠[]):∀(c:List aU) (s:MS),eO c->∀(q:Int) (t:af),
 (q3b n u out c s).ins ⟨q,t⟩=if t=u then dX (s.ins ⟨q,t⟩) (aA c n q 0) (aA c n q 1) out else s.ins ⟨q,t⟩
 |[],s,_,q,t=>by
  have h:∀k,¬aA [] n q k:=λk ⟨e,A,_⟩=>by cases A
  show s.ins _=_
  rw[j2i _ (h 0) (h 1)];split<;>rfl
 |e::c,s,B,q,t=>by
  obtain⟨hp1,hp2⟩:=B;obtain⟨C,D⟩:=Y0.1 hp1;have E:=zb1 z (n:=n) (u:=u) c (ba n u out s e) ⟨D,λx b=>hp2 x (by simp[b])⟩ q t
  show (q3b n u out c (ba n u out s e)).ins ⟨q,t⟩=_
  rw[E]
  by_cases o:t=u
  .
   rw[if_pos o,if_pos o]
   by_cases m:e.aO=n/\e.To=q
   .
    have hi:(ba n u out s e).ins ⟨q,t⟩=q6m (s.ins ⟨q,t⟩) e.Port out:=by
     unfold ba;rw[if_pos m.1];dsimp only;rw[bH,if_pos ⟨z,by rw[m.2,o]⟩,m.2,o]
    have l:¬aA c n q e.Port:=λ⟨x,b,_,g,j⟩=>C x b ⟨by rw[m.2,g],j.symm⟩;have f:aA (e::c) n q e.Port:=⟨e,by simp,m.1,m.2,rfl⟩;have a:∀k,k≠e.Port->(aA (e::c) n q k↔aA c n q k):=λk w=>by
     refine⟨λ⟨x,b,d,g,j⟩=>?_,λ⟨x,b,d⟩=>⟨x,by simp[b],d⟩⟩;rcases Xw.1 b with rfl|b
     . exact absurd j.symm w
     exact⟨x,b,d,g,j⟩
    rw[hi];unfold dX q6m;rcases hp2 e (by simp)with p|p
    . rw[p]at l f a;rw[if_pos p,if_neg l,if_pos f];dsimp only;rw[show (aA (e::c) n q 1)=(aA c n q 1)from propext (a 1 (by decide))]
    rw[p]at l f a;rw[if_neg (show ¬e.Port=0 by omega),if_neg l,if_pos f];dsimp only;rw[show (aA (e::c) n q 0)=(aA c n q 0)from propext (a 0 (by decide))]
   have hi:(ba n u out s e).ins ⟨q,t⟩=s.ins ⟨q,t⟩:=by
    unfold ba
    split
    .
     rename_i y
     dsimp only;rw[bH,if_neg];rintro⟨_,b⟩;simp only[ah.mk.injEq]at b;exact m ⟨y,b.1.symm⟩
    rfl
   have a:∀k,(aA (e::c) n q k)=(aA c n q k):=λk=>propext (by
    refine⟨λ⟨x,b,d,g,j⟩=>?_,λ⟨x,b,d⟩=>⟨x,by simp[b],d⟩⟩;rcases Xw.1 b with rfl|b
    . exact absurd ⟨d,g⟩ m
    exact⟨x,b,d,g,j⟩)
   rw[hi,a,a]
  rw[if_neg o,if_neg o];unfold ba
  split
  . dsimp only;rw[bH,if_neg];rintro⟨_,b⟩;simp only[ah.mk.injEq]at b;exact o b.2
  rfl
theorem ja5(e:aU)(a:List aU)(n:Int):deg (e::a) n=(if e.aO=n then 1 else 0)+deg a n:=by
 unfold deg
 by_cases h:e.aO=n
 . rw[Yt (by simpa using h),if_pos h];simp only[Xl];push_cast;omega
 rw[Yg (by simpa using h),if_neg h];omega
theorem cE{n:Nat}{u:af}{out:List a7}:∀(a:List aU) (s:MS),(q3b n u out a s).work=s.work+deg a n*tot out/\(q3b n u out a s).ay=s.ay/\(q3b n u out a s).aE=s.aE/\(q3b n u out a s).outs=s.outs/\(q3b n u out a s).e=s.e
 |[],s=>⟨by show s.work=s.work+deg [] n*tot out;simp[deg],rfl,rfl,rfl,rfl⟩
 |e::a,s=>by
  obtain⟨d,f,g,j,k⟩:=cE (n:=n) (u:=u) (out:=out) a (ba n u out s e);have b:(ba n u out s e).work=s.work+(if e.aO=n then 1 else 0)*tot out/\(ba n u out s e).ay=s.ay/\(ba n u out s e).aE=s.aE/\(ba n u out s e).outs=s.outs/\(ba n u out s e).e=s.e:=by
   unfold ba
   by_cases c:e.aO=n
   . rw[if_pos c,if_pos c];obtain⟨l,m,q,o,p⟩:=z7e s ⟨e.To,u⟩ e.Port out;exact⟨by dsimp only;omega,l,m,o,p⟩
   rw[if_neg c,if_neg c];exact⟨by omega,rfl,rfl,rfl,rfl⟩
  refine⟨?_,f.trans b.2.1,g.trans b.2.2.1,j.trans b.2.2.2.1,k.trans b.2.2.2.2⟩
  show (q3b n u out a (ba n u out s e)).work=_
  rw[d,b.1,ja5,Int.add_mul];omega
theorem zi8(a:List aU)(n:Int):0<=deg a n:=by unfold deg;omega
theorem jm0{a:List aU}{n q b:Int}(h:aA a n q b):1<=deg a n:=by
 obtain⟨e,c,d,_⟩:=h;unfold deg;have:=List.length_pos_of_mem (l:=a.filter λe=>decide (e.aO=n)) (Xt.2 ⟨c,by simpa using d⟩);omega
structure Bd(C:Int)(s:MS):Prop where
 fn:∀p,Fn (s.ins p).a0/\Fn (s.ins p).a1
 le:∀p,tot (s.ins p).a0<=C+s.work/\tot (s.ins p).a1<=C+s.work
 w0:0<=s.work
theorem jj0{x:aP (List a7)}(d:Fn x.a0)(e:Fn x.a1){b:List a7}(hb:Fn b){K:Int}(j:tot x.a0<=K)(k1:tot x.a1<=K)(k:K+tot b<=50000000)(P Q:Prop):
 (Fn (dX x P Q b).a0/\Fn (dX x P Q b).a1)/\tot (dX x P Q b).a0<=K+(if P then tot b else 0)/\tot (dX x P Q b).a1<=K+(if Q then tot b else 0):=by
 obtain⟨_,f,l,_⟩:=aY d hb (by omega);obtain⟨_,g,m,_⟩:=aY e hb (by omega);unfold dX
 by_cases a:P<;>by_cases c:Q
 . rw[if_pos a,if_pos c,if_pos a,if_pos c];exact⟨⟨f,g⟩,by dsimp only;omega,by dsimp only;omega⟩
 . rw[if_pos a,if_neg c,if_pos a,if_neg c];exact⟨⟨f,e⟩,by dsimp only;omega,by dsimp only;omega⟩
 . rw[if_neg a,if_pos c,if_neg a,if_pos c];exact⟨⟨d,g⟩,by dsimp only;omega,by dsimp only;omega⟩
 rw[if_neg a,if_neg c,if_neg a,if_neg c];exact⟨⟨d,e⟩,by dsimp only;omega,by dsimp only;omega⟩
theorem ji0{n:Nat}{u:af}{out:List a7}(l:out≠[])(g:Fn out){C:Int}{d:List aU}(m:eO d){s:MS}(h:Bd C s)(o:C+s.work+tot out<=50000000):Bd C (q3b n u out d s):=by
 have j:=(cE (n:=n) (u:=u) (out:=out) d s).1;have w:=g.len;have hd:=zi8 d n;have f:0<=deg d n*tot out:=Int.mul_nonneg hd (by omega);have key:∀p:ah,(Fn ((q3b n u out d s).ins p).a0/\Fn ((q3b n u out d s).ins p).a1)/\tot ((q3b n u out d s).ins p).a0<=C+(q3b n u out d s).work/\tot ((q3b n u out d s).ins p).a1<=C+(q3b n u out d s).work:=λp=>by
  obtain⟨q,t⟩:=p;obtain⟨f0,f1⟩:=h.fn ⟨q,t⟩;obtain⟨l0,l1⟩:=h.le ⟨q,t⟩;rw[zb1 l d s m q t,j]
  split
  .
   obtain⟨a,b,c⟩:=jj0 f0 f1 g l0 l1 o (aA d n q 0) (aA d n q 1);have e:∀k,(if aA d n q k then tot out else 0)<=deg d n*tot out:=λk=>by
    split
    .
     rename_i e
     have:=Int.mul_le_mul_of_nonneg_right (jm0 e) (show 0<=tot out by omega);omega
    exact f
   have:=e 0;have:=e 1;exact⟨a,by omega,by omega⟩
  exact⟨⟨f0,f1⟩,by omega,by omega⟩
 exact⟨λp=>(key p).1,λp=>(key p).2,by rw[j];have:=h.w0;omega⟩
theorem jh2{g:aa}{n:Nat}{t:af}{C:Int}(c:0<=C){s:MS}(h:Bd C s):Bd C (aX g n t s):=by
 have a:(aX g n t s).work=s.work:=by unfold aX;split<;>rfl
 have b:=h.w0;have d:tot ([]:List a7)=0:=by simp[tot]
 refine⟨λp=>?_,λp=>?_,by rw[a];exact b⟩
 .
  rw[cM];split
  . exact⟨Fn.nil,Fn.nil⟩
  exact h.fn p
 rw[cM,a];split
 . unfold no2;dsimp only;omega
 exact h.le p
noncomputable def evW(g:aa)(M:Int)(b:List a7)(s:MS)(n:Nat)(t:af):MS:=if s.ins ⟨n,t⟩=no2\/s.e≠0 then s else (cm g M n t (s.ins ⟨n,t⟩).a0 b (aX g n t s)).2
theorem cU{g:aa}(a:VA.Good g):eO g.aw:=⟨a.ed.pw,λe b=>by
 have c:=a.ed.at b;obtain⟨_,_,_,d,_⟩:=c;have:bo (ndI g e.To).Kind<=2:=by unfold bo;repeat' split<;>try omega
 omega⟩
theorem jt7{g:aa}{aC C:Int}(l:0<=C)(m:eO g.aw){s:MS}(h:Bd C s)(p:C+s.work<=40000000){n:Nat}{t:af}{b:List a7}(a:(evW g aC b s n t).e=0):Bd C (evW g aC b s n t):=by
 by_cases c:s.ins ⟨n,t⟩=no2\/s.e≠0
 . unfold evW;rw[if_pos c];exact h
 have d:=jh2 (g:=g) (n:=n) (t:=t) l h;have q:(aX g n t s).work=s.work:=by unfold aX;split<;>rfl
 unfold evW at a⊢;rw[if_neg c]at a⊢
 generalize aX g n t s=x at*
 unfold cm at a⊢
 cases j:bM (nd g n) (s.ins ⟨n,t⟩).a0 b with
 |none=>rw[j]at a;exact absurd a (by show ¬(9:Int)=0;decide)
 |some out=>
  obtain⟨f1,w⟩:=z4n j;rw[j]at a;dsimp only at a⊢
  by_cases f:(nd g n).Kind=15
  . rw[if_pos f];exact⟨d.fn,d.le,d.w0⟩
  rw[if_neg f]at a⊢
  by_cases k:(q05 g n t).2=false\/out=[]
  . rw[if_pos k];exact d
  rw[if_neg k]at a⊢;have hb:=ji0 (n:=n) (u:=(q05 g n t).1) (λe=>k (.inr e)) f1 m d (by omega);dsimp only at a⊢
  split at a
  . exact absurd a (by show ¬(9:Int)=0;decide)
  rename_i o;rw[if_neg o];exact hb
end MN
end
section
open Go Go.RowKit TS VA BG
namespace MN
open Classical
theorem j93{α:Type}(f:α->Int){l m:List α}(h:l.Perm m):(l.map f).sum=(m.map f).sum:=by
 induction h with
 |nil=>rfl
 |cons x _ a=>simp only[Yo,Yp,a]
 |swap x y l=>simp only[Yo,Yp];omega
 |trans _ _ b c=>exact b.trans c
theorem z8k:∀(l:List (List a7)) (a:List a7),Fn a->(∀b∈l,Fn b/\tot b<=7000)->tot a+7000*(l.length:Int)<=50000000->Fn (l.foldl aS a)/\∀x,cnt (l.foldl aS a) x=cnt a x+(l.map λb=>cnt b x).sum
 |[],a,c,_,_=>⟨c,λx=>by simp⟩
 |b::l,a,c,hb,d=>by
  obtain⟨f1,m⟩:=hb b (by simp);simp only[Xl]at d;have n:=f1.len;obtain⟨_,e,o,f⟩:=aY c f1 (by omega);obtain⟨g,j⟩:=z8k l (aS a b) e (λy k=>hb y (by simp[k])) (by omega);exact⟨g,λx=>by rw[Yx,j,f];simp only[Yo,Yp];omega⟩
theorem j6e{s s':MS}{n:Int}{t:af}(h:(seen s n t).Perm (seen s' n t)):dW s n t=dW s' n t:=by
 unfold dW;have j:=h.length_eq
 by_cases c:(seen s n t).length<=7000/\∀b∈seen s n t,Fn b/\tot b<=7000
 .
  have a:(seen s' n t).length<=7000/\∀b∈seen s' n t,Fn b/\tot b<=7000:=⟨by omega,λb hb=>c.2 b (h.mem_iff.2 hb)⟩;rw[if_pos c,if_pos a];have k:tot ([]:List a7)=0:=by simp[tot]
  obtain⟨d,e⟩:=z8k _ [] Fn.nil c.2 (by omega);obtain⟨f,g⟩:=z8k _ [] Fn.nil a.2 (by omega);exact Rt.unique d.rt f.rt λx=>by rw[e,g,j93 _ h]
 rw[if_neg c,if_neg];exact λa=>c ⟨by omega,λb hb=>a.2 b (h.mem_iff.1 hb)⟩
def pt(p:Nat×af):ah:=⟨(p.1:Int),p.2⟩
theorem dC{p q:Nat×af}(h:pt p=pt q):p=q:=by
 obtain⟨a,b⟩:=p;obtain⟨c,d⟩:=q;simp only[pt,ah.mk.injEq]at h;obtain⟨f,e⟩:=h;have:a=c:=by omega
 rw[this,e]
structure Q(s s':MS):Prop where
 ins:∀p,s.ins p=s'.ins p
 ay:∀n,(s.ay n).Perm (s'.ay n)
 aE:∀p,s.aE p=s'.aE p
 work:s.work=s'.work
 outs:s.outs.Perm s'.outs
def QE(s s':MS):Prop:=(s.e≠0/\s'.e≠0)\/(s.e=0/\s'.e=0/\Q s s')
theorem Q.refl(s:MS):Q s s:=⟨λ_=>rfl,λ_=>X6 _,λ_=>rfl,rfl,X6 _⟩
theorem Q.symm{s s':MS}(h:Q s s'):Q s' s:=⟨λp=>(h.ins p).symm,λn=>(h.ay n).symm,λp=>(h.aE p).symm,h.work.symm,h.outs.symm⟩
theorem Q.trans{a b c:MS}(h:Q a b)(k:Q b c):Q a c:=⟨λp=>(h.ins p).trans (k.ins p),λn=>(h.ay n).trans (k.ay n),λp=>(h.aE p).trans (k.aE p),h.work.trans k.work,h.outs.trans k.outs⟩
theorem QE.refl(s:MS):QE s s:=by
 by_cases h:s.e=0
 . exact .inr ⟨h,h,Q.refl s⟩
 exact .inl ⟨h,h⟩
theorem QE.symm{s s':MS}(h:QE s s'):QE s' s:=h.elim (λh=> .inl ⟨h.2,h.1⟩) λh=> .inr ⟨h.2.1,h.1,h.2.2.symm⟩
theorem QE.trans{a b c:MS}(h:QE a b)(k:QE b c):QE a c:=by
 rcases h with⟨d,e⟩|⟨d,e,f⟩<;>rcases k with⟨k1,k2⟩|⟨k1,k2,g⟩
 . exact .inl ⟨d,k2⟩
 . exact absurd k1 e
 . exact absurd e k1
 exact .inr ⟨d,k2,f.trans g⟩
def gv(g:aa)(p:Nat×af)(z:ah):Prop:=(q05 g p.1 p.2).2=true/\∃e∈g.aw,e.aO=(p.1:Int)/\z=⟨e.To,(q05 g p.1 p.2).1⟩
noncomputable def bB(g:aa)(s:MS)(p:Nat×af):List a7:=if (nd g p.1).Kind=14 then dW (aX g p.1 p.2 s) p.1 p.2 else (s.ins (pt p)).a1
noncomputable def evB(g:aa)(M:Int)(s:MS)(p:Nat×af):MS:=evW g M (bB g s p) s p.1 p.2
noncomputable def opB(g:aa)(s:MS)(p:Nat×af):Option (List a7):=bM (nd g p.1) (s.ins (pt p)).a0 (bB g s p)
noncomputable def put(g:aa)(p:Nat×af)(o:List a7)(s:MS):MS:=
 if (nd g p.1).Kind=15 then {s with outs:=s.outs++(all o).map λr=>⟨p.1,p.2.C.a0,r⟩}
 else if (q05 g p.1 p.2).2=false\/o=[]then s
 else q3b p.1 (q05 g p.1 p.2).1 o g.aw s
noncomputable def pit(g:aa)(p:Nat×af)(o:List a7)(s:MS):MS:=put g p o (aX g p.1 p.2 s)
def eZ(g:aa)(p:Nat×af)(o:List a7):Prop:=(nd g p.1).Kind≠15/\(q05 g p.1 p.2).2=true/\o≠[]
noncomputable def wk(g:aa)(p:Nat×af)(o:List a7):Int:=if eZ g p o then deg g.aw p.1*tot o else 0
noncomputable def ad(g:aa)(p:Nat×af)(o:List a7)(z:ah)(x:aP (List a7)):aP (List a7):=if eZ g p o/\z.time=(q05 g p.1 p.2).1 then dX x (aA g.aw p.1 z.node 0) (aA g.aw p.1 z.node 1) o else x
noncomputable def ou(g:aa)(p:Nat×af)(o:List a7):List aB:=if (nd g p.1).Kind=15 then (all o).map λr=>⟨p.1,p.2.C.a0,r⟩else []
theorem take_same(g:aa)(n:Nat)(t:af)(s:MS):(aX g n t s).work=s.work/\(aX g n t s).outs=s.outs/\(aX g n t s).e=s.e:=by unfold aX;split<;>exact⟨rfl,rfl,rfl⟩
theorem cD(g:aa)(n:Nat)(t:af)(s:MS)(m:Int):(aX g n t s).ay m=if (nd g n).Kind=14/\m=n then s.ay m++[⟨t,1⟩]else s.ay m:=by
 unfold aX
 by_cases h:(nd g n).Kind=14
 .
  rw[if_pos h];dsimp only[upd]
  by_cases a:m=n
  . rw[if_pos a,if_pos ⟨h,a⟩,a]
  rw[if_neg a,if_neg λc=>a c.2]
 rw[if_neg h,if_neg λc=>h c.1]
theorem cA(g:aa)(n:Nat)(t:af)(s:MS)(z:ah):(aX g n t s).aE z=if (nd g n).Kind=14/\z=⟨n,t⟩then (s.ins ⟨n,t⟩).a0 else s.aE z:=by
 unfold aX
 by_cases h:(nd g n).Kind=14
 .
  rw[if_pos h];dsimp only[upd]
  by_cases a:z=⟨n,t⟩
  . rw[if_pos a,if_pos ⟨h,a⟩]
  rw[if_neg a,if_neg λc=>a c.2]
 rw[if_neg h,if_neg λc=>h c.1]
section
variable {g:aa} (hP:eO g.aw)
theorem bC(p:Nat×af)(o:List a7)(s:MS):(put g p o s).ay=s.ay/\(put g p o s).aE=s.aE/\(put g p o s).e=s.e/\(put g p o s).work=s.work+wk g p o/\(put g p o s).outs=s.outs++ou g p o:=by
 unfold put wk ou eZ
 by_cases a:(nd g p.1).Kind=15
 . rw[if_pos a,if_pos a,if_neg λc=>c.1 a];exact⟨rfl,rfl,rfl,by dsimp only;omega,rfl⟩
 rw[if_neg a,if_neg a]
 by_cases b:(q05 g p.1 p.2).2=false\/o=[]
 . rw[if_pos b,if_neg λc=>b.elim (λh=>by rw[c.2.1]at h;cases h) c.2.2];exact⟨rfl,rfl,rfl,by omega,by simp⟩
 rw[if_neg b,if_pos ⟨a,by simpa using λe=>b (.inl e),λe=>b (.inr e)⟩];obtain⟨d,f,j,k,l⟩:=cE (n:=p.1) (u:=(q05 g p.1 p.2).1) (out:=o) g.aw s;exact⟨f,j,l,d,by rw[k];simp⟩
include hP in
theorem ji8(p:Nat×af)(o:List a7)(s:MS)(z:ah):(put g p o s).ins z=ad g p o z (s.ins z):=by
 unfold put ad eZ
 by_cases a:(nd g p.1).Kind=15
 . rw[if_pos a,if_neg λc=>c.1.1 a]
 rw[if_neg a]
 by_cases b:(q05 g p.1 p.2).2=false\/o=[]
 . rw[if_pos b,if_neg λc=>b.elim (λh=>by rw[c.1.2.1]at h;cases h) c.1.2.2]
 have j:(q05 g p.1 p.2).2=true:=by simpa using λe=>b (.inl e)
 have f:o≠[]:=λe=>b (.inr e);rw[if_neg b,zb1 f g.aw s hP z.node z.time]
 by_cases d:z.time=(q05 g p.1 p.2).1
 . rw[if_pos d,if_pos ⟨⟨a,j,f⟩,d⟩]
 rw[if_neg d,if_neg λc=>d c.2]
theorem z9m{p:Nat×af}{o:List a7}{z:ah}(h:¬gv g p z)(x:aP (List a7)):ad g p o z x=x:=by
 unfold ad
 split
 .
  rename_i c
  have a:∀b,¬aA g.aw p.1 z.node b:=λb ⟨e,d,f,j,_⟩=>h ⟨c.1.2.1,e,d,f,by rw[j,<-c.2]⟩;exact j2i x (a 0) (a 1) o
 rfl
theorem zp4{x a b:List a7}(c:Fn x)(d:Fn a)(hb:Fn b)(o:tot x+tot a+tot b<=50000000):aS (aS x a) b=aS (aS x b) a:=by
 have la:=d.len;have lb:=hb.len;have lx:=c.len;obtain⟨_,e,p,f⟩:=aY c d (by omega);obtain⟨_,j,q,k⟩:=aY c hb (by omega);obtain⟨_,l,_,m⟩:=aY e hb (by omega);obtain⟨_,s1,_,n⟩:=aY j d (by omega);exact Rt.unique l.rt s1.rt λy=>by rw[m,n,f,k];omega
theorem j65{x:aP (List a7)}(e:Fn x.a0)(f:Fn x.a1){a b:List a7}(c:Fn a)(hb:Fn b)(t0:tot x.a0+tot a+tot b<=50000000)(j:tot x.a1+tot a+tot b<=50000000)(P d R R':Prop):
 dX (dX x P d a) R R' b=dX (dX x R R' b) P d a:=by
 unfold dX
 congr 1
 .
  dsimp only
  split<;>split<;>first|rfl|exact zp4 e c hb t0
 dsimp only
 split<;>split<;>first|rfl|exact zp4 f c hb j
theorem jn0{x:aP (List a7)}(c:Fn x.a0)(d:Fn x.a1){a b:List a7}(e:Fn a)(hb:Fn b)(t0:tot x.a0+tot a+tot b<=50000000)(f:tot x.a1+tot a+tot b<=50000000)(p q:Nat×af)(z:ah):
 ad g q b z (ad g p a z x)=ad g p a z (ad g q b z x):=by
 unfold ad
 split<;>split<;>first|rfl|exact j65 c d e hb t0 f _ _ _ _
noncomputable def lim(M:Int)(s:MS):MS:=if M<s.work then {s with e:=9}else s
theorem dE{M:Int}{s:MS}:M<s.work->(lim M s).e≠0:=λh=>by unfold lim;rw[if_pos h];show ¬(9:Int)=0;decide
theorem cP{M:Int}{s:MS}:s.work<=M->lim M s=s:=λh=>by unfold lim;rw[if_neg (by omega)]
theorem qw1{M:Int}{s:MS}(h:s.e≠0)(p:Nat×af):evB g M s p=s:=by unfold evB evW;rw[if_pos (.inr h)]
theorem j0j{M:Int}{s:MS}{p:Nat×af}(h:s.ins (pt p)=no2):evB g M s p=s:=by unfold evB evW;rw[if_pos (.inl h)]
theorem j2y{M:Int}{s:MS}(d:s.e=0)(j:s.work<=M){p:Nat×af}(h:s.ins (pt p)≠no2):evB g M s p=match opB g s p with
 |none=>{aX g p.1 p.2 s with e:=9}
 |some o=>lim M (pit g p o s):=by
 unfold evB evW opB;rw[if_neg (λc=>c.elim h λc=>c d)];unfold cm pt
 cases bM (nd g p.1) (s.ins ⟨(p.1:Int),p.2⟩).a0 (bB g s p)with
 |none=>rfl
 |some o=>
  dsimp only;have f:=(take_same g p.1 p.2 s).1;unfold pit put
  by_cases a:(nd g p.1).Kind=15
  . rw[if_pos a,if_pos a,cP (by dsimp only;omega)]
  rw[if_neg a,if_neg a]
  by_cases b:(q05 g p.1 p.2).2=false\/o=[]
  . rw[if_pos b,if_pos b,cP (by omega)]
  rw[if_neg b,if_neg b];rfl
theorem cH{M:Int}{s:MS}(a:s.e=0)(b:s.work<=M){p:Nat×af}(h:s.ins (pt p)≠no2)(c:opB g s p=none):(evB g M s p).e≠0:=by
 rw[j2y a b h,c];show ¬(9:Int)=0;decide
theorem ch{M:Int}{s:MS}(a:s.e=0)(b:s.work<=M){p:Nat×af}(h:s.ins (pt p)≠no2){o:List a7}(c:opB g s p=some o):evB g M s p=lim M (pit g p o s):=by
 rw[j2y a b h,c]
theorem dP{s:MS}{p:Nat×af}{o:List a7}(h:opB g s p=some o):Fn o/\tot o<=65536:=z4n h
theorem j59{p:Nat×af}{o:List a7}(h:Fn o):0<=wk g p o:=by
 have:=h.len;unfold wk;split
 . exact Int.mul_nonneg (zi8 _ _) (by omega)
 exact Xv _
theorem qn0(p:Nat×af)(o:List a7)(s:MS):(pit g p o s).work=s.work+wk g p o:=by
 unfold pit;rw[(bC p o _).2.2.2.1,(take_same g p.1 p.2 s).1]
theorem du(p:Nat×af)(o:List a7)(s:MS):(pit g p o s).e=s.e:=by
 unfold pit;rw[(bC p o _).2.2.1,(take_same g p.1 p.2 s).2.2]
theorem cj(p:Nat×af)(o:List a7)(s:MS):(pit g p o s).outs=s.outs++ou g p o:=by
 unfold pit;rw[(bC p o _).2.2.2.2,(take_same g p.1 p.2 s).2.1]
theorem qv4(p:Nat×af)(o:List a7)(s:MS)(m:Int):(pit g p o s).ay m=if (nd g p.1).Kind=14/\m=(p.1:Int)then s.ay m++[⟨p.2,1⟩]else s.ay m:=by
 unfold pit;rw[(bC p o _).1,cD]
theorem qv5(p:Nat×af)(o:List a7)(s:MS)(z:ah):(pit g p o s).aE z=if (nd g p.1).Kind=14/\z=pt p then (s.ins (pt p)).a0 else s.aE z:=by
 unfold pit;rw[(bC p o _).2.1,cA];rfl
include hP in
theorem cr(p:Nat×af)(o:List a7)(s:MS)(z:ah):(pit g p o s).ins z=ad g p o z (if z=pt p then no2 else s.ins z):=by
 unfold pit;rw[ji8 hP,cM];rfl
theorem j5u{s s':MS}{q:Nat×af}(b:s.ins (pt q)=s'.ins (pt q))(a:((s.ay q.1).filter λc=>decide (le c.Time q.2)).Perm ((s'.ay q.1).filter λc=>decide (le c.Time q.2)))
 (d:∀u,le u q.2->s.aE ⟨q.1,u⟩=s'.aE ⟨q.1,u⟩):(seen (aX g q.1 q.2 s) q.1 q.2).Perm (seen (aX g q.1 q.2 s') q.1 q.2):=by
 unfold seen;have hb:∀u,le u q.2->(aX g q.1 q.2 s).aE ⟨q.1,u⟩=(aX g q.1 q.2 s').aE ⟨q.1,u⟩:=λu e=>by
  rw[cA,cA,d u e]
  show (if _ then (s.ins (pt q)).a0 else _)=(if _ then (s'.ins (pt q)).a0 else _)
  rw[b]
 have hp:(((aX g q.1 q.2 s).ay q.1).filter λc=>decide (le c.Time q.2)).Perm (((aX g q.1 q.2 s').ay q.1).filter λc=>decide (le c.Time q.2)):=by
  rw[cD,cD]
  split
  . rw[Xz,Xz];exact a.append_right _
  exact a
 refine (hp.map _).trans (List.Perm.of_eq (Zh λc f=>hb _ ?_))
 simpa using (Xt.1 f).2
theorem jf2{s s':MS}{q:Nat×af}(a:s.ins (pt q)=s'.ins (pt q))(b:(nd g q.1).Kind=14->((s.ay q.1).filter λc=>decide (le c.Time q.2)).Perm ((s'.ay q.1).filter λc=>decide (le c.Time q.2)))
 (d:(nd g q.1).Kind=14->∀u,le u q.2->s.aE ⟨q.1,u⟩=s'.aE ⟨q.1,u⟩):bB g s q=bB g s' q:=by
 unfold bB
 split
 . rename_i h;exact j6e (j5u a (b h) (d h))
 rw[a]
include hP in
theorem j66{s s':MS}(h:Q s s')(p:Nat×af)(o:List a7):Q (pit g p o s) (pit g p o s'):=by
 refine⟨λz=>?_,λn=>?_,λz=>?_,by rw[qn0,qn0,h.work],by rw[cj,cj];exact h.outs.append_right _⟩
 . rw[cr hP,cr hP,h.ins]
 .
  rw[qv4,qv4];split
  . exact (h.ay n).append_right _
  exact h.ay n
 rw[qv5,qv5,h.aE,h.ins]
include hP in
theorem ja1{M:Int}{s s':MS}(h:QE s s')(d:s.e=0->s.work<=M)(p:Nat×af):QE (evB g M s p) (evB g M s' p):=by
 rcases h with⟨b,c⟩|⟨b,c,a⟩
 . rw[qw1 b,qw1 c];exact .inl ⟨b,c⟩
 have d:=d b;have f:s'.work<=M:=by rw[<-a.work];exact d
 by_cases j:s.ins (pt p)=no2
 . rw[j0j j,j0j (by rw[<-a.ins];exact j)];exact .inr ⟨b,c,a⟩
 have k:s'.ins (pt p)≠no2:=by rw[<-a.ins];exact j
 have n:opB g s p=opB g s' p:=by
  unfold opB;rw[jf2 (a.ins _) (λ_=>(a.ay _).filter _) λ_ u _=>a.aE _,a.ins]
 cases l:opB g s p with
 |none=>exact .inl ⟨cH b d j l,cH c f k (by rw[<-n];exact l)⟩
 |some o=>
  rw[ch b d j l,ch c f k (by rw[<-n];exact l)];have m:=j66 hP a p o
  by_cases q:M<(pit g p o s).work
  . exact .inl ⟨dE q,dE (by rw[<-m.work];exact q)⟩
  rw[cP (by omega),cP (by rw[<-m.work];omega)];exact .inr ⟨by rw[du];exact b,by rw[du];exact c,m⟩
structure e7(g:aa)(p q:Nat×af):Prop where
 ne:p≠q
 pq:¬gv g p (pt q)
 qp:¬gv g q (pt p)
 pp:¬gv g p (pt p)
 qq:¬gv g q (pt q)
 k1:p.1=q.1->(nd g p.1).Kind=14->¬le p.2 q.2
 k2:p.1=q.1->(nd g p.1).Kind=14->¬le q.2 p.2
theorem e7.symm{p q:Nat×af}(h:e7 g p q):e7 g q p:=⟨h.ne.symm,h.qp,h.pq,h.qq,h.pp,λe k=>h.k2 e.symm (by rw[<-e];exact k),λe k=>h.k1 e.symm (by rw[<-e];exact k)⟩
section
variable {M:Int} {s:MS} (he:s.e=0) (hw:s.work<=M) {p q:Nat×af} (hp:s.ins (pt p)≠no2) (hq:s.ins (pt q)≠no2) (hA:e7 g p q)
include hP hA
theorem qw9(o:List a7):(pit g p o s).ins (pt q)=s.ins (pt q):=by
 rw[cr hP,z9m hA.pq,if_neg λe=>hA.ne (dC e.symm)]
theorem zy2(o:List a7):opB g (pit g p o s) q=opB g s q:=by
 unfold opB;have hi:=qw9 hP hA (s:=s) o;rw[jf2 (s':=s) hi (λ_=>?_) (λe u b=>?_),hi]
 .
  rw[qv4]
  split
  .
   rename_i c
   rw[Xz,Yg,Y6,Xx]
   simpa using hA.k1 (by omega) c.1
  exact X6 _
 rw[qv5,if_neg];rintro⟨d,a⟩;simp only[pt,ah.mk.injEq]at a;exact hA.k1 (by omega) d (by rw[<-a.2];exact b)
include he hw hp hq
theorem zv2{o o':List a7}(a:opB g s p=some o)(b:opB g s q=some o'):(M<(pit g q o' (pit g p o s)).work->(evB g M (evB g M s p) q).e≠0)/\((pit g q o' (pit g p o s)).work<=M->evB g M (evB g M s p) q=pit g q o' (pit g p o s)):=by
 have w1:=qn0 (g:=g) p o s;have w2:=qn0 (g:=g) q o' (pit g p o s);have n1:=j59 (g:=g) (p:=p) (dP a).1;have d:=j59 (g:=g) (p:=q) (dP b).1;rw[ch he hw hp a]
 by_cases c:M<(pit g p o s).work
 . refine⟨λ_=>?_,λh=>by omega⟩;rw[qw1 (dE c)];exact dE c
 have hi:(pit g p o s).ins (pt q)≠no2:=by rw[qw9 hP hA];exact hq
 rw[cP (by omega),ch (by rw[du];exact he) (by omega) hi (by rw[zy2 hP hA];exact b)];exact⟨λh=>dE h,λh=>cP h⟩
theorem z6b(h:opB g s p=none\/opB g s q=none):(evB g M (evB g M s p) q).e≠0:=by
 cases a:opB g s p with
 |none=>
  have:=cH he hw hp a;rw[qw1 this];exact this
 |some o=>
  have c:opB g s q=none:=h.resolve_left (by rw[a];simp);rw[ch he hw hp a]
  by_cases b:M<(pit g p o s).work
  . rw[qw1 (dE b)];exact dE b
  have hi:(pit g p o s).ins (pt q)≠no2:=by rw[qw9 hP hA];exact hq
  rw[cP (by omega)];exact cH (by rw[du];exact he) (by omega) hi (by rw[zy2 hP hA];exact c)
end
include hP in
theorem j92{C:Int}{s:MS}(l:Bd C s)(u:C+s.work<=1000000){p q:Nat×af}(a:e7 g p q){o o':List a7}(f:Fn o)(m:Fn o')(t:tot o<=65536)(w:tot o'<=65536):Q (pit g q o' (pit g p o s)) (pit g p o (pit g q o' s)):=by
 refine⟨λz=>?_,λn=>?_,λz=>?_,by rw[qn0,qn0,qn0,qn0];omega,?_⟩
 .
  rw[cr hP,cr hP,cr hP,cr hP]
  by_cases b:z=pt p
  . subst b;have j:pt p≠pt q:=λe=>a.ne (dC e);simp[z9m a.pp,z9m a.qp,j]
  by_cases k:z=pt q
  . subst k;simp[z9m a.qq,z9m a.pq,b]
  rw[if_neg k,if_neg b,if_neg b,if_neg k];obtain⟨f0,f1⟩:=l.fn z;obtain⟨l0,l1⟩:=l.le z;exact jn0 f0 f1 f m (by omega) (by omega) p q z
 .
  rw[qv4,qv4,qv4,qv4]
  split<;>split
  . rw[Xh,Xh];exact (X6 _).append (Y9)
  . exact X6 _
  . exact X6 _
  exact X6 _
 .
  rw[qv5,qv5,qv5,qv5,qw9 hP a,qw9 hP a.symm]
  by_cases b:z=pt p
  .
   subst b;rw[if_neg λc=>a.ne (dC c.2)]
   by_cases d:(nd g p.1).Kind=14
   . rw[if_pos ⟨d,rfl⟩,if_pos ⟨d,rfl⟩]
   rw[if_neg λc=>d c.1,if_neg λc=>d c.1,if_neg λc=>a.ne (dC c.2)]
  rw[if_neg (c:=(nd g p.1).Kind=14/\z=pt p) λc=>b c.2,if_neg (c:=(nd g p.1).Kind=14/\z=pt p) λc=>b c.2]
 rw[cj,cj,cj,cj,Xh,Xh];exact (X6 _).append Y9
include hP in
theorem swap{C M:Int}(m:C+M<=1000000){s:MS}(n:Bd C s)(a:s.e=0)(c:s.work<=M){p q:Nat×af}(hp:s.ins (pt p)≠no2)(d:s.ins (pt q)≠no2)(b:e7 g p q):
 QE (evB g M (evB g M s p) q) (evB g M (evB g M s q) p):=by
 cases f:opB g s p with
 |none=>exact .inl ⟨z6b hP a c hp d b (.inl f),z6b hP a c d hp b.symm (.inr f)⟩
 |some o=>
  cases j:opB g s q with
  |none=>exact .inl ⟨z6b hP a c hp d b (.inr j),z6b hP a c d hp b.symm (.inl j)⟩
  |some o'=>
   obtain⟨f1,t⟩:=dP f;obtain⟨k1,k2⟩:=dP j;have k:=j92 hP n (by omega) b f1 k1 t k2;obtain⟨a1,a2⟩:=zv2 hP a c hp d b f j;obtain⟨u,w⟩:=zv2 hP a c d hp b.symm j f
   by_cases l:M<(pit g q o' (pit g p o s)).work
   . exact .inl ⟨a1 l,u (by rw[<-k.work];exact l)⟩
   rw[a2 (by omega),w (by rw[<-k.work];omega)];exact .inr ⟨by rw[du,du];exact a,by rw[du,du];exact a,k⟩
end
end MN
end
section
open Go Go.RowKit TS VA BG
namespace MN
open Classical
inductive Pa(g:aa)(w:Nat×af):Nat×af->Prop
 |refl:Pa g w w
 |snoc {a q:Nat×af}:Pa g w a->gv g a (pt q)->Pa g w q
theorem Pa.trans{g:aa}{a b c:Nat×af}(h:Pa g a b)(k:Pa g b c):Pa g a c:=by
 induction k with
 |refl=>exact h
 |snoc _ d e=>exact e.snoc d
theorem Pa.one{g:aa}{a b:Nat×af}(h:gv g a (pt b)):Pa g a b:=Pa.refl.snoc h
structure Fr(g:aa)(s:MS)(p:Nat×af):Prop where
 act:s.ins (pt p)≠no2
 front:∀w,s.ins (pt w)≠no2->w≠p->∀a,Pa g w a->a≠p/\¬(a.1=p.1/\(nd g p.1).Kind=14/\le a.2 p.2)
inductive Rn(g:aa)(M:Int):MS->MS->Prop
 |done {s:MS}:(s.e≠0\/∀p,s.ins (pt p)=no2)->Rn g M s s
 |step {s z:MS} {p:Nat×af}:s.e=0->Fr g s p->Rn g M (evB g M s p) z->Rn g M s z
structure Sd(g:aa)(C M:Int)(s:MS):Prop where
 bd:Bd C s
 w:s.work<=M
 wp:W g s
theorem db{g:aa}(c:VA.Good g){e:aU}(d:e∈g.aw):∃n m:Nat,e.aO=(n:Int)/\e.To=(m:Int)/\n<g.al.length/\m<g.al.length:=by
 obtain⟨a,b,_⟩:=c.ed.at d;exact⟨e.aO.toNat,e.To.toNat,by have:=a.1;omega,by have:=b.1;omega,by have:=a.1;have:=a.2;omega,by have:=b.1;have:=b.2;omega⟩
section
variable {g:aa} (hG:VA.Good g)
include hG
theorem fc{p:Nat×af}{z:ah}(hp:PtM g (pt p))(h:gv g p z):PtM g z/\∃q,z=pt q:=by
 obtain⟨d,e,b,f,rfl⟩:=h;have hp':=hp;obtain⟨n,k,c,_⟩:=hp;have c:(p.1:Int)=n:=c;have a:p.1<g.al.length:=by omega
 obtain⟨_,m,_,j,_⟩:=db hG b;exact⟨(dq hG a hp' d b f).1,⟨(m,(q05 g p.1 p.2).1),by unfold pt;rw[j]⟩⟩
theorem j08{p:Nat×af}(hp:PtM g (pt p)):¬gv g p (pt p):=by
 rintro⟨f,e,o,q,k⟩;simp only[pt,ah.mk.injEq]at k;obtain⟨z,a⟩:=k;obtain⟨_,_,_,_,_,s,_⟩:=hG.ed.at o;have b:(ndI g e.aO).Kind=12:=s (by omega);have t:ndI g e.aO=nd g p.1:=by rw[q];unfold ndI;rw[Xf]
 rw[t]at b;obtain⟨n,A,l,d,m⟩:=hp;have l:(p.1:Int)=n:=l;have j:p.1<g.al.length:=by omega
 obtain rfl:p.1=n:=by omega
 obtain⟨u,w,y⟩:=aQ hG j;have B:lev g p.1=dep g (nd g p.1).Scope:=by unfold lev q0s;rw[if_neg (by omega)]
 have C:=((bb hG u w).2.2 (y (by omega))).2.2.2;have d:ok p.2:=d;have m:p.2.D=(lev g p.1:Int):=m;rw[bz b]at f a
 split at f
 .
  rename_i c
  rw[if_pos c]at a;have a:p.2=nxT p.2:=a;exact qw7 d (q8r _) (z2q d (by omega) (by rw[<-a];exact q8r _))
 cases f
variable {C M:Int}
theorem cY{s:MS}(d:Sd g C M s)(f:s.e=0){p:Nat×af}(hp:s.ins (pt p)≠no2)(a:(evB g M s p).e=0):∃o,opB g s p=some o/\evB g M s p=pit g p o s/\(pit g p o s).work<=M/\∀z,(evB g M s p).ins z≠no2->(s.ins z≠no2/\z≠pt p)\/gv g p z:=by
 cases j:opB g s p with
 |none=>exact absurd a (cH f d.w hp j)
 |some o=>
  have b:=ch f d.w hp j;have k:(pit g p o s).work<=M:=Int.not_lt.1 λh=>by rw[b]at a;exact dE h a
  rw[cP k]at b;refine⟨o,rfl,b,k,λz a=>?_⟩;rw[b,cr (cU hG)]at a
  by_cases l:gv g p z
  . exact .inr l
  rw[z9m l]at a
  split at a
  . exact absurd rfl a
  rename_i c;exact .inl ⟨a,c⟩
theorem Sd.step(c:0<=C)(d:C+M<=1000000){s:MS}(a:Sd g C M s)(f:s.e=0){p:Nat×af}(hp:s.ins (pt p)≠no2)(b:(evB g M s p).e=0):Sd g C M (evB g M s p):=by
 obtain⟨o,_,j,k,l⟩:=cY hG a f hp b;have m:=a.w;refine⟨jt7 c (cU hG) a.bd (by omega) b,by rw[j];exact k,λz b=>?_⟩;rcases l z b with h|h
 . exact a.wp z h.1
 exact (fc hG (a.wp _ hp) h).1
theorem Fr.apart{s:MS}(c:Sd g C M s){p q:Nat×af}(hp:Fr g s p)(b:Fr g s q)(a:p≠q):e7 g p q:=
 ⟨a,λh=>(b.front p hp.act a q (Pa.one h)).1 rfl,λh=>(hp.front q b.act a.symm p (Pa.one h)).1 rfl,j08 hG (c.wp _ hp.act),j08 hG (c.wp _ b.act),
  λe k l=>(b.front p hp.act a p Pa.refl).2 ⟨e,by rw[<-e];exact k,l⟩,λe k l=>(hp.front q b.act a.symm q Pa.refl).2 ⟨e.symm,k,l⟩⟩
theorem Fr.keep{s:MS}(f:Sd g C M s)(k:s.e=0){p q:Nat×af}(hp:Fr g s p)(c:Fr g s q)(b:p≠q)(l:(evB g M s p).e=0):Fr g (evB g M s p) q:=by
 obtain⟨o,_,m,_,n⟩:=cY hG f k hp.act l;refine⟨by rw[m,qw9 (cU hG) (hp.apart hG f c b)];exact c.act,λw t d a j=>?_⟩;rcases n _ t with h|h
 . exact c.front w h.1 d a j
 exact c.front p hp.act b a ((Pa.one h).trans j)
theorem Rn.congr(n:0<=C)(d:C+M<=1000000){s z:MS}(h:Rn g M s z):∀s',(s.e=0->Sd g C M s)->QE s s'->∃c,Rn g M s' c/\QE z c:=by
 induction h with
 |@done s hd=>
  intro s' _ a;refine⟨s',.done ?_,a⟩;rcases a with⟨_,f⟩|⟨j,_,o⟩
  . exact .inl f
  exact .inr λp=>by rw[<-o.ins];exact hd.resolve_left (λh=>h j) p
 |@step s z p k l _ q=>
  intro s' t a;have b:=t k;have u:=ja1 (cU hG) a (M:=M) (λh=>b.w) p;obtain⟨c,j,f⟩:=q _ (λy=>Sd.step hG n d b k l.act y) u;rcases a with⟨k1,_⟩|⟨_,k2,m⟩
  . exact absurd k k1
  exact⟨c,.step k2 ⟨by rw[<-m.ins];exact l.act,λw A=>l.front w (by rw[m.ins];exact A)⟩ j,f⟩
omit hG in
theorem Rn.dead{s z:MS}(h:Rn g M s z)(a:s.e≠0):z=s:=by
 cases h with
 |done _=>rfl
 |step h _ _=>exact absurd h a
theorem Rn.front(t:0<=C)(c:C+M<=1000000){s z:MS}(h:Rn g M s z):∀{p:Nat×af},Sd g C M s->s.e=0->Fr g s p->∃y,Rn g M (evB g M s p) y/\QE z y:=by
 induction h with
 |@done s hd=>
  intro p _ f hp;exact absurd (hd.resolve_left (λh=>h f) p) hp.act
 |@step s z q f l A B=>
  intro p j _ hp
  by_cases b:q=p
  . subst b;exact⟨z,A,QE.refl z⟩
  have D:=l.apart hG j hp b;have k:=swap (cU hG) c j.bd f j.w l.act hp.act D
  by_cases d:(evB g M s q).e=0
  .
   have m:=Sd.step hG t c j f l.act d;have n:=l.keep hG j f hp b d;obtain⟨K,E,G⟩:=B m d n;obtain⟨H,u,I⟩:=E.congr hG t c _ (λJ=>Sd.step hG t c m d n.act J) k;refine⟨H,?_,G.trans I⟩
   by_cases a:(evB g M s p).e=0
   . exact .step a (hp.keep hG j f l (Ne.symm b) a) u
   rw[qw1 a]at u;exact u
  have o:=A.dead d;rw[qw1 d]at k;have hd:(evB g M (evB g M s p) q).e≠0:=k.elim (λh=>h.2) λh=>absurd h.1 d
  by_cases a:(evB g M s p).e=0
  . exact⟨_,.step a (hp.keep hG j f l (Ne.symm b) a) (.done (.inl hd)),.inl ⟨by rw[o];exact d,hd⟩⟩
  exact⟨_,.done (.inl a),.inl ⟨by rw[o];exact d,a⟩⟩
theorem Rn.uniq(k:0<=C)(a:C+M<=1000000){s z:MS}(h:Rn g M s z):∀{b:MS},Rn g M s b->Sd g C M s->QE z b:=by
 induction h with
 |@done s hd=>
  intro b d _
  cases d with
  |done _=>exact QE.refl _
  |step c n _=>exact absurd (hd.resolve_left (λh=>h c) _) n.act
 |@step s z p c hp _ o=>
  intro b d l;obtain⟨u,m,f⟩:=d.front hG k a l c hp
  by_cases j:(evB g M s p).e=0
  . exact (o m (Sd.step hG k a l c hp.act j)).trans f.symm
  have:=m.dead j
  rename_i q
  have t:=q.dead j;rw[t];rw[this]at f;exact f.symm
end
end MN
end
section
open Go Go.RowKit TS VA BG
namespace MN
open Classical
def at_(t:af)(D:Int):Int:=if D=1 then t.C.a0 else if D=2 then t.C.a1 else if D=3 then t.C.a2 else t.C.a3
theorem j35(t:af):at_ t t.D=bj t:=rfl
theorem jv2{t:af}(a:ok t){D:Int}(h:1<=D)(b:D<t.D):at_ (leT t) D=at_ t D:=by
 have:=cL a;unfold at_ leT
 repeat' split
 all_goals first|rfl|(dsimp only;omega)|omega
theorem jv1{t:af}(a:ok t){D:Int}(h:1<=D)(b:D<t.D):at_ (nxT t) D=at_ t D:=by
 have:=cL a;unfold at_ nxT
 repeat' split
 all_goals first|rfl|(dsimp only;omega)|omega
theorem j3g{u v:af}(d:ok u)(f:2<=u.D)(h:under (leT u) v)(hd:u.D<=v.D)(b:at_ v u.D=bj u):under u v:=by
 have:=cL d;obtain⟨_,a,k1,k2,c⟩:=h;unfold at_ bj at b;rcases (by omega:u.D=2\/u.D=3\/u.D=4)with e|e|e
 .
  have el:leT u=⟨1,⟨u.C.a0,0,0,0⟩⟩:=by unfold leT;rw[if_pos e]
  rw[el]at a k1 k2 c;rw[if_neg (by omega),if_pos e,if_neg (by omega),if_pos e]at b;dsimp only at a k1 k2 c;exact⟨hd,a,λ_=>b,λ_=>by omega,λ_=>by omega⟩
 .
  have el:leT u=⟨2,⟨u.C.a0,u.C.a1,0,0⟩⟩:=by unfold leT;rw[if_neg (by omega),if_pos e]
  rw[el]at a k1 k2 c;rw[if_neg (by omega),if_neg (by omega),if_pos e,if_neg (by omega),if_neg (by omega),if_pos e]at b;dsimp only at a k1 k2 c;exact⟨hd,a,λ_=>k1 (by omega),λ_=>b,λ_=>by omega⟩
 have el:leT u=⟨3,⟨u.C.a0,u.C.a1,u.C.a2,0⟩⟩:=by unfold leT;rw[if_neg (by omega),if_neg (by omega)]
 rw[el]at a k1 k2 c;rw[if_neg (by omega),if_neg (by omega),if_neg (by omega),if_neg (by omega),if_neg (by omega),if_neg (by omega)]at b;dsimp only at a k1 k2 c;exact⟨hd,a,λ_=>k1 (by omega),λ_=>k2 (by omega),λ_=>b⟩
theorem zo5{f:af->List (Nat×af)}{x:Nat×af}{v:af}{D:Int}(j:∀u,ok u->u.D=D->under u v->x∈f u):∀(k:Nat) (u:af),ok u->u.D=D->2<=u.D->u.D<=v.D->under (leT u) v->bj u+k<=64->bj u<=at_ v u.D->at_ v u.D<bj u+k->x∈q8n f k u
 |0,u,_,_,_,_,_,_,n,o=>by omega
 |k+1,u,a,d,l,p,m,s,n,o=>by
  unfold q8n
  by_cases q:at_ v u.D=bj u
  . exact Yf _ (j u a d (j3g a l m p q))
  have b:q95 u=64:=by unfold q95;rw[if_neg (by omega)]
  have e:=z5m a (by rw[b];omega);have g:q9q u=nxT u:=by unfold q9q;rw[if_pos ⟨a,by rw[b];omega⟩]
  have c:=z6m a;obtain⟨a1,a2⟩:=eV a l;rw[g];exact Ya _ (zo5 j k (nxT u) e (by omega) (by omega) (by omega) (by rw[a1];exact m) (by omega) (by rw[c];omega) (by rw[c];omega))
section
variable {g:aa} (hG:VA.Good g)
include hG
theorem j33{s:Int}(b:0<=s)(c:s<g.ae.length)(d:s≠0):1<=bnd g s:=by
 have a:=hG.sc s.toNat (by omega);unfold sOk at a;unfold bnd;rw[if_neg (by omega)]at a;simp only[Xy,decide_eq_true_eq]at a;omega
def Cov(g:aa)(d:Nat):Prop:=∀{a to:Nat} {sc:Int} {t:af} {n:Nat} {v:af},Blk g a to sc->g.ae.length-sc.toNat<=d->ok t->t.D=(dep g sc:Int)->a<=n->n<to->ok v->v.D=(lev g n:Int)->
 (under t v\/((nd g n).Kind=10/\(nd g n).Scope=sc/\v=q3o t))->(∀c∈anc g.ae (q0s g (nd g n)),sc<c->at_ v (dep g c)<bnd g c)->(n,v)∈sched g d a to sc t
theorem z8b{d:Nat}(S:Cov g d){a to:Nat}{sc:Int}(s:Blk g a to sc)(hd:g.ae.length-sc.toNat<=d+1){t:af}(p:ok t)(hD:t.D=(dep g sc:Int)){n:Nat}{v:af}(J:n<to)(z:ok v)(k:v.D=(lev g n:Int))
 (j:under t v\/((nd g n).Kind=10/\(nd g n).Scope=sc/\v=q3o t))(hb:∀c∈anc g.ae (q0s g (nd g n)),sc<c->at_ v (dep g c)<bnd g c):
 ∀(f i:Nat),to-i<=f->a<=i->i<=n->(i<to->At g a i sc)->(n,v)∈q7g g (sched g d) to sc t f i
 |0,i,hf,l,w,_=>by omega
 |f+1,i,hf,l,w,U=>by
  have bs:=s.le;unfold q7g;have hi:i<to:=by omega
  rw[if_pos hi];have V:i<g.al.length:=by omega
  have W:n<g.al.length:=by omega
  obtain⟨A,k1,_⟩:=aQ hG V;obtain⟨X,Y,r2⟩:=aQ hG W
  by_cases q:(nd g i).Scope≠sc
  .
   rw[if_pos q];obtain⟨hp,hz,bv⟩:=child hG s l hi (U hi) q;have B:=bQ hG A k1;have K:=z9h (g:=g) hi B;obtain⟨_,c1,C,G⟩:=qc0 g (nd g i).Scope to (to-i) i (by omega);have G:=G (Xi _);obtain⟨b1,b2⟩:=dR hG A k1;have b3:=j33 hG A k1 hz
   generalize q9i g (nd g i).Scope to (to-i) i=E at*
   by_cases Z:E<=n
   . exact Ya _ (z8b S s hd p hD J z k j hb f E (by omega) (by omega) Z λh=>j14 hG s l hi q (U hi) h K C (G h))
   refine Yf _ ?_;have L:Blk g i E (nd g i).Scope:=⟨K,by omega,A,k1,rfl,C⟩;have bc:=bF hG A k1 (s.inn i l hi);have h4:=(bb hG A k1).2.1;have o:t.D≠4:=by omega
   have a6:q5v t=enT t:=by unfold q5v;rw[if_pos ⟨p,o⟩]
   obtain⟨l1,l2⟩:=zt6 p o;have T:=C n w (by omega);have M:(nd g n).Scope≠sc:=λe=>by
    rw[e]at T;have:=bF hG s.s0 s.s1 T;omega
   have j:=j.resolve_right λh=>M h.2.1;rw[a6];have c2:=p.1;have H:(enT t).D=t.D+1:=rfl
   by_cases y:(nd g n).Kind=10/\(nd g n).Scope=(nd g i).Scope
   .
    obtain⟨b,N⟩:=y;have O:lev g n=dep g sc:=by unfold lev q0s;rw[if_pos b,N,hp]
    have ao:v=t:=z6a p z j (by omega);obtain⟨m,hm⟩:∃m,(bnd g (nd g i).Scope).toNat=m+1:=⟨(bnd g (nd g i).Scope).toNat-1,by omega⟩;rw[hm];unfold q8n;refine Yf _ (S L (by omega) (z3a p o) (by omega) w (by omega) z k (.inr ⟨b,N,?_⟩) λc I ar=>hb c I (by omega));unfold q3o;rw[if_pos ⟨z3a p o,by omega⟩,l1,ao]
   have P:(nd g i).Scope∈anc g.ae (q0s g (nd g n)):=by
    unfold q0s
    split
    .
     rename_i b
     exact (cJ hG X Y T λe=>y ⟨b,e.symm⟩).2
    exact T
   have Q:0<=q0s g (nd g n)/\q0s g (nd g n)<g.ae.length:=by
    unfold q0s
    split
    .
     rename_i b
     obtain⟨p0,p1,_⟩:=(bb hG X Y).2.2 (r2 (.inl b));exact⟨p0,p1⟩
    exact⟨X,Y⟩
   have c4:=cS hG Q.1 Q.2 P;have bi:t.D+1<=v.D:=by rw[k];unfold lev;omega
   have b0:=hb _ P (by omega);have b4:(dep g (nd g i).Scope:Int)=t.D+1:=by omega
   rw[b4]at b0;have bk:0<=at_ v (t.D+1):=by
    obtain⟨_,_,q0,q1,q2,q3⟩:=z;unfold at_;repeat' split
    all_goals omega
   refine zo5 (v:=v) (D:=t.D+1) (λu b5 c5 b6=>S L (by omega) b5 (by omega) w (by omega) z k (.inl b6) λc I ar=>hb c I (by omega)) _ (enT t) (z3a p o) H (by omega) (by omega) (by rw[l1];exact j) (by omega) (by rw[H];omega) (by rw[H];omega)
  rw[if_neg q];have q:(nd g i).Scope=sc:=by simpa using q
  by_cases R:i=n
  .
   subst R;refine Xw.2 (.inl ?_);unfold atA
   by_cases b:(nd g i).Kind=10
   .
    rw[if_pos b];rcases j with j|j
    .
     exfalso
     have O:lev g i=dep g (g.ae.getD sc.toNat 0):=by unfold lev q0s;rw[if_pos b,q]
     have h5:=((bb hG A k1).2.2 (r2 (.inl b))).2.2.1;rw[q]at h5;have:=j.1;omega
    rw[j.2.2]
   rw[if_neg b];have j:=j.resolve_right λh=>b h.1;have O:lev g i=dep g sc:=by unfold lev q0s;rw[if_neg b,q]
   rw[z6a p z j (by omega)]
  exact Ye _ (z8b S s hd p hD J z k j hb f (i+1) (by omega) (by omega) (by omega) λh=>at_one hG s l h q (U hi))
theorem z7u:∀d:Nat,Cov g d
 |0,a,to,sc,t,n,v,b,hd,_,_,_,_,_,_,_,_=>by have:=b.s0;have:=b.s1;omega
 |d+1,a,to,sc,t,n,v,b,hd,j,k,c,e,l,f,o,hb=>by
  unfold sched;exact z8b hG (z7u d) b hd j k e l f o hb (to-a) a (Xi _) (Xi _) c λ_ m p q=>by omega
end
end MN
end
section
open Go Go.RowKit TS VA BG
namespace MN
open Classical
def X(g:aa)(p a:Nat×af):Prop:=¬gv g p (pt a)/\¬(p.1=a.1/\(nd g p.1).Kind=14/\le p.2 a.2)
def Bf(g:aa)(L:List (Nat×af)):Prop:=∀A p B,L=A++p::B->p∉A->PtM g (pt p)->∀a∈A,X g p a
theorem Bf.nil(g:aa):Bf g []:=λA p B h=>by simp at h
theorem Bf.app{g:aa}{L1 j:List (Nat×af)}(l:Bf g L1)(m:Bf g j)(h:∀p∈j,p∉L1->PtM g (pt p)->∀a∈L1,X g p a):Bf g (L1++j):=by
 intro A p B n hp b a d;rcases List.append_eq_append_iff.1 n with⟨C,e,f⟩|⟨C,e,f⟩
 .
  rw[e]at hp d;rcases Xj.1 d with d|d
  . exact h p (by rw[f];simp) (λk=>hp (Yf _ k)) b a d
  exact m C p B f (λk=>hp (Ya _ k)) b a d
 cases C with
 |nil=>
  simp only[Xx,Y5]at e f;exact h p (by rw[<-f];simp) (by rw[e];exact hp) b a (by rw[e];exact d)
 |cons c C=>
  simp only[List.cons_append,List.cons.injEq]at f;rw[<-f.1]at e;exact l A p C e hp b a d
theorem Bf.cons{g:aa}{a:Nat×af}{L:List (Nat×af)}(d:Bf g L)(h:∀p∈L,p≠a->PtM g (pt p)->X g p a):Bf g (a::L):=by
 refine Bf.app (L1:=[a]) (λA p B f hp b x c=>?_) d λp hp j b x c=>?_
 .
  cases A with
  |nil=>cases c
  |cons y A=>simp at f
 rw[Xq.1 c];exact h p hp (λe=>j (by rw[e];simp)) b
theorem z3s(g:aa)(self:Nat->Nat->Int->af->List (Nat×af))(to:Nat)(sc:Int)(t:af)(e:∀a b c u,∀p∈self a b c u,a<=p.1):∀(f n:Nat),∀q∈q7g g self to sc t f n,n<=q.1
 |0,_,q,d=>by cases d
 |f+1,n,q,d=>by
  unfold q7g at d
  split at d
  .
   split at d
   .
    obtain⟨j,_⟩:=qc0 g (nd g n).Scope to (to-n) n (by omega);rcases Xj.1 d with h|h
    . exact qa9 (H:=λ_=>True) (Q:=λp=>n<=p.1) (λ_ _=>trivial) (λu _ q d=>e _ _ _ u q d) _ _ trivial q h
    have:=z3s g self to sc t e f _ q h;omega
   rcases Xw.1 d with rfl|h
   . exact Xi _
   have:=z3s g self to sc t e f _ q h;omega
  cases d
section
variable {g:aa} (hG:VA.Good g)
include hG
theorem z9e{p a:Nat×af}(hp:PtM g (pt p))(h:gv g p (pt a)):PtM g (pt a)/\a.2=(q05 g p.1 p.2).1/\(q05 g p.1 p.2).2=true/\q3n g (nd g p.1)=q0s g (nd g a.1)/\(a.1<=p.1->(nd g p.1).Kind=12)/\p.1<g.al.length/\ok p.2/\p.2.D=(lev g p.1:Int)/\
 ∃e∈g.aw,e.aO=(p.1:Int)/\e.To=(a.1:Int):=by
 obtain⟨c,_⟩:=fc hG hp h;obtain⟨n,e,f,d,b⟩:=h;simp only[pt,ah.mk.injEq]at b;obtain⟨_,_,_,_,j,k,_⟩:=hG.ed.at f;have l:ndI g e.aO=nd g p.1:=by rw[d];unfold ndI;rw[Xf]
 have o:ndI g e.To=nd g a.1:=by rw[<-b.1];unfold ndI;rw[Xf]
 rw[l,o]at j;rw[l]at k;obtain⟨q,s,t⟩:=bm (m:=p.1) (v:=p.2) hp;exact⟨c,b.2,n,j,λh=>k (by rw[d,<-b.1];omega),q,s,t,e,f,d,b.1.symm⟩
theorem js3{a to:Nat}{sc:Int}(Q:Blk g a to sc){u j:af}(t:ok u)(R:2<=u.D)(hD:u.D=(dep g sc:Int))(H:bS u j)(hd:j.D=u.D)(n:ok j){p x:Nat×af}(hp:PtM g (pt p))(S:a<=p.1)(T:p.1<to)(k:under j p.2)
 (w:ok x.2->under u x.2\/((nd g x.1).Kind=10/\(nd g x.1).Scope=sc/\x.2=q3o u)):X g p x:=by
 refine⟨λI=>?_,λ⟨U,V,hle⟩=>?_⟩
 .
  obtain⟨y,b,l,W,_,z,o,J,e,Y,K,L⟩:=z9e hG hp I;obtain⟨_,d,_⟩:=bm (m:=x.1) (v:=x.2) y;have w:=w d;obtain⟨Z,r1,r2⟩:=aQ hG z;have M:x.2.D<=u.D-1\/under u x.2:=by
   rcases w with h|⟨_,_,h⟩
   . exact .inr h
   left
   rw[h]at d⊢;obtain⟨_,_,k3⟩:=qf7 d;rw[k3,z9b t (by omega)];omega
  have q:bS u x.2->False:=λA=>by
   rcases M with h|h
   . have:=A.1;omega
   exact qw7 t h A
  by_cases f:j.D<p.2.D\/(nd g p.1).Kind=10
  . have:=za1 hG z o l n k f;rw[<-b]at this;exact q (z4y t H hd this)
  have B:(nd g p.1).Kind≠10:=λh=>f (.inr h);have C:p.2=j:=z6a n o k (by have:=k.1;omega);have N:(nd g p.1).Scope=sc:=Xd λO=>by
   have E:lev g p.1=dep g (nd g p.1).Scope:=by unfold lev q0s;rw[if_neg B]
   have:=j7d hG Z r1 (Q.inn p.1 S T) (Ne.symm O);rw[C]at J;omega
  rw[C]at l b
  by_cases s:(nd g p.1).Kind=11
  .
   rw[bN s]at l b
   split at l
   .
    rename_i c
    rw[if_pos c]at b;have b:x.2=leT j:=b;rcases w with h|⟨k1,k2,_⟩
    . have:=h.1;rw[b,z9b n (by omega)]at this;omega
    obtain⟨P,_,_⟩:=bm (m:=x.1) (v:=x.2) y;refine hG.ag x.1 P ⟨k1,?_⟩;have E:leaves g (nd g x.1).Scope e.aO=true:=by
     unfold leaves;rw[K];unfold ndI;rw[Xf,s,N,k2];simp
    rw[<-L];exact .fS e Y E
   cases l
  by_cases G:(nd g p.1).Kind=12
  .
   rw[bz G]at l b
   split at l
   .
    rename_i c
    rw[if_pos c]at b;have b:x.2=nxT j:=b;exact q (by rw[b];exact (z8e t R H hd).1)
   cases l
  rw[cg B s G]at b;have b:x.2=j:=b;exact q (by rw[b];exact H)
 obtain⟨o,d,a6,l0,l1,l2,l3⟩:=hle;have ao:=cL t;rcases w d with h|⟨k1,_,_⟩
 .
  obtain⟨_,b0,b1,b2,b3,b4,b5,b6⟩:=z4y t H hd k;obtain⟨_,c0,c1,c2,c3⟩:=h;rcases (by omega:u.D=2\/u.D=3\/u.D=4)with e|e|e
  . have:=b4 e;have:=c1 (by omega);omega
  . have:=b5 e;have:=c2 (by omega);omega
  have:=b6 e;have:=c3 (by omega);omega
 rw[<-U]at k1;omega
theorem j5w{d:Nat}{a to:Nat}{sc:Int}(p:Blk g a to sc)(hd:g.ae.length-sc.toNat<=d){u:af}(f:ok u)(z:u.D=(dep g sc:Int)){n:Nat}(A:a<=n)(k:n<to)(b:(nd g n).Kind=10)(j:(nd g n).Scope=sc):(n,q3o u)∈sched g d a to sc u:=by
 have l:n<g.al.length:=by have:=p.le;omega
 obtain⟨q,s,B⟩:=aQ hG l;have t:=B (.inl b);rw[j]at t q s;obtain⟨C,E,I,J⟩:=(bb hG q s).2.2 t;have w:q3o u=leT u:=by unfold q3o;rw[if_pos ⟨f,by omega⟩]
 have m:lev g n=dep g (g.ae.getD sc.toNat 0):=by unfold lev q0s;rw[if_pos b,j]
 have o:q0s g (nd g n)=g.ae.getD sc.toNat 0:=by unfold q0s;rw[if_pos b,j]
 refine z7u hG d p hd f z A k (by rw[w];exact zy3 f (by omega)) (by rw[w,z9b f (by omega),m];omega) (.inr ⟨b,j,rfl⟩) λc y G=>?_;rw[o]at y;have:=(bF hG C E y).2;have H:g.ae.getD sc.toNat 0<sc:=by
  have e:=hG.sc sc.toNat (by omega);unfold sOk at e;rw[if_neg (by omega)]at e;simp only[Xy,decide_eq_true_eq]at e;omega
 omega
theorem j2p{d:Nat}{a to:Nat}{sc:Int}(C:Blk g a to sc)(hd:g.ae.length-sc.toNat<=d)(E:∀u,ok u->u.D=(dep g sc:Int)->Bf g (sched g d a to sc u)):
 ∀(k:Nat) (u:af),ok u->u.D=(dep g sc:Int)->2<=u.D->bj u+k<=64->Bf g (q8n (sched g d a to sc) k u)
 |0,_,_,_,_,_=>Bf.nil g
 |k+1,u,c,z,l,j=>by
  unfold q8n;have n:q95 u=64:=by unfold q95;rw[if_neg (by omega)]
  cases k with
  |zero=>unfold q8n;rw[Xx];exact E u c z
  |succ k=>
  have G:=z5m c (by rw[n];omega);have I:q9q u=nxT u:=by unfold q9q;rw[if_pos ⟨c,by rw[n];omega⟩]
  have J:=z6m c;obtain⟨a1,a2⟩:=eV c l;rw[I];refine Bf.app (E u c z) (j2p C hd E (k+1) (nxT u) G (by omega) (by omega) (by omega)) λp hp K o x P=>?_;obtain⟨R,L,S⟩:=bm (m:=p.1) (v:=p.2) o;have s:∃b,ok b/\bS u b/\b.D=u.D/\a<=p.1/\p.1<to/\(under b p.2\/((nd g p.1).Kind=10/\(nd g p.1).Scope=sc/\p.2=q3o b)):=by
   refine qa9 (H:=λb=>ok b->bS u b/\b.D=u.D) (Q:=λp=>ok p.2->∃b,ok b/\bS u b/\b.D=u.D/\a<=p.1/\p.1<to/\(under b p.2\/((nd g p.1).Kind=10/\(nd g p.1).Scope=sc/\p.2=q3o b))) (λb e j=>?_) (λb e q T j=>?_) (k+1) (nxT u) (λ_=>⟨z2q c l (q8r _),J⟩) p hp L
   . obtain⟨k1,k2,M⟩:=z6l j;obtain⟨N,O⟩:=e k1;rw[M];exact z8e c l N O
   obtain⟨A,B,t⟩:=q6q d a to sc b q T;obtain⟨k1,k2⟩:=t j;obtain⟨N,O⟩:=e k1;exact⟨b,k1,N,O,A,B,k2⟩
  obtain⟨b,f,w,y,A,B,t⟩:=s;obtain⟨W,X,U⟩:=q6q d a to sc u x P;rcases t with t|⟨k1,k2,M⟩
  . exact js3 hG C c l z w y f o A B t λj=>(U j).2
  refine absurd ?_ K;have V:q3o b=q3o u:=by
   unfold q3o;rw[if_pos ⟨f,by omega⟩,if_pos ⟨c,by omega⟩];exact zz9 c f l w y
  have:=j5w hG C hd c z A B k1 k2;rw[<-V,<-M]at this;exact this
theorem zb7{d:Nat}(hr:∀{a to:Nat} {sc:Int},Blk g a to sc->g.ae.length-sc.toNat<=d->∀t,ok t->t.D=(dep g sc:Int)->Bf g (sched g d a to sc t)){a to:Nat}{sc:Int}(z:Blk g a to sc)(hd:g.ae.length-sc.toNat<=d+1){t:af}(K:ok t)(hD:t.D=(dep g sc:Int)):
 ∀(f n:Nat),to-n<=f->a<=n->n<=to->(n<to->At g a n sc)->(∀q∈q7g g (sched g d) to sc t f n,n<=q.1/\q.1<to/\(ok q.2->ok t/\(under t q.2\/((nd g q.1).Kind=10/\(nd g q.1).Scope=sc/\q.2=q3o t))))->Bf g (q7g g (sched g d) to sc t f n)
 |0,n,_,_,_,_,_=>Bf.nil g
 |f+1,n,hf,L,bk,hA,Z=>by
  have bs:=z.le;have own:∀p:Nat×af,PtM g (pt p)->a<=p.1->p.1<to->(under t p.2\/((nd g p.1).Kind=10/\(nd g p.1).Scope=sc/\p.2=q3o t))->(nd g p.1).Kind=12->(nd g p.1).Scope=sc->p.2=t/\2<=t.D:=λp hp pa pb h o A=>by
   obtain⟨M,C,a6⟩:=bm (m:=p.1) (v:=p.2) hp;obtain⟨r0,r1,r2⟩:=aQ hG M;have c7:lev g p.1=dep g sc:=by unfold lev q0s;rw[if_neg (by omega),A]
   have h5:=((bb hG r0 r1).2.2 (r2 (by omega))).2.2.2;rw[A]at h5;exact⟨z6a K C (h.resolve_right λk=>by omega) (by omega),by omega⟩
  have Q:∀p x:Nat×af,PtM g (pt p)->gv g p (pt x)->p.2=t->(nd g p.1).Kind=12->x.2=nxT t:=λp x hp h he o=>by
   obtain⟨_,w,hf,_⟩:=z9e hG hp h;rw[he]at hf w;rw[bz o]at hf w
   split at hf
   . rename_i c;rw[if_pos c]at w;exact w
   cases hf
  have ao:2<=t.D->∀v,under t v->v≠nxT t:=λh2 v hv e=>qw7 K hv (by rw[e];exact z2q K h2 (q8r _));unfold q7g at Z⊢
  by_cases J:n<to
  .
   rw[if_pos J]at Z⊢;have ar:n<g.al.length:=by omega
   obtain⟨k0,k1,_⟩:=aQ hG ar
   by_cases A:(nd g n).Scope≠sc
   .
    rw[if_pos A]at Z⊢;obtain⟨b0,hz,c8⟩:=child hG z L J (hA J) A;have G:=bQ hG k0 k1;have S:=z9h (g:=g) J G;obtain⟨_,bv,T,N⟩:=qc0 g (nd g n).Scope to (to-n) n bk;have N:=N (Xi _);obtain⟨b1,b2⟩:=dR hG k0 k1
    generalize q9i g (nd g n).Scope to (to-n) n=E at*
    have b3:Blk g n E (nd g n).Scope:=⟨S,by omega,k0,k1,rfl,T⟩;have c6:=bF hG k0 k1 (z.inn n L J);have b4:g.ae.length-(nd g n).Scope.toNat<=d:=by omega
    have h4:=(bb hG k0 k1).2.1;have U:t.D≠4:=by omega
    have c1:q5v t=enT t:=by unfold q5v;rw[if_pos ⟨K,U⟩]
    obtain⟨l1,l2⟩:=zt6 K U;have c9:=K.1;have cb:(enT t).D=t.D+1:=rfl;have b5:∀p∈q8n (sched g d n E (nd g n).Scope) (bnd g (nd g n).Scope).toNat (q5v t),n<=p.1/\p.1<E/\(ok p.2->under t p.2):=by
     refine qa9 (H:=λu=>ok u->ok t/\under t u/\t.D<u.D) (λu hu=>zm0 hu) (λu hu q V=>?_) _ _ (zc4 t);obtain⟨m1,m2,m3⟩:=q6q d _ _ _ u q V;refine⟨m1,m2,λR=>?_⟩;obtain⟨k1,k2⟩:=m3 R;obtain⟨u1,u2,u3⟩:=hu k1;rcases k2 with k2|⟨_,_,k2⟩
     . exact z0v u2 k2
     rw[k2]at R⊢;obtain⟨_,_,k3⟩:=qf7 R;rw[k3];exact (qp1 u1 k1 u2 u3).1
    have l:∀q∈q7g g (sched g d) to sc t f E,E<=q.1/\q.1<to/\(ok q.2->ok t/\(under t q.2\/((nd g q.1).Kind=10/\(nd g q.1).Scope=sc/\q.2=q3o t))):=λq V=>by
     obtain⟨q1,q2,q3⟩:=Z q (Ya _ V);exact⟨z3s g (sched g d) to sc t (λa b c u p hp=>(q6q d a b c u p hp).1) f E q V,q2,q3⟩
    refine Bf.app ?_ (zb7 hr z hd K hD f E (by omega) (by omega) bv (λh=>j14 hG z L J A (hA J) h S T (N h)) l) λp hp cc y x hx=>?_
    . rw[c1];exact j2p hG b3 b4 (λu h1 h2=>hr b3 b4 u h1 h2) _ _ (z3a K U) (by omega) (by omega) (by omega)
    obtain⟨p1,p2,p3⟩:=l p hp;obtain⟨x1,x2,x3⟩:=b5 x hx;refine⟨λI=>?_,λh=>by omega⟩;obtain⟨b6,w,c2,j,R,M,C,a6,_⟩:=z9e hG y I;obtain⟨c4,c5,_⟩:=bm (m:=x.1) (v:=x.2) b6;have o:=R (by omega);have W:q3n g (nd g p.1)=(nd g p.1).Scope:=by unfold q3n;rw[if_neg (by omega)]
    rw[W]at j;have bc:=T x.1 x1 x2;obtain⟨y0,y1,_⟩:=aQ hG c4;have O:(nd g p.1).Scope=sc\/(nd g n).Scope∈anc g.ae (nd g p.1).Scope:=by
     rw[j];unfold q0s
     split
     .
      by_cases B:(nd g x.1).Scope=(nd g n).Scope
      . left;rw[B,b0]
      exact .inr (cJ hG y0 y1 bc λe=>B e.symm).2
     exact .inr bc
    rcases O with B|B
    . obtain⟨e1,e2⟩:=own p y (by omega) p2 (p3 C).2 o B;exact ao e2 x.2 (x3 c5) (Q p x y I e1 o)
    exact beyond hG bs S G N p1 p2 B
   rw[if_neg A]at Z⊢;have A:(nd g n).Scope=sc:=by simpa using A
   have l:∀q∈q7g g (sched g d) to sc t f (n+1),n+1<=q.1/\q.1<to/\(ok q.2->ok t/\(under t q.2\/((nd g q.1).Kind=10/\(nd g q.1).Scope=sc/\q.2=q3o t))):=λq V=>by
    obtain⟨q1,q2,q3⟩:=Z q (Ye _ V);exact⟨z3s g (sched g d) to sc t (λa b c u p hp=>(q6q d a b c u p hp).1) f (n+1) q V,q2,q3⟩
   refine Bf.cons (zb7 hr z hd K hD f (n+1) (by omega) (by omega) J (λh=>at_one hG z L h A (hA J)) l) λp hp cd y=>?_;obtain⟨p1,p2,p3⟩:=l p hp;refine⟨λI=>?_,λh=>by have:=h.1;dsimp only at this;omega⟩;obtain⟨b6,w,c2,j,R,M,C,a6,_⟩:=z9e hG y I;dsimp only at w j R;have o:=R (by omega);have W:q3n g (nd g p.1)=(nd g p.1).Scope:=by unfold q3n;rw[if_neg (by omega)]
   rw[W]at j;obtain⟨z0,z1,z2⟩:=aQ hG M
   by_cases P:(nd g n).Kind=10
   .
    have X:q0s g (nd g n)=g.ae.getD sc.toNat 0:=by unfold q0s;rw[if_pos P,A]
    rw[X]at j;have bi:=z.inn p.1 (by omega) p2;rw[j]at bi;obtain⟨_,_,w2⟩:=aQ hG ar;have hz:=w2 (.inl P);rw[A]at hz;have Y:=hG.sc sc.toNat (by have:=z.s0;have:=z.s1;omega);unfold sOk at Y;rw[if_neg (by have:=z.s0;omega)]at Y;simp only[Xy,decide_eq_true_eq]at Y;have cp:=z.s0;have cs:=z.s1;have:=(bF hG (s:=g.ae.getD sc.toNat 0) (by omega) (by omega) bi).2;omega
   have X:q0s g (nd g n)=sc:=by unfold q0s;rw[if_neg P,A]
   rw[X]at j;obtain⟨e1,e2⟩:=own p y (by omega) p2 (p3 C).2 o j;have hb:=Q p _ y I e1 o;dsimp only[atA]at hb;rw[if_neg P]at hb;exact ao e2 t (q8r t) hb
  rw[if_neg J];exact Bf.nil g
theorem zw6:∀(d:Nat) {a to:Nat} {sc:Int},Blk g a to sc->g.ae.length-sc.toNat<=d->∀t,ok t->t.D=(dep g sc:Int)->Bf g (sched g d a to sc t)
 |0,a,to,sc,b,hd,_,_,_=>by have:=b.s0;have:=b.s1;omega
 |d+1,a,to,sc,b,hd,t,e,f=>by
  have c:=q6q (g:=g) (d+1) a to sc t;unfold sched at c⊢;exact zb7 hG (zw6 d) b hd e f (to-a) a (Xi _) (Xi _) (Nat.le_of_lt b.lt) (λ_ m j k=>by omega) c
end
end MN
end
section
open Go Go.RowKit TS VA
namespace UN
open Classical
theorem fQ(a b:ax):((a.Node==b.Node)&&((a.Time.D==b.Time.D)&&((a.Time.C.a0==b.Time.C.a0)&&((a.Time.C.a1==b.Time.C.a1)&&((a.Time.C.a2==b.Time.C.a2)&&(a.Time.C.a3==b.Time.C.a3))))))=decide (a=b):=by
 rw[teq,Bool.eq_iff_iff];simp only[Xy,beq_iff_eq,decide_eq_true_eq]
 constructor
 . rintro⟨c,d⟩;obtain⟨n,t⟩:=a;obtain⟨m,q⟩:=b;simp only at c d;subst c d;rfl
 rintro rfl;exact⟨rfl,rfl⟩
end UN
end
section
open Go Go.RowKit VA
namespace HP
def pad(l:List Int):bq Int:=⟨l.getD 0 0,l.getD 1 0,l.getD 2 0,l.getD 3 0⟩
def mk(F:Int)(k:Nat)(xs:List Int):aH:=⟨F,k,((xs.length-k:Nat):Int),pad (xs.take k),pad (xs.drop k)⟩
theorem zy9(F:Int)(k:Nat)(xs:List Int):(mk F k xs).aO=F:=rfl
theorem qv6(F:Int)(k:Nat)(xs:List Int):(mk F k xs).br=(k:Int):=rfl
theorem z8c(F:Int)(k:Nat)(xs:List Int):(mk F k xs).bL=((xs.length-k:Nat):Int):=rfl
def Sm(x:Int):Prop:=0<=x/\x<=1048576
instance (x:Int):Decidable (Sm x):=inferInstanceAs (Decidable (_/\_))
structure Rh(F:Int)(k:Nat)(xs:List Int):Prop where
 f0:1<=F
 f1:F<=4
 kf:(k:Int)<=F
 kl:k<=xs.length
 l0:1<=xs.length
 l1:xs.length<=4
 sm:∀x∈xs,Sm x
theorem qp4{l:List Int}{i:Nat}(hi:i<4):idx [(pad l).a0,(pad l).a1,(pad l).a2,(pad l).a3] (i:Int)=some (l.getD i 0):=by
 rcases (by omega:i=0\/i=1\/i=2\/i=3)with rfl|rfl|rfl|rfl<;>rfl
theorem z97{l:List Int}{x:Int}(a:l.length<4):(⟨if l.length=0 then x else (pad l).a0,if l.length=1 then x else (pad l).a1,if l.length=2 then x else (pad l).a2,if l.length=3 then x else (pad l).a3⟩:bq Int)=pad (l++[x]):=by
 match l,a with
 |[],_=>rfl
 |[_],_=>rfl
 |[_,_],_=>rfl
 |[_,_,_],_=>rfl
theorem cq{l:List Int}(h:∀x∈l,Sm x)(i:Nat):Sm (l.getD i 0):=by
 rw[Xe]
 by_cases hi:i<l.length
 . rw[X0 hi];exact h _ (Xg hi)
 rw[Yb (by omega)];exact⟨by decide,by decide⟩
theorem aW{l:List Int}{i:Nat}(hi:i<l.length):l.getD i 0=l[i]:=by rw[Xe,X0 hi];rfl
theorem z3q{l:List Int}(n:l.length<=4):q86 (pad l) (l.length:Int)=some (decide (∀x∈l,Sm x)):=by
 unfold q86;refine k2k (k2l (l:=[(0:Int),0,0,0]) (by decide) (λi=>∀j<i,Sm (l.getD j 0)) 0 (λrec i hi _ b d=>?_) (λrec b=>?_) (λj c=>by omega) (Xn _))
 .
  have hi:i<4:=hi;unfold ql7;rw[if_pos (by simp;omega)];refine Ok.bind (Ok.of_eq (qp4 hi) ?_);refine k2h (λh=>Ok.some ?_) (λh=>?_)
  .
   symm;rw[decide_eq_false_iff_not]
   intro e;have a:=cq e i;unfold Sm at a;have f:(l.length:Int)<=i->l.getD i 0=0:=λh=>by rw[Xe,Yb (by omega)];rfl
   simp only[Yi,Xy,decide_eq_true_eq,Yk,beq_eq_false_iff_ne,ne_eq]at h;rcases h with (h|h)|⟨h,g⟩
   . omega
   . omega
   exact g (f h)
  simp only[Xo,decide_eq_false_iff_not]at h;have k:IntKind.i64.wrap ((i:Int)+1)=((i+1:Nat):Int):=iw hi (by omega);rw[k];refine d λj c=>?_;rcases Yl j i with a|a
  . exact b j a
  obtain rfl:j=i:=by omega
  unfold Sm;omega
 unfold ql7;rw[if_neg (by simp)];refine Ok.some ?_
 symm;rw[decide_eq_true_eq]
 intro x m;obtain⟨j,c,rfl⟩:=Xs.1 m;have:=b j (by simp;omega)
 rwa [aW c]at this
theorem z3g{F:Int}{k:Nat}{xs:List Int}(a:k<=xs.length)(b:xs.length<=4):q6g (mk F k xs)=some (xs.length:Int):=by
 unfold q6g mk;dsimp only;rw[wrap_i64 _ (by omega)]
 congr 1;omega
open Classical in
theorem bg{F:Int}{k:Nat}{xs:List Int}(o:k<=xs.length)(s:xs.length<=4):q4b (mk F k xs)=some (decide (Rh F k xs)):=by
 unfold q4b;refine k2k ?_
 show Ok (if (((((decide (F<1)||decide (4<F))||decide ((k:Int)<0))||decide (F<(k:Int)))||decide (((xs.length-k:Nat):Int)<0))||decide (4<((xs.length-k:Nat):Int)))=true then some false else _) _
 refine k2h (λh=>Ok.some ?_) (λh=>?_)
 .
  symm;rw[decide_eq_false_iff_not]
  rintro⟨a,b,c,d,e,f,_⟩;simp only[zy9,qv6,z8c,Yi,decide_eq_true_eq]at h;omega
 simp only[zy9,qv6,z8c,Xo,decide_eq_false_iff_not]at h;rw[z3g o s];refine Ok.bind (Ok.some (k2h (λp=>Ok.bind (Ok.some (k2h (λq=>?_) (λq=>?_)))) (λp=>Ok.some ?_)))
 .
  have t:q86 (mk F k xs).Add (mk F k xs).br=some (decide (∀x∈xs.take k,Sm x)):=by
   have:=z3q (l:=xs.take k) (by rw[Xb];omega);rw[Xb,Yc o]at this;exact this
  have u:q86 (mk F k xs).T (mk F k xs).bL=some (decide (∀x∈xs.drop k,Sm x)):=by
   have:=z3q (l:=xs.drop k) (by rw[Xk];omega);rw[Xk]at this;exact this
  rw[t,u];simp only[decide_eq_true_eq]at p q;have g:(∀x∈xs,Sm x)↔(∀x∈xs.take k,Sm x)/\∀x∈xs.drop k,Sm x:=by
   constructor
   . intro h;exact⟨λx j=>h x (Ze j),λx j=>h x (List.mem_of_mem_drop j)⟩
   rintro⟨w,hb⟩ x j;rw[<-X9 k xs]at j;rcases Xj.1 j with j|j
   . exact w x j
   exact hb x j
  refine Ok.bind (Ok.some (k2h (λn=>Ok.bind (Ok.some (Ok.some ?_))) (λn=>Ok.some ?_)))
  .
   rw[decide_eq_decide];simp only[decide_eq_true_eq]at n
   constructor
   . intro m;exact⟨by omega,by omega,by omega,o,by omega,s,g.2 ⟨n,m⟩⟩
   intro m;exact (g.1 m.sm).2
  symm;rw[decide_eq_false_iff_not]
  simp only[decide_eq_false_iff_not]at n;exact λm=>n (g.1 m.sm).1
 . simp only[decide_eq_false_iff_not]at q;omega
 symm;rw[decide_eq_false_iff_not]
 simp only[decide_eq_false_iff_not]at p;intro m;have:=m.l0;omega
theorem q9o{F:Int}{k:Nat}{xs:List Int}(h:Rh F k xs):q4b (mk F k xs)=some true:=by
 rw[bg h.kl h.l1];simp[h]
theorem at_eq{F:Int}{k:Nat}{xs:List Int}(h:Rh F k xs){i:Nat}(hi:i<xs.length):z0q (mk F k xs) (i:Int)=some (xs[i],decide (i<k)):=by
 have c:=h.l1;have d:=h.kl;unfold z0q;refine k2k ?_
 show Ok (if decide ((i:Int)<(k:Int))=true then _ else _) _
 refine k2h (λa=>?_) (λa=>?_)
 . simp only[qv6,decide_eq_true_eq]at a;refine Ok.guard (by omega) (Ok.bind (Ok.of_eq (qp4 (l:=xs.take k) (i:=i) (by omega)) (Ok.some ?_)));rw[aW (by rw[Xb];omega),X3];rw[decide_eq_true (show i<k by omega)]
 simp only[qv6,decide_eq_false_iff_not]at a;have b:IntKind.i64.wrap ((i:Int)-(mk F k xs).br)=((i-k:Nat):Int):=by
  show IntKind.i64.wrap ((i:Int)-k)=_
  rw[wrap_i64 _ (by omega)];omega
 rw[b];refine Ok.guard (by omega) (Ok.bind (Ok.of_eq (qp4 (l:=xs.drop k) (i:=i-k) (by omega)) (Ok.some ?_)));rw[aW (by rw[Xk];omega),Zn];rw[decide_eq_false (show ¬i<k by omega)];simp only[Nat.add_sub_cancel' (show k<=i by omega)]
def le(k:Nat)(xs:List Int)(k':Nat)(ys:List Int):Prop:=k<=k'/\∀i (h:i<xs.length) (a:i<ys.length),xs[i]<=ys[i]
open Classical in
theorem jf8{F:Int}{k k':Nat}{xs ys:List Int}(h:Rh F k xs)(c:Rh F k' ys)(n:xs.length=ys.length):z0r (mk F k xs) (mk F k' ys)=some (decide (le k xs k' ys)):=by
 have o:=h.l1;unfold z0r;rw[q9o h,q9o c];refine k2k (Ok.bind (Ok.some ?_));rw[if_pos rfl];refine Ok.bind (Ok.some ?_);rw[if_neg (by simp[mk]),z3g h.kl h.l1,z3g c.kl c.l1];refine Ok.bind (Ok.some (Ok.bind (Ok.some ?_)));rw[if_neg (by simp[n])];refine Ok.bind (Ok.some ?_);refine k2l (l:=xs) (by omega) (λi=>∀j (h:j<xs.length) (c:j<ys.length),j<i->(j<k->j<k')/\xs[j]<=ys[j]) 0 (λrec i hi _ d p=>?_) (λrec d=>?_) (λj _ _ q=>by omega) (Xn _)
 .
  unfold z11;rw[if_pos (by simp;omega)];have hi':i<ys.length:=by omega
  rw[at_eq h hi,at_eq c hi',iw hi (by omega)];refine Ok.bind (Ok.some (Ok.bind (Ok.some (k2h (λf=>Ok.some ?_) (λf=>p λj e g q=>?_)))))
  .
   symm;rw[decide_eq_false_iff_not]
   rintro⟨a,b⟩;have:=b i hi hi';simp only[Yi,Xy,decide_eq_true_eq,Yk,decide_eq_false_iff_not]at f;omega
  rcases Yl j i with m|m
  . exact d j e g m
  obtain rfl:j=i:=by omega
  simp only[Xo,Bool.and_eq_false_iff,decide_eq_false_iff_not,Zj,decide_eq_true_eq]at f;exact⟨λw=>by omega,by omega⟩
 unfold z11;rw[if_neg (by simp)];refine Ok.some ?_
 symm;rw[decide_eq_true_eq]
 refine⟨?_,λi e g=>(d i e g e).2⟩
 by_cases s:k<=k'
 . exact s
 have t:=h.kl;have u:=c.kl;have:=(d k' (by omega) (by omega) (by omega)).1 (by omega);omega
theorem le_refl(k:Nat)(xs:List Int):le k xs k xs:=⟨Xi _,λ_ _ _=>Xv _⟩
theorem le_trans{k1 k2 e:Nat}{c d f:List Int}(j:c.length=d.length)(a:le k1 c k2 d)(b:le k2 d e f):le k1 c e f:=⟨Y4 a.1 b.1,λi h g=>Ys (a.2 i h (by omega)) (b.2 i (by omega) g)⟩
end HP
end
section
open Go Go.RowKit VA
namespace HP
def su(xs ys:List Int)(a:Nat):List Int:=List.zipWith (· +·) (xs.take a) (ys.take a)
def th(xs ys:List Int)(a:Nat):List Int:=su xs ys a++ys.drop a
theorem qx8{xs ys:List Int}{a:Nat}(b:a<=xs.length)(c:a<=ys.length):(su xs ys a).length=a:=by
 unfold su;rw[List.length_zipWith,Xb,Xb];omega
theorem zw0{xs ys:List Int}{a i:Nat}(b:a<=xs.length)(c:a<=ys.length)(hi:i<a):(su xs ys a)[i]'(by rw[qx8 b c];exact hi)=xs[i]+ys[i]:=by
 unfold su;rw[List.getElem_zipWith,X3,X3]
theorem snoc{α:Type}{l:List α}{i:Nat}(h:i<l.length):l.take (i+1)=l.take i++[l[i]]:=Xr h
def none:aH:=⟨0,0,0,⟨0,0,0,0⟩,⟨0,0,0,0⟩⟩
open Classical in
theorem jn1{F n:Int}{k a:Nat}{xs ys:List Int}(s:Rh F k xs)(hb:Rh n a ys)(R:n=(xs.length:Int)):
 qq2 (mk F k xs) (mk n a ys)=some (if Rh F (min k a) (th xs ys a)then (mk F (min k a) (th xs ys a),true)else (none,false)):=by
 have S:=s.l1;have U:=hb.l1;have V:=s.kl;have t:=hb.kl;have W:=hb.kf;have f:a<=xs.length:=by omega
 have u:=qx8 f t;unfold qq2;rw[q9o s,q9o hb];refine k2k (Ok.bind (Ok.some ?_));rw[if_pos rfl];refine Ok.bind (Ok.some ?_);rw[if_pos rfl,z3g s.kl s.l1];refine Ok.bind (Ok.some ?_);rw[if_neg (by simp[zy9,R])];have w:min (k:Int) (a:Int)=((min k a:Nat):Int):=by omega
 have m:(⟨(mk F k xs).aO,min (mk F k xs).br (mk n a ys).br,0,⟨0,0,0,0⟩,⟨0,0,0,0⟩⟩:aH)=⟨F,((min k a:Nat):Int),((0-k:Nat):Int),pad (((su xs ys a).take 0).take k),pad (((su xs ys a).take 0).drop k)⟩:=by
  rw[zy9,qv6,qv6,w];simp[pad]
 rw[m];refine dm (l:=Xa a (0:Int)) (by simp;omega) (λi (b:aH)=>(i,b)) (λp=>p.1) (λ_ _=>rfl)
  (λi b=>b=⟨F,((min k a:Nat):Int),((i-k:Nat):Int),pad (((su xs ys a).take i).take k),pad (((su xs ys a).take i).drop k)⟩) 0 (λrec i hi b _ o E=>?_) (λrec b o=>?_) rfl (Xn _)
 .
  have hi:i<a:=by simpa using hi
  subst o;have y:i<(su xs ys a).length:=by omega
  have H:=zw0 f t hi;have I:=s.sm _ (Xg (show i<xs.length by omega));have J:=hb.sm _ (Xg (show i<ys.length by omega));have g:IntKind.i64.wrap (xs[i]+ys[i])=(su xs ys a)[i]:=by rw[H,wrap_i64 _ (by unfold Sm at I J;omega)]
  have K:IntKind.i64.wrap ((i:Int)+1)=((i+1:Nat):Int):=iw hi (by omega);have z:idx [(mk n a ys).Add.a0,(mk n a ys).Add.a1,(mk n a ys).Add.a2,(mk n a ys).Add.a3] (i:Int)=some ys[i]:=by
   have:=qp4 (l:=ys.take a) (i:=i) (by omega);rw[aW (by rw[Xb];omega),X3]at this;exact this
  unfold qu4;dsimp only;rw[if_pos (by rw[qv6];simp;omega),K]
  by_cases X:i<k
  .
   rw[if_pos (by rw[qv6];simp;omega)];have q:idx [(mk F k xs).Add.a0,(mk F k xs).Add.a1,(mk F k xs).Add.a2,(mk F k xs).Add.a3] (i:Int)=some xs[i]:=by
    have:=qp4 (l:=xs.take k) (i:=i) (by omega);rw[aW (by rw[Xb];omega),X3]at this;exact this
   rw[q];refine Ok.guard (by omega) (Ok.bind (Ok.some (Ok.guard (by omega) ?_)));rw[z];refine Ok.bind (Ok.some (Ok.guard (by omega) (Ok.bind (Ok.some (Ok.bind (Ok.some (Ok.bind (Ok.some (Ok.bind (Ok.some (E _ ?_)))))))))));have d:(((su xs ys a).take i).take k).length=i:=by rw[Xb,Xb];omega
   have c:=z97 (l:=((su xs ys a).take i).take k) (x:=(su xs ys a)[i]) (by omega);rw[d]at c;rw[Xf,g,c];have A:((su xs ys a).take (i+1)).take k=((su xs ys a).take i).take k++[(su xs ys a)[i]]:=by
    rw[Xm (l:=(su xs ys a).take (i+1)) (by rw[Xb];omega),Xm (l:=(su xs ys a).take i) (by rw[Xb];omega),snoc y]
   have B:((su xs ys a).take (i+1)).drop k=((su xs ys a).take i).drop k:=by
    rw[X8 (by rw[Xb];omega),X8 (by rw[Xb];omega)]
   rw[A,B]
   congr 1
   omega
  rw[if_neg (by rw[qv6];simp;omega)];have L:IntKind.i64.wrap ((i:Int)-(mk F k xs).br)=((i-k:Nat):Int):=by rw[qv6,wrap_i64 _ (by omega)];omega
  have q:idx [(mk F k xs).T.a0,(mk F k xs).T.a1,(mk F k xs).T.a2,(mk F k xs).T.a3] ((i-k:Nat):Int)=some xs[i]:=by
   have:=qp4 (l:=xs.drop k) (i:=i-k) (by omega);rw[aW (by rw[Xk];omega),Zn]at this;rw[show xs[i]=xs[k+(i-k)]'(by omega) by congr 1;omega];exact this
  rw[L,q];refine Ok.guard (by omega) (Ok.bind (Ok.some (Ok.guard (by omega) ?_)));rw[z];refine Ok.bind (Ok.some (Ok.guard (by omega) (Ok.bind (Ok.some (Ok.bind (Ok.some (Ok.bind (Ok.some (Ok.bind (Ok.some (E _ ?_)))))))))));have d:(((su xs ys a).take i).drop k).length=i-k:=by rw[Xk,Xb];omega
  have c:=z97 (l:=((su xs ys a).take i).drop k) (x:=(su xs ys a)[i]) (by omega);rw[d]at c;rw[Xf,g,c];have A:((su xs ys a).take (i+1)).take k=((su xs ys a).take i).take k:=by
   rw[List.take_take,List.take_take,Yc (by omega),Yc (by omega)]
  have B:((su xs ys a).take (i+1)).drop k=((su xs ys a).take i).drop k++[(su xs ys a)[i]]:=by
   rw[snoc y,Yj (by rw[Xb];omega)]
  have M:IntKind.i64.wrap (((i-k:Nat):Int)+1)=((i+1-k:Nat):Int):=by rw[wrap_i64 _ (by omega)];omega
  rw[A,B,M]
 subst o;unfold qu4;dsimp only;rw[if_neg (by rw[qv6];simp)];rw[Xp,show (su xs ys a).take a=su xs ys a from Xm (by omega)];unfold qu3;refine Ok.guard (by rw[z8c];omega) ?_;have N:(ys.drop a).length=ys.length-a:=Xk;have e:(⟨F,((min k a:Nat):Int),((a-k:Nat):Int),pad ((su xs ys a).take k),pad ((su xs ys a).drop k)⟩:aH)=⟨F,((min k a:Nat):Int),((a-k+0:Nat):Int),pad ((su xs ys a).take k),pad ((su xs ys a).drop k++(ys.drop a).take 0)⟩:=by simp
 rw[e];refine dm (l:=ys.drop a) (by omega) (λi (b:aH)=>(i,b)) (λp=>p.1) (λ_ _=>rfl)
  (λj b=>b=⟨F,((min k a:Nat):Int),((a-k+j:Nat):Int),pad ((su xs ys a).take k),pad ((su xs ys a).drop k++(ys.drop a).take j)⟩) 0 (λC j O b _ o E=>?_) (λC b o=>?_) rfl (Xn _)
 .
  subst o;have P:IntKind.i64.wrap ((j:Int)+1)=((j+1:Nat):Int):=iw O (by omega);unfold qu5;dsimp only;rw[if_pos (by rw[z8c];simp;omega),P];refine Ok.guard (by rw[z8c];omega) ?_;have Q:idx [(mk n a ys).T.a0,(mk n a ys).T.a1,(mk n a ys).T.a2,(mk n a ys).T.a3] (j:Int)=some (ys.drop a)[j]:=by
   have:=qp4 (l:=ys.drop a) (i:=j) (by omega);rw[aW O]at this;exact this
  rw[Q];refine Ok.bind (Ok.some (Ok.guard (by omega) (Ok.bind (Ok.some (Ok.bind (Ok.some (Ok.bind (Ok.some (Ok.bind (Ok.some (E _ ?_)))))))))));have d:((su xs ys a).drop k++(ys.drop a).take j).length=a-k+j:=by rw[Xc,Xk,Xb];omega
  have c:=z97 (l:=(su xs ys a).drop k++(ys.drop a).take j) (x:=(ys.drop a)[j]) (by omega);rw[d]at c;have M:IntKind.i64.wrap (((a-k+j:Nat):Int)+1)=((a-k+(j+1):Nat):Int):=by rw[wrap_i64 _ (by omega)];omega
  rw[Xf,c,M,snoc O,Xh]
 subst o;unfold qu5;dsimp only;rw[if_neg (by rw[z8c];simp),Xu];unfold qu2;have D:(⟨F,((min k a:Nat):Int),((a-k+(ys.drop a).length:Nat):Int),pad ((su xs ys a).take k),pad ((su xs ys a).drop k++ys.drop a)⟩:aH)=mk F (min k a) (th xs ys a):=by
  unfold mk th;have A:(su xs ys a++ys.drop a).take (min k a)=(su xs ys a).take k:=by
   rw[Yz (by omega)];rcases Nat.le_total k a with h|h
   . rw[Yc h]
   rw[Nat.min_eq_right h,Xm (by omega),Xm (by omega)]
  have B:(su xs ys a++ys.drop a).drop (min k a)=(su xs ys a).drop k++ys.drop a:=by
   rw[Yj (by omega)];rcases Nat.le_total k a with h|h
   . rw[Yc h]
   rw[Nat.min_eq_right h,show (su xs ys a).drop a=[]from X8 (by omega),show (su xs ys a).drop k=[]from X8 (by omega)]
  rw[A,B,Xc,u]
  congr 1
  omega
 rw[D];have Y:(th xs ys a).length=ys.length:=by unfold th;rw[Xc,u,N];omega
 rw[bg (by omega) (by omega)];refine Ok.bind (Ok.some ?_)
 by_cases G:Rh F (min k a) (th xs ys a)
 . rw[if_neg (by simp[G]),if_pos G];exact Ok.some rfl
 rw[if_pos (by simp[G]),if_neg G];exact Ok.some rfl
end HP
end
section
open Go Go.RowKit VA
namespace HP
abbrev Hp:=Nat×List Int
def hle(p q:Hp):Prop:=le p.1 p.2 q.1 q.2
def mkp(F:Int)(p:Hp):aH:=mk F p.1 p.2
def Rp(F:Int)(n:Nat)(p:Hp):Prop:=Rh F p.1 p.2/\p.2.length=n
theorem cu(p:Hp):hle p p:=le_refl _ _
theorem z4b{n:Nat}{a b c:Hp}(d:a.2.length=n)(hb:b.2.length=n)(h:hle a b)(k:hle b c):hle a c:=le_trans (by omega) h k
open Classical in
noncomputable def q8g(L:List Hp)(x:Hp):List Hp×Bool:=if ∃y∈L,hle y x then (L,false)else (L.filter (λy=>!decide (hle x y))++[x],true)
open Classical in
theorem put_eq{F:Int}{n:Nat}{L:List Hp}{x:Hp}(s:∀p∈L,Rp F n p)(d:Rp F n x)(t:L.length<1000000000):qs9 (L.map (mkp F)) (mkp F x)=some ((q8g L x).1.map (mkp F),(q8g L x).2):=by
 unfold qs9;rw[show mkp F x=mk F x.1 x.2 from rfl,q9o d.1];refine k2k (Ok.bind (Ok.some ?_));rw[if_neg (by simp)];refine dm (l:=L) (by omega) (λi (a:List aH)=>(i,a)) (λp=>p.1) (λ_ _=>rfl) (λi a=>(∀y∈L.take i,¬hle y x)/\a=((L.take i).filter (λy=>!decide (hle x y))).map (mkp F)) 0 (λrec i hi a _ k q=>?_) (λrec a k=>?_) ⟨by simp,by simp⟩ (Xn _)
 .
  obtain⟨g,rfl⟩:=k;have j:=s _ (Xg hi);have m:((L.take i).filter (λy=>!decide (hle x y))).length<=i:=by
   refine Y4 (Yu _ _) ?_;rw[Xb];omega
  unfold qq1;dsimp only;rw[if_pos (by simp;omega),iw hi (by omega)];refine Ok.bind (k2i (by simpa using hi) ?_);rw[Yn,show mkp F L[i]=mk F L[i].1 L[i].2 from rfl,jf8 j.1 d.1 (by rw[j.2,d.2])];refine Ok.bind (Ok.some (k2h (λe=>Ok.some ?_) (λe=>?_)))
  . simp only[decide_eq_true_eq]at e;unfold q8g;rw[if_pos ⟨_,Xg hi,e⟩]
  simp only[decide_eq_false_iff_not]at e;have f:∀y∈L.take (i+1),¬hle y x:=by
   intro y c;rw[snoc hi,Xj,Xq]at c;rcases c with c|rfl
   . exact g y c
   exact e
  rw[jf8 d.1 j.1 (by rw[j.2,d.2])];refine Ok.bind (Ok.some (k2h (λo=>?_) (λo=>?_)))
  .
   refine Ok.guard (by rw[Yq];simp;omega) (q _ ⟨f,?_⟩);have b:¬hle x L[i]:=by simpa [hle]using o
   rw[snoc hi,Xz,Yw,X7,Y6,if_pos (by simpa using b)];rfl
  refine q _ ⟨f,?_⟩;have b:hle x L[i]:=by simpa [hle]using o
  rw[snoc hi,Xz,Yw,X7,Y6,if_neg (by simpa using b)];simp
 obtain⟨g,rfl⟩:=k;rw[Xu]at g;have m:(L.filter (λy=>!decide (hle x y))).length<=L.length:=Yu _ _;unfold qq1;dsimp only;rw[if_neg (by simp),Xu];refine Ok.guard (by rw[Yq];simp;omega) (Ok.some ?_);unfold q8g;rw[if_neg (λ⟨y,c,h⟩=>g y c h)];simp[mkp]
def fV(L:List Hp):Prop:=L.Pairwise λa b=>¬hle a b/\¬hle b a
theorem dG{L:List Hp}{x y:Hp}(h:y∈(q8g L x).1):y∈L\/y=x:=by
 unfold q8g at h
 split at h
 . exact .inl h
 rcases Xj.1 h with h|h
 . exact .inl (Xt.1 h).1
 exact .inr (by simpa using h)
theorem j90{L:List Hp}{x:Hp}(h:fV L):fV (q8g L x).1:=by
 unfold q8g
 split
 . exact h
 rename_i c
 refine Zd.2 ⟨h.filter _,by simp,λa d b hb=>?_⟩;rw[Xq]at hb;subst hb;obtain⟨e,f⟩:=Xt.1 d;exact⟨λg=>c ⟨a,e,g⟩,by simpa using f⟩
def cov(L:List Hp)(z:Hp):Prop:=∃y∈L,hle y z
theorem ji9{F:Int}{n:Nat}{L:List Hp}{x z:Hp}(d:∀p∈L,Rp F n p)(e:Rp F n x)(h:cov L z):cov (q8g L x).1 z:=by
 unfold q8g
 split
 . exact h
 obtain⟨y,c,a⟩:=h
 by_cases b:hle x y
 . exact⟨x,by simp,z4b e.2 (d y c).2 b a⟩
 exact⟨y,Yf _ (Xt.2 ⟨c,by simpa using b⟩),a⟩
theorem j8z(L:List Hp)(x:Hp):cov (q8g L x).1 x:=by
 unfold q8g
 split
 . assumption
 exact⟨x,by simp,cu x⟩
theorem ji7{L:List Hp}{x:Hp}(h:(q8g L x).2=true):¬cov L x:=by
 unfold q8g at h
 split at h
 . cases h
 assumption
theorem zk8{L:List Hp}{x:Hp}(h:(q8g L x).2=false):(q8g L x).1=L:=by
 unfold q8g at h⊢
 split
 . rfl
 rename_i a;rw[if_neg a]at h;cases h
theorem jm9{L:List Hp}(h:fV L){a b:Hp}(f:a∈L)(hb:b∈L)(c:hle a b):a=b:=by
 obtain⟨i,hi,rfl⟩:=Xs.1 f;obtain⟨j,e,rfl⟩:=Xs.1 hb;have hp:=Yd.1 h;rcases Nat.lt_trichotomy i j with d|rfl|d
 . exact absurd c (hp i j hi e d).1
 . rfl
 exact absurd c (hp j i e hi d).2
theorem z8a:∀(n:Nat) (l:List Nat),l.Nodup->(∀x∈l,x<n)->l.length<=n
 |0,[],_,_=>Xi _
 |0,x::l,_,h=>absurd (h x (by simp)) (by omega)
 |n+1,l,hd,h=>by
  have d:=z8a n (l.filter (λx=>!(x==n))) (hd.filter _) (λx a=>by
   obtain⟨c,f⟩:=Xt.1 a;have:=h x c;simp at f;omega)
  have c:l.length<=(l.filter (λx=>!(x==n))).length+1:=by
   clear d h
   induction l with
   |nil=>simp
   |cons y l g=>
    rw[List.nodup_cons]at hd;rw[X7]
    split
    . simp only[Xl];have:=g hd.2;omega
    rename_i j
    have b:y=n:=by simpa using j
    subst b;have:l.filter (λx=>!(x==y))=l:=List.filter_eq_self.2 λx a=>by
     have:x≠y:=λe=>hd.1 (e▸a)
     simpa using this
    rw[this];simp
  omega
end HP
end
section
open Go Go.RowKit VA
namespace HP
open Classical
def rw_(row:List (List Hp))(v:Nat):List Hp:=row.getD v []
def Wit(N:Nat)(lev:Nat->Nat)(row:List (List Hp))(p:Hp):Prop:=
 ∃us:List Nat,us.Nodup/\(us.length:Int)=p.2.getD 3 0/\∀j (h:j<us.length),us[j]<N/\lev us[j]=4/\cov (rw_ row us[j]) (p.1,p.2.set 3 (j:Int))
structure Row(F:Int)(N:Nat)(lev:Nat->Nat)(row:List (List Hp)):Prop where
 len:row.length=N
 rp:∀v,∀p∈rw_ row v,Rp F (lev v) p
 c0:∀v,∀p∈rw_ row v,p.2.getD 0 0=0
 an:∀v,fV (rw_ row v)
 wi:∀v,lev v=4->∀p∈rw_ row v,Wit N lev row p
def M:Nat:=1048577
theorem jw4:M=1048577:=rfl
theorem z0j{l:List Int}(h:∀x∈l,Sm x)(i:Nat):0<=l.getD i 0/\l.getD i 0<1048577:=by
 have:=cq h i;unfold Sm at this;omega
theorem getD_none{l:List Int}{i:Nat}(h:l.length<=i):l.getD i 0=0:=by rw[Xe,Yb h];rfl
theorem Wit.small{N:Nat}{lev:Nat->Nat}{row:List (List Hp)}{p:Hp}(h:Wit N lev row p)(e:N<=32):p.2.getD 3 0<=32:=by
 obtain⟨us,a,f,b⟩:=h;have:=z8a N us a (λx c=>by
  obtain⟨j,d,rfl⟩:=Xs.1 c;exact (b j d).1)
 omega
section
variable {F:Int} {N:Nat} {lev:Nat->Nat} {row:List (List Hp)} (R:Row F N lev row) (hN:N<=32) (hl4:∀v,lev v<=4)
include R hN hl4
theorem Row.c3{v:Nat}{p:Hp}(hp:p∈rw_ row v):p.2.getD 3 0<33:=by
 by_cases h:lev v=4
 . have:=(R.wi v h p hp).small hN;omega
 have a:=(R.rp v p hp).2;have:=hl4 v;rw[getD_none (by omega)];decide
def key(p:Hp):Nat:=(p.1*M+(p.2.getD 1 0).toNat)*33+(p.2.getD 3 0).toNat
theorem Row.short(v:Nat):(rw_ row v).length<=5*1048577*33:=by
 have c:∀p∈rw_ row v,p.1<=4/\(p.2.getD 1 0).toNat<1048577/\(p.2.getD 3 0).toNat<33:=λp hp=>by
  have l:=(R.rp v p hp).1;have C:=z0j l.sm 1;have w:=R.c3 hN hl4 hp;have:=l.kf;have:=l.f1;exact⟨by omega,by omega,by omega⟩
 have n:((rw_ row v).map key).Nodup:=by
  rw[List.nodup_iff_pairwise_ne,List.pairwise_map];have D:=Yd.1 (R.an v);refine Yd.2 λi j hi y o z=>?_;have e:=Xg hi;have f:=Xg y;obtain⟨a1,a2,a3⟩:=c _ e;obtain⟨J,K,L⟩:=c _ f;unfold key at z;rw[jw4]at z;have M:((rw_ row v)[i].2.getD 3 0).toNat=((rw_ row v)[j].2.getD 3 0).toNat:=by omega
  have E:(rw_ row v)[i].1*1048577+((rw_ row v)[i].2.getD 1 0).toNat=(rw_ row v)[j].1*1048577+((rw_ row v)[j].2.getD 1 0).toNat:=by omega
  have A:(rw_ row v)[i].1=(rw_ row v)[j].1:=by omega
  have O:((rw_ row v)[i].2.getD 1 0).toNat=((rw_ row v)[j].2.getD 1 0).toNat:=by omega
  obtain⟨s,P⟩:=R.rp v _ e;obtain⟨t,Q⟩:=R.rp v _ f;have d:∀a b:Hp,a.1=b.1->a.2.length=b.2.length->a.2.length<=4->(∀i,i≠2->a.2.getD i 0=b.2.getD i 0)->a.2.getD 2 0<=b.2.getD 2 0->hle a b:=λa b l C _ w G=>⟨by omega,λq m u=>by
   rw[<-aW m,<-aW u]
   by_cases g:q=2
   . subst g;exact G
   rw[w q g];exact Xv _⟩
  have k:∀q,q≠2->(rw_ row v)[i].2.getD q 0=(rw_ row v)[j].2.getD q 0:=λq m=>by
   have s1:=z0j s.sm q;have S:=z0j t.sm q;rcases (by omega:q=0\/q=1\/q=3\/4<=q)with rfl|rfl|rfl|H
   . rw[R.c0 v _ e,R.c0 v _ f]
   . omega
   . omega
   rw[getD_none (by have:=s.l1;omega),getD_none (by have:=t.l1;omega)]
  have B:=D i j hi y o;rcases Int.le_total ((rw_ row v)[i].2.getD 2 0) ((rw_ row v)[j].2.getD 2 0)with h|h
  . exact B.1 (d _ _ A (by omega) s.l1 k h)
  exact B.2 (d _ _ A.symm (by omega) t.l1 (λq m=>(k q m).symm) h)
 have:=z8a (5*1048577*33) _ n (λx I=>by
  obtain⟨p,hp,rfl⟩:=Ym.1 I;obtain⟨a1,a2,a3⟩:=c p hp;unfold key;rw[jw4];omega)
 simpa using this
end
def U:Nat:=5*1048577*1048577*33
def dec(n c:Nat):Hp:=(c/(1048577*1048577*33),[0,((c/(1048577*33)%1048577:Nat):Int),((c/33%1048577:Nat):Int),((c%33:Nat):Int)].take n)
def z1p(p:Hp):Nat:=((p.1*1048577+(p.2.getD 1 0).toNat)*1048577+(p.2.getD 2 0).toNat)*33+(p.2.getD 3 0).toNat
theorem jm1{F:Int}{n:Nat}{p:Hp}(h:Rp F n p)(e:p.2.getD 0 0=0)(u:p.2.getD 3 0<33):z1p p<U/\dec n (z1p p)=p:=by
 obtain⟨f,j⟩:=h;have s1:=z0j f.sm 1;have k:=z0j f.sm 2;have l:=z0j f.sm 3;have w:=f.kf;have y:=f.f1;have m:=f.l1;have g:=f.l0;have z:(p.2.getD 1 0).toNat<1048577:=by omega
 have A:(p.2.getD 2 0).toNat<1048577:=by omega
 have B:(p.2.getD 3 0).toNat<33:=by omega
 have C:p.1<=4:=by omega
 refine⟨by unfold z1p U;omega,?_⟩;have o:z1p p/(1048577*1048577*33)=p.1:=by unfold z1p;omega
 have q:z1p p/(1048577*33)%1048577=(p.2.getD 1 0).toNat:=by unfold z1p;omega
 have s:z1p p/33%1048577=(p.2.getD 2 0).toNat:=by unfold z1p;omega
 have t:z1p p%33=(p.2.getD 3 0).toNat:=by unfold z1p;omega
 unfold dec;rw[o,q,s,t];refine Prod.ext rfl ?_
 show List.take n [0,_,_,_]=p.2
 rw[X4 s1.1,X4 k.1,X4 l.1];subst j
 match hp:p.2,m,g with
 |[a],_,_=>rw[hp]at e;simp at e;simp[e]
 |[a,b],_,_=>rw[hp]at e;simp at e;simp[e]
 |[a,b,c],_,_=>rw[hp]at e;simp at e;simp[e]
 |[a,b,c,d],_,_=>rw[hp]at e;simp at e;simp[e]
theorem z01{p q:Nat->Bool}:∀(l:List Nat),(∀x∈l,p x=true->q x=true)->(l.filter p).length<=(l.filter q).length
 |[],_=>Xi _
 |x::l,h=>by
  have b:=z01 l λy c=>h y (by simp[c]);have a:=h x (by simp);rw[X7,X7]
  cases hp:p x<;>cases d:q x
  . exact b
  . simp only[Yr,if_false,if_true,Xl];omega
  . rw[hp,d]at a;exact absurd (a rfl) (by simp)
  simp only[if_true,Xl];omega
theorem fi{p q:Nat->Bool}:∀(l:List Nat),(∀x∈l,p x=true->q x=true)->(∃x∈l,p x=false/\q x=true)->(l.filter p).length<(l.filter q).length
 |[],_,h=>by obtain⟨x,b,_⟩:=h;cases b
 |x::l,h,⟨y,a,c,d⟩=>by
  have b:=h x (by simp);have e:∀y∈l,p y=true->q y=true:=λy a=>h y (by simp[a]);rw[X7,X7];rcases Xw.1 a with rfl|a
  . have:=z01 l e;rw[c,d];simp only[Yr,if_false,if_true,Xl];omega
  have:=fi l e ⟨y,a,c,d⟩
  cases hp:p x<;>cases f:q x
  . exact this
  . simp only[Yr,if_false,if_true,Xl];omega
  . rw[hp,f]at b;exact absurd (b rfl) (by simp)
  simp only[if_true,Xl];omega
noncomputable def cnt(n:Nat)(L:List Hp):Nat:=((Zf U).filter λc=>decide (cov L (dec n c))).length
theorem jy7(n:Nat)(L:List Hp):cnt n L<=U:=by
 unfold cnt;refine Y4 (Yu _ _) ?_;rw[Zo];exact Xi _
noncomputable def Phi(N:Nat)(lev:Nat->Nat)(row:List (List Hp)):Nat:=((Zf N).map λv=>cnt (lev v) (rw_ row v)).sum
theorem zv7{f g:Nat->Nat}:∀(l:List Nat),(∀x∈l,f x<=g x)->(l.map f).sum<=(l.map g).sum
 |[],_=>Xi _
 |x::l,h=>by
  have:=zv7 l λy a=>h y (by simp[a]);have:=h x (by simp);simp only[Yo,Yp];omega
theorem fp{f g:Nat->Nat}:∀(l:List Nat),(∀x∈l,f x<=g x)->(∃x∈l,f x<g x)->(l.map f).sum<(l.map g).sum
 |[],_,h=>by obtain⟨x,d,_⟩:=h;cases d
 |x::l,h,⟨y,a,b⟩=>by
  have c:∀y∈l,f y<=g y:=λy a=>h y (by simp[a]);have e:=zv7 l c;have j:=h x (by simp);simp only[Yo,Yp];rcases Xw.1 a with rfl|a
  . omega
  have:=fp l c ⟨y,a,b⟩;omega
theorem zo1{f:Nat->Nat}{B:Nat}:∀(l:List Nat),(∀x∈l,f x<=B)->(l.map f).sum<=l.length*B
 |[],_=>by simp
 |x::l,h=>by
  have:=zo1 l λy a=>h y (by simp[a]);have:=h x (by simp);simp only[Yo,Yp,Xl,Y7];omega
theorem zr3(N:Nat)(lev:Nat->Nat)(row:List (List Hp)):Phi N lev row<=N*U:=by
 have:=zo1 (f:=λv=>cnt (lev v) (rw_ row v)) (B:=U) (Zf N) λv _=>jy7 _ _;rw[Zo]at this;exact this
def bf(row a:List (List Hp)):Prop:=∀u z,cov (rw_ row u) z->cov (rw_ a u) z
theorem bf.refl(row:List (List Hp)):bf row row:=λ_ _ h=>h
theorem bf.trans{a b c:List (List Hp)}(h:bf a b)(k:bf b c):bf a c:=λu z d=>k u z (h u z d)
theorem jw2{N:Nat}{lev:Nat->Nat}{row a:List (List Hp)}(h:bf row a):Phi N lev row<=Phi N lev a:=
 zv7 _ λv _=>z01 _ λc _ b=>by simp only[decide_eq_true_eq]at b⊢;exact h v _ b
theorem jw1{N:Nat}{lev:Nat->Nat}{row a:List (List Hp)}(h:bf row a){v:Nat}(e:v<N){x:Hp}{F:Int}(f:Rp F (lev v) x)(g:x.2.getD 0 0=0)(j:x.2.getD 3 0<33)(k:¬cov (rw_ row v) x)(l:cov (rw_ a v) x):Phi N lev row<Phi N lev a:=by
 obtain⟨m,d⟩:=jm1 f g j;refine fp _ (λv _=>z01 _ λc _ b=>by simp only[decide_eq_true_eq]at b⊢;exact h v _ b) ⟨v,Za.2 e,fi _ (λc _ b=>by simp only[decide_eq_true_eq]at b⊢;exact h v _ b) ⟨z1p x,Za.2 m,?_,?_⟩⟩
 . rw[d,decide_eq_false_iff_not];exact k
 rw[d,decide_eq_true_eq];exact l
end HP
end
section
open Go Go.RowKit VA
namespace HP
open Classical
def cF(d:Nat)(kind:Int):Hp:=
 if kind=10 then (d,Xa (d+1) 0)else if kind=11 then (d-1,Xa (d-1) 0)else if kind=12 then (d,Xa (d-1) 0++[1])else (d,Xa d 0)
def thp(h s:Hp):Hp:=(min h.1 s.1,th h.2 s.2 s.1)
theorem Wit.mono{N:Nat}{lev:Nat->Nat}{row a:List (List Hp)}{p:Hp}(d:bf row a)(h:Wit N lev row p):Wit N lev a p:=by
 obtain⟨us,e,f,b⟩:=h;exact⟨us,e,f,λj c=>⟨(b j c).1,(b j c).2.1,d _ _ (b j c).2.2⟩⟩
theorem l4{l:List Int}(h:l.length=4):∃a b c e,l=[a,b,c,e]:=by
 match l,h with
 |[a,b,c,e],_=>exact⟨a,b,c,e,rfl⟩
theorem l3{l:List Int}(h:l.length=3):∃a b c,l=[a,b,c]:=by
 match l,h with
 |[a,b,c],_=>exact⟨a,b,c,rfl⟩
section
variable {F:Int} {N:Nat} {lev:Nat->Nat} {row0:List (List Hp)} (R:Row F N lev row0) {u:Nat} (hu:u<N) {h:Hp} (hh:h∈rw_ row0 u) {kind:Int} (hk11:kind=11->2<=lev u) (hk12:kind=12->2<=lev u) (hl4:∀v,lev v<=4) (hl1:1<=lev u)
include R hh hk12 hk11 hl1
theorem jt5:(thp h (cF (lev u) kind)).2.getD 0 0=0:=by
 obtain⟨g,f⟩:=R.rp u h hh;have e:=R.c0 u h hh;obtain⟨k,xs⟩:=h;dsimp only at g f e
 match xs,f,e with
 |x::xs,f,e=>
  have j:x=0:=by simpa using e
  subst j;unfold thp th su cF
  by_cases c:kind=10
  . rw[if_pos c];obtain⟨d,hd⟩:∃d,lev u=d+1:=⟨lev u-1,by omega⟩;rw[hd];simp[X5]
  rw[if_neg c]
  by_cases a:kind=11
  . rw[if_pos a];obtain⟨d,hd⟩:∃d,lev u=d+2:=⟨lev u-2,by have:=hk11 a;omega⟩;rw[hd];simp[X5]
  rw[if_neg a]
  by_cases b:kind=12
  . rw[if_pos b];obtain⟨d,hd⟩:∃d,lev u=d+2:=⟨lev u-2,by have:=hk12 b;omega⟩;rw[hd];simp[X5]
  rw[if_neg b];obtain⟨d,hd⟩:∃d,lev u=d+1:=⟨lev u-1,by omega⟩;rw[hd];simp[X5]
include hu hl4
theorem jl3{row:List (List Hp)}(B:bf row0 row)(g:(cF (lev u) kind).2.length=4):Wit N lev row (thp h (cF (lev u) kind)):=by
 obtain⟨G,n⟩:=R.rp u h hh;have m:=G.kl;have H:=hl4 u;unfold cF at g⊢
 by_cases o:kind=10
 .
  rw[if_pos o]at g⊢;have hd:lev u=3:=by simpa using g
  rw[hd]at n⊢;obtain⟨k,xs⟩:=h;obtain⟨a,b,c,rfl⟩:=l3 n;exact⟨[],by simp,by simp[thp,th,su,Xa],λj p=>by simp at p⟩
 rw[if_neg o]at g⊢
 by_cases q:kind=11
 . rw[if_pos q]at g;simp at g;omega
 rw[if_neg q]at g⊢
 by_cases s:kind=12
 .
  rw[if_pos s]at g⊢;have hd:lev u=4:=by simp at g;omega
  have C:=R.wi u hd h hh;have D:=R.an u;rw[hd]at n⊢;obtain⟨us,w1,w2,w3⟩:=C;obtain⟨k,xs⟩:=h;obtain⟨a,b,c,e,rfl⟩:=l4 n;dsimp only at m;have I:(us.length:Int)=e:=by simpa using w2
  have t:thp (k,[a,b,c,e]) (4,Xa (4-1) 0++[1])=(k,[a,b,c,e+1]):=by
   have:min k 4=k:=Yc (by simpa using m);simp[thp,th,su,Xa,this]
  rw[t];have w:u∉us:=λJ=>by
   obtain⟨j,p,rfl⟩:=Xs.1 J;obtain⟨y,z,d⟩:=(w3 j p).2.2;have l:([a,b,c,e]:List Int).set 3 (j:Int)=[a,b,c,(j:Int)]:=rfl;dsimp only at d;rw[l]at d;have K:=(R.rp _ y z).2;have L:hle y (k,[a,b,c,e]):=⟨d.1,λi hi hi'=>by
    have f:=d.2 i hi (by simpa using hi');have M:i<4:=by simpa using hi'
    rcases (by omega:i=0\/i=1\/i=2\/i=3)with rfl|rfl|rfl|rfl
    . exact f
    . exact f
    . exact f
    have:y.2[3]<=(j:Int):=f
    show y.2[3]<=e
    omega⟩
   have O:=jm9 D z hh L;subst O;have:e<=(j:Int):=d.2 3 (by simp) (by simp);omega
  refine⟨us++[u],?_,?_,λj p=>?_⟩
  . rw[List.nodup_append];exact⟨w1,by simp,λx t y z=>by rw[Xq]at z;subst z;exact λe=>w (e▸t)⟩
  .
   simp only[Xc,Zb]
   show ((us.length+1:Nat):Int)=e+1
   omega
  rcases Yl j us.length with A|P
  . rw[List.getElem_append_left A];obtain⟨Q,S,T⟩:=w3 j A;exact⟨Q,S,B _ _ T⟩
  have E:j=us.length:=by simp at p;omega
  subst E;rw[List.getElem_append_right (Xi _)];simp only[Yy,List.getElem_cons_zero];refine⟨hu,hd,B _ _ ⟨_,hh,?_⟩⟩;have l:([a,b,c,e+1]:List Int).set 3 ((us.length:Nat):Int)=[a,b,c,e]:=by rw[I];rfl
  show hle _ (k,([a,b,c,e+1]:List Int).set 3 ((us.length:Nat):Int))
  rw[l];exact cu _
 rw[if_neg s]at g⊢;have hd:lev u=4:=by simpa using g
 have C:=R.wi u hd h hh;rw[hd]at n⊢;obtain⟨k,xs⟩:=h;obtain⟨a,b,c,e,rfl⟩:=l4 n;have t:thp (k,[a,b,c,e]) (4,Xa 4 0)=(k,[a,b,c,e]):=by
  have:min k 4=k:=Yc (by simpa using m);simp[thp,th,su,Xa,this]
 rw[t];exact C.mono B
end
theorem z1a{row:List (List Hp)}{v w:Nat}{L:List Hp}(a:v<row.length):rw_ (row.set v L) w=if w=v then L else rw_ row w:=by
 unfold rw_;rw[Xe,Xe]
 by_cases h:w=v
 . subst h;rw[if_pos rfl,Y8 a];rfl
 rw[if_neg h,Zg (λe=>h e.symm)]
theorem Row.put{F:Int}{N:Nat}{lev:Nat->Nat}{row:List (List Hp)}(R:Row F N lev row){v:Nat}(n:v<N){x:Hp}(g:Rp F (lev v) x)(l:x.2.getD 0 0=0)
 (m:lev v=4->∀c,bf row c->Wit N lev c x):Row F N lev (row.set v (q8g (rw_ row v) x).1)/\bf row (row.set v (q8g (rw_ row v) x).1):=by
 have d:=R.len;have b:v<row.length:=by omega
 have a:bf row (row.set v (q8g (rw_ row v) x).1):=λu z j=>by
  rw[z1a b]
  by_cases k:u=v
  . subst k;rw[if_pos rfl];exact ji9 (R.rp u) g j
  rw[if_neg k];exact j
 refine⟨⟨by rw[List.length_set];exact d,λw p hp=>?_,λw p hp=>?_,λw=>?_,λw f p hp=>?_⟩,a⟩
 .
  rw[z1a b]at hp
  split at hp
  .
   rename_i e;subst e
   rcases dG hp with hp|rfl
   . exact R.rp w p hp
   exact g
  exact R.rp w p hp
 .
  rw[z1a b]at hp
  split at hp
  .
   rename_i e;subst e
   rcases dG hp with hp|rfl
   . exact R.c0 w p hp
   exact l
  exact R.c0 w p hp
 .
  rw[z1a b]
  split
  . exact j90 (R.an v)
  exact R.an w
 rw[z1a b]at hp
 split at hp
 .
  rename_i e;subst e
  rcases dG hp with hp|rfl
  . exact (R.wi w f p hp).mono a
  exact m f _ a
 exact (R.wi w f p hp).mono a
end HP
end
section
open Go Go.RowKit VA
namespace HP
open Classical
def dep(g:aa)(s:Int):Nat:=(anc g.ae s).length
def lev(g:aa)(v:Nat):Nat:=if v<g.al.length then dep g (q0s g (nd g v))else 1
section
variable {g:aa} (hG:VA.Good g)
include hG
theorem wpG:WP g.ae g.ae.length:=hG.wp
theorem bb{s:Int}(d:0<=s)(e:s<g.ae.length):1<=dep g s/\dep g s<=4/\(s≠0->0<=g.ae.getD s.toNat 0/\g.ae.getD s.toNat 0<g.ae.length/\dep g s=dep g (g.ae.getD s.toNat 0)+1/\2<=dep g s):=by
 have c:=wpG hG;have b:dep g s=dep g (g.ae.getD s.toNat 0)+1:=by unfold dep;rw[q46 c d e];rfl
 have a:=hG.sc s.toNat (by omega);unfold sOk at a
 by_cases f:s=0
 .
  subst f;rw[if_pos (by rfl)]at a;have hp:g.ae.getD (0:Int).toNat 0=-1:=by simp at a;exact a.1
  have hd:dep g 0=1:=by rw[b,hp];unfold dep;rw[q6p];rfl
  rw[hd];exact⟨by omega,by omega,λh=>absurd rfl h⟩
 rw[if_neg (by omega)]at a;simp only[Xy,decide_eq_true_eq]at a;have j:dep g s<=4:=by
  have:=a.2;unfold dep;rw[show s=((s.toNat:Nat):Int) by omega];exact this
 have hp1:1<=dep g (g.ae.getD s.toNat 0):=by
  unfold dep;rw[q46 c a.1.1 (by omega)];simp
 exact⟨by omega,j,λ_=>⟨a.1.1,by omega,b,by omega⟩⟩
theorem aQ{v:Nat}(a:v<g.al.length):0<=(nd g v).Scope/\(nd g v).Scope<g.ae.length/\(((nd g v).Kind=10\/(nd g v).Kind=11\/(nd g v).Kind=12)->(nd g v).Scope≠0):=by
 have:=q7t (hG.no v a);exact⟨this.2.1.1,this.2.1.2,this.2.2.1⟩
theorem fC(v:Nat):1<=lev g v/\lev g v<=4:=by
 unfold lev
 split
 .
  rename_i c
  obtain⟨a,b,d⟩:=aQ hG c;unfold q0s
  split
  .
   rename_i e
   obtain⟨f,j,_,_⟩:=(bb hG a b).2.2 (d (.inl e));have:=bb hG f j;exact⟨this.1,this.2.1⟩
  have:=bb hG a b;exact⟨this.1,this.2.1⟩
 omega
theorem zz8{v:Nat}(e:v<g.al.length):((nd g v).Kind=10->lev g v<=3)/\((nd g v).Kind=11->2<=lev g v)/\((nd g v).Kind=12->2<=lev g v)/\(cF (lev g v) (nd g v).Kind).2.length=dep g (q3n g (nd g v)):=by
 obtain⟨f,j,d⟩:=aQ hG e;have hd:=bb hG f j;unfold lev;rw[if_pos e];unfold q0s q3n cF
 by_cases a:(nd g v).Kind=10
 . rw[if_pos a,if_pos a,if_neg (by omega)];obtain⟨k,l,m,n⟩:=hd.2.2 (d (.inl a));refine⟨λ_=>by omega,λh=>by omega,λh=>by omega,?_⟩;rw[Xp];omega
 rw[if_neg a,if_neg a];refine⟨λh=>absurd h a,λh=>(hd.2.2 (d (.inr (.inl h)))).2.2.2,λh=>(hd.2.2 (d (.inr (.inr h)))).2.2.2,?_⟩
 by_cases b:(nd g v).Kind=11
 . rw[if_pos b,if_pos b];obtain⟨k,l,m,n⟩:=hd.2.2 (d (.inr (.inl b)));rw[Xp];omega
 rw[if_neg b,if_neg b]
 by_cases c:(nd g v).Kind=12
 . rw[if_pos c,Xc,Xp,Zb];omega
 rw[if_neg c,Xp]
theorem cZ{v:Nat}(b:v<g.al.length):q7b g (v:Int)=some (lev g v:Int):=by
 obtain⟨c,d,f⟩:=aQ hG b;have n:=hG.nl;have hp:=hG.pl;unfold q7b q2g;refine k2k (Ok.bind (Ok.some ?_));rw[if_neg (by simp;omega)];refine Ok.bind (k2i b ?_);rw[q7i b];have j:q7a g (nd g v)=some (q0s g (nd g v)):=by
  unfold q7a q0s
  by_cases a:(nd g v).Kind=10
  . rw[if_pos (by simpa using a),if_pos a];exact k2k (Ok.bind (Ok.dg c d λx k=>Ok.some (getD_some k)))
  rw[if_neg (by simpa using a),if_neg a]
 rw[j];refine Ok.bind (Ok.some ?_);have e:inS g.ae.length (q0s g (nd g v)):=by
  unfold q0s
  split
  .
   rename_i a
   obtain⟨l,m,_,_⟩:=(bb hG c d).2.2 (f (.inl a));exact .inr ⟨l,m⟩
  exact .inr ⟨c,d⟩
 rw[j1i (wpG hG) (by omega) (by omega) e];refine Ok.bind (Ok.some (Ok.some ?_));unfold lev;rw[if_pos b];rfl
end
theorem j2l(n:Nat):pad (Xa n 0)=⟨0,0,0,0⟩:=by
 have:∀i,(Xa n (0:Int)).getD i 0=0:=λi=>by
  rw[Xe,Yh];split<;>rfl
 unfold pad;rw[this,this,this,this]
theorem zg7(F:Int)(k n:Nat):mk F k (Xa n 0)=⟨F,k,((n-k:Nat):Int),⟨0,0,0,0⟩,⟨0,0,0,0⟩⟩:=by
 unfold mk;rw[List.take_replicate,List.drop_replicate,j2l,j2l,Xp]
theorem ze5(n:Nat):∀x∈Xa n (0:Int),Sm x:=λx a=>by
 obtain⟨_,rfl⟩:=List.mem_replicate.1 a;exact⟨by decide,by decide⟩
theorem zl4{F:Int}{k:Nat}{xs:List Int}(h:Rh F k xs):qi0 (mk F k xs)=some (mk F k xs,true):=by
 unfold qi0;rw[q9o h];rfl
theorem z9n{d:Nat}(b:1<=d)(c:d<=4):Rh (d:Int) d (Xa d 0)/\qq3 (d:Int)=some (mk d d (Xa d 0),true):=by
 have a:Rh (d:Int) d (Xa d 0):=⟨by omega,by omega,by omega,by simp,by simpa using b,by simpa using c,ze5 d⟩;refine⟨a,?_⟩;unfold qq3;have:(⟨(d:Int),(d:Int),0,⟨0,0,0,0⟩,⟨0,0,0,0⟩⟩:aH)=mk d d (Xa d 0):=by rw[zg7];simp
 rw[this,zl4 a];rfl
theorem cR{d:Nat}(b:1<=d)(c:d<=3):Rh (d:Int) d (Xa (d+1) 0)/\qt3 (d:Int)=some (mk d d (Xa (d+1) 0),true):=by
 have a:Rh (d:Int) d (Xa (d+1) 0):=⟨by omega,by omega,by omega,by simp,by simp,by simp;omega,ze5 _⟩;refine⟨a,?_⟩;unfold qt3;have:(⟨(d:Int),(d:Int),1,⟨0,0,0,0⟩,⟨0,0,0,0⟩⟩:aH)=mk d d (Xa (d+1) 0):=by rw[zg7];simp
 rw[this,zl4 a];rfl
theorem cN{d:Nat}(c:2<=d)(e:d<=4):Rh (d:Int) (d-1) (Xa (d-1) 0)/\qt2 (d:Int)=some (mk d (d-1) (Xa (d-1) 0),true):=by
 have a:Rh (d:Int) (d-1) (Xa (d-1) 0):=⟨by omega,by omega,by omega,by simp,by simp;omega,by simp;omega,ze5 _⟩;refine⟨a,?_⟩;unfold qt2;rw[if_neg (by simp;omega)];have b:IntKind.i64.wrap ((d:Int)-1)=((d-1:Nat):Int):=by rw[wrap_i64 _ (by omega)];omega
 have:(⟨(d:Int),((d-1:Nat):Int),0,⟨0,0,0,0⟩,⟨0,0,0,0⟩⟩:aH)=mk d (d-1) (Xa (d-1) 0):=by rw[zg7];simp
 rw[b,this,zl4 a];rfl
theorem dp{d:Nat}(j:2<=d)(b:d<=4):Rh (d:Int) d (Xa (d-1) 0++[1])/\qz8 (d:Int)=some (mk d d (Xa (d-1) 0++[1]),true):=by
 have c:Rh (d:Int) d (Xa (d-1) 0++[1]):=⟨by omega,by omega,by omega,by simp;omega,by simp,by simp;omega,λx a=>by
  rcases Xj.1 a with a|a
  . exact ze5 _ x a
  rw[Xq]at a;subst a;exact⟨by decide,by decide⟩⟩
 refine⟨c,?_⟩;obtain⟨e,_⟩:=z9n (d:=d) (by omega) b;have f:(⟨(d:Int),(d:Int),0,⟨0,0,0,0⟩,⟨0,0,0,0⟩⟩:aH)=mk d d (Xa d 0):=by rw[zg7];simp
 unfold qz8;rw[f,q9o e];refine k2k (Ok.bind (Ok.some ?_));rw[if_neg (by simp)];have g:IntKind.i64.wrap ((d:Int)-1)=((d-1:Nat):Int):=by rw[wrap_i64 _ (by omega)];omega
 rw[g];refine Ok.guard (by omega) (Ok.bind (Ok.some (Ok.bind (Ok.some (Ok.bind (Ok.some (Ok.bind (Ok.some (Ok.some ?_)))))))));rw[Xf];rcases (by omega:d=2\/d=3\/d=4)with rfl|rfl|rfl<;>rfl
theorem step_eq{g:aa}(o:VA.Good g){e:aU}(y:e∈g.aw):Rp (lev g e.aO.toNat:Int) (lev g e.To.toNat) (cF (lev g e.aO.toNat) (nd g e.aO.toNat).Kind)/\
 qo3 g e=some (mkp (lev g e.aO.toNat) (cF (lev g e.aO.toNat) (nd g e.aO.toNat).Kind)):=by
 obtain⟨l,w,_,_,p,_,_⟩:=o.ed.at y;have m:e.aO.toNat<g.al.length:=by have:=l.1;have:=l.2;omega
 have q:e.To.toNat<g.al.length:=by have:=w.1;have:=w.2;omega
 obtain⟨s,t,u,n⟩:=zz8 o m;obtain⟨l1,l4⟩:=fC o e.aO.toNat;have c:(cF (lev g e.aO.toNat) (nd g e.aO.toNat).Kind).2.length=lev g e.To.toNat:=by
  rw[n];have:q3n g (nd g e.aO.toNat)=q0s g (nd g e.To.toNat):=p;rw[this];unfold lev;rw[if_pos q]
 have k:e.aO=((e.aO.toNat:Nat):Int):=by have:=l.1;omega
 have hi:idx g.al e.aO=some (nd g e.aO.toNat):=k2k (Ok.dg l.1 l.2 λx z=>getD_some z);unfold qo3;rw[hi];have A:q7b g e.aO=some (lev g e.aO.toNat:Int):=by have h:=cZ o m;rw[<-k]at h;exact h
 rw[A];simp only[q9,Zq];unfold cF at c⊢
 by_cases d:(nd g e.aO.toNat).Kind=10
 . rw[if_pos d]at c⊢;rw[if_pos (show ((nd g e.aO.toNat).Kind==10)=true by simpa using d)];obtain⟨a,b⟩:=cR l1 (s d);rw[b];exact⟨⟨a,c⟩,rfl⟩
 rw[if_neg d]at c⊢;rw[if_neg (show ¬((nd g e.aO.toNat).Kind==10)=true by simpa using d)]
 by_cases f:(nd g e.aO.toNat).Kind=11
 . rw[if_pos f]at c⊢;rw[if_pos (show ((nd g e.aO.toNat).Kind==11)=true by simpa using f)];obtain⟨a,b⟩:=cN (t f) l4;rw[b];exact⟨⟨a,c⟩,rfl⟩
 rw[if_neg f]at c⊢;rw[if_neg (show ¬((nd g e.aO.toNat).Kind==11)=true by simpa using f)]
 by_cases j:(nd g e.aO.toNat).Kind=12
 . rw[if_pos j]at c⊢;rw[if_pos (show ((nd g e.aO.toNat).Kind==12)=true by simpa using j)];obtain⟨a,b⟩:=dp (u j) l4;rw[b];exact⟨⟨a,c⟩,rfl⟩
 rw[if_neg j]at c⊢;rw[if_neg (show ¬((nd g e.aO.toNat).Kind==12)=true by simpa using j)];obtain⟨a,b⟩:=z9n l1 l4;rw[b];exact⟨⟨a,c⟩,rfl⟩
end HP
end
section
open Go Go.RowKit VA
namespace HP
open Classical
theorem zt3{b c R:Type}{body:(b->Option R)->b->Option R}(st:c->b)(I:c->Prop)(d:c->Nat){Q:R->Prop}
 (h:∀(rec:b->Option R) t,I t->(∀a,I a->d a<d t->Ok (rec (st a)) Q)->Ok (body rec (st t)) Q):∀(n:Nat) (t:c),I t->d t<n->Ok (q02 body n (st t)) Q
 |0,t,_,e=>absurd e (by omega)
 |n+1,t,hi,e=>h (q02 body n) t hi λa hi' f=>zt3 st I d h n a hi' (by omega)
def gh(F:Int)(row:List (List Hp)):List (List aH):=row.map λL=>L.map (mkp F)
theorem eC{F:Int}{row:List (List Hp)}{v:Nat}(a:v<row.length){Q:List aH->Prop}(h:Q ((rw_ row v).map (mkp F))):Ok (idx (gh F row) (v:Int)) Q:=by
 refine k2i (by unfold gh;simpa using a) ?_;unfold gh;rw[Yn];have:rw_ row v=row[v]:=by unfold rw_;rw[Xe,X0 a];rfl
 rw[<-this];exact h
theorem js9{F:Int}{row:List (List Hp)}{v:Nat}{L:List Hp}:List.set (gh F row) v (L.map (mkp F))=gh F (row.set v L):=by unfold gh;rw[List.map_set]
theorem zw4{row:List (List Hp)}{v:Nat}:row.set v (rw_ row v)=row:=by
 refine List.ext_getElem? λi=>?_
 by_cases h:i=v
 .
  subst h
  by_cases hi:i<row.length
  . rw[Y8 hi];unfold rw_;rw[Xe,X0 hi];rfl
  rw[Yb (by rw[List.length_set];omega),Yb (by omega)]
 rw[Zg (λe=>h e.symm)]
theorem bw{ts xs:List Int}{k:Nat}(a:k<=ts.length)(b:k<=xs.length):(th ts xs k).length=xs.length:=by
 unfold th;rw[Xc,qx8 a b,Xk];omega
theorem bP{ts xs:List Int}{k i:Nat}(a:k<=ts.length)(b:k<=xs.length)(hi:i<xs.length):(th ts xs k).getD i 0=if i<k then ts.getD i 0+xs.getD i 0 else xs.getD i 0:=by
 unfold th;rw[Xe]
 by_cases h:i<k
 . rw[if_pos h,List.getElem?_append_left (by rw[qx8 a b];exact h),X0 (by rw[qx8 a b];exact h),zw0 a b h,aW (by omega),aW hi];rfl
 rw[if_neg h,List.getElem?_append_right (by rw[qx8 a b];omega),qx8 a b,List.getElem?_drop,Xe,show k+(i-k)=i by omega]
theorem j8a{F n:Int}{m:Nat}{z h s:Hp}(u:Rp F m z)(w:Rp F m h)(G:n=(m:Int))(e:Rh n s.1 s.2)(f:hle z h)(l:Rh F (thp h s).1 (thp h s).2):Rh F (thp z s).1 (thp z s).2/\hle (thp z s) (thp h s):=by
 obtain⟨g,y⟩:=u;obtain⟨A,B⟩:=w;have C:=e.kf;have c:=e.kl;have l1:(th z.2 s.2 s.1).length=s.2.length:=bw (by omega) c;have H:(th h.2 s.2 s.1).length=s.2.length:=bw (by omega) c;have d:∀i (q:i<(th z.2 s.2 s.1).length) (t:i<(th h.2 s.2 s.1).length),(th z.2 s.2 s.1)[i]<=(th h.2 s.2 s.1)[i]:=λi q t=>by
  rw[<-aW q,<-aW t,bP (by omega) c (by omega),bP (by omega) c (by omega)]
  split
  . have:=f.2 i (by omega) (by omega);rw[aW (show i<z.2.length by omega),aW (show i<h.2.length by omega)];omega
  exact Xv _
 have D:=g.kf;refine⟨⟨l.f0,l.f1,?_,?_,by show 1<=(th z.2 s.2 s.1).length;rw[l1];exact e.l0,by show (th z.2 s.2 s.1).length<=4;rw[l1];exact e.l1,λx E=>?_⟩,?_,d⟩
 . show ((min z.1 s.1:Nat):Int)<=F;omega
 . show min z.1 s.1<=(th z.2 s.2 s.1).length;omega
 .
  obtain⟨i,hi,rfl⟩:=Xs.1 E;have j:i<(th z.2 s.2 s.1).length:=hi;have o:=d i j (by omega);have k:=l.sm _ (Xg (show i<(th h.2 s.2 s.1).length by omega));have p:0<=(th z.2 s.2 s.1)[i]:=by
   rw[<-aW j,bP (by omega) c (by omega)];have a:=cq g.sm i;have b:=cq e.sm i;unfold Sm at a b
   split<;>omega
  show Sm ((th z.2 s.2 s.1)[i])
  unfold Sm at k⊢;exact⟨p,Ys o k.2⟩
 show min z.1 s.1<=min h.1 s.1
 have:=f.1;omega
def b7(g:aa)(e:aU):Hp:=cF (lev g e.aO.toNat) (nd g e.aO.toNat).Kind
def ClE(g:aa)(F:Int)(row:List (List Hp))(e:aU):Prop:=∀h∈rw_ row e.aO.toNat,Rh F (thp h (b7 g e)).1 (thp h (b7 g e)).2->cov (rw_ row e.To.toNat) (thp h (b7 g e))
structure ClT(g:aa)(F:Int)(row:List (List Hp)):Prop where
 rp:∀w,∀p∈rw_ row w,Rp F (lev g w) p
 cl:∀e∈g.aw,ClE g F row e
def qe4(g:aa):List aH:=g.aw.map λe=>mkp (lev g e.aO.toNat) (b7 g e)
structure J(g:aa)(F:Int)(start:List (List Hp))(more:Bool)(row:List (List Hp)):Prop where
 R:Row F g.al.length (lev g) row
 c:bf start row
 t:more=true->Phi g.al.length (lev g) start<Phi g.al.length (lev g) row
 f:more=false->row=start
 s:∀T,ClT g F T->bf start T->bf row T
section
variable {g:aa} (hG:VA.Good g) {F:Int}
include hG
theorem jk2{start b:List (List Hp)}{d:Bool}(H:J g F start d b){i:Nat}(hi:i<g.aw.length){u:Bool×Int×(List (List aH))->Option (List (List (List aH)))}{Q:List (List (List aH))->Prop}
 (hr:∀more row,J g F start more row->(more=false->d=false/\ClE g F start g.aw[i])->Ok (u (more,((i+1:Nat):Int),gh F row)) Q):
 Ok (q02 (q9f (qe4 g) (i:Int) u g.aw[i] ((rw_ b g.aw[i].aO.toNat).map (mkp F))) rounds (d,0,gh F b)) Q:=by
 have hn:=hG.nl;have c6:=hG.el;have hm:=Xg hi;obtain⟨hf,ht,_⟩:=hG.ed.at hm;have U:g.aw[i].aO.toNat<g.al.length:=by have:=hf.1;have:=hf.2;omega
 have V:g.aw[i].To.toNat<g.al.length:=by have:=ht.1;have:=ht.2;omega
 have b5:g.aw[i].To=((g.aw[i].To.toNat:Nat):Int):=by have:=ht.1;omega
 have j:Rp (lev g g.aw[i].aO.toNat:Int) (lev g g.aw[i].To.toNat) (b7 g g.aw[i]):=(step_eq hG hm).1;obtain⟨c7,W,X,_⟩:=zz8 hG U;have q:=fC hG;have c8:=H.R.short (by omega) (λv=>(q v).2) g.aw[i].aO.toNat;refine dm (l:=rw_ b g.aw[i].aO.toNat) (by omega) (λk (p:Bool×List (List Hp))=>(p.1,k,gh F p.2)) (λp=>p.2.1) (λ_ _=>rfl)
  (λk p=>J g F start p.1 p.2/\bf b p.2/\(p.1=false->d=false/\∀h∈(rw_ b g.aw[i].aO.toNat).take k,Rh F (thp h (b7 g g.aw[i])).1 (thp h (b7 g g.aw[i])).2->cov (rw_ start g.aw[i].To.toNat) (thp h (b7 g g.aw[i])))) (s0:=(d,b)) 0 (λrec k hk p _ hI Y=>?_) (λrec p hI=>?_) ⟨H,bf.refl _,λh=>⟨h,by simp⟩⟩ (Xn _)
 .
  obtain⟨more,row⟩:=p;obtain⟨e,S,I⟩:=hI;dsimp only at e S I;have Z:=Xg hk;obtain⟨b6,c9⟩:=H.R.rp _ _ Z;unfold q9f;dsimp only;rw[if_pos (by simp;omega),iw hk (by omega)];refine Ok.bind (k2i (by simpa using hk) ?_);rw[Yn];have bc:idx (qe4 g) (i:Int)=some (mkp (lev g g.aw[i].aO.toNat) (b7 g g.aw[i])):=k2k (k2i (by unfold qe4;simpa using hi) (by unfold qe4;rw[Yn]));rw[bc];refine Ok.bind (Ok.some ?_);have A:=jn1 (F:=F) (n:=(lev g g.aw[i].aO.toNat:Int)) b6 j.1 (by omega);obtain⟨x,L⟩:∃x:Hp,x=thp (rw_ b g.aw[i].aO.toNat)[k] (b7 g g.aw[i]):=⟨_,rfl⟩;have o:qq2 (mkp F (rw_ b g.aw[i].aO.toNat)[k]) (mkp (lev g g.aw[i].aO.toNat) (b7 g g.aw[i]))=some (if Rh F x.1 x.2 then (mkp F x,true)else (none,false)):=by rw[L];exact A
  rw[o];clear A o;refine Ok.bind (Ok.some ?_);have B:∀more:Bool,(more=false->d=false/\∀h∈(rw_ b g.aw[i].aO.toNat).take k,Rh F (thp h (b7 g g.aw[i])).1 (thp h (b7 g g.aw[i])).2->cov (rw_ start g.aw[i].To.toNat) (thp h (b7 g g.aw[i])))->
   more=false->(Rh F x.1 x.2->cov (rw_ start g.aw[i].To.toNat) x)->d=false/\∀h∈(rw_ b g.aw[i].aO.toNat).take (k+1),Rh F (thp h (b7 g g.aw[i])).1 (thp h (b7 g g.aw[i])).2->cov (rw_ start g.aw[i].To.toNat) (thp h (b7 g g.aw[i])):=λmore I a bi=>by
   obtain⟨b1,b2⟩:=I a;refine⟨b1,λh G M=>?_⟩;rw[snoc hk,Xj,Xq]at G;rcases G with G|rfl
   . exact b2 h G M
   rw[<-L]at M⊢;exact bi M
  by_cases hR:Rh F x.1 x.2
  .
   rw[if_pos hR];dsimp only;rw[if_pos rfl];have cb:=e.R.len;rw[b5];refine Ok.bind (eC (by omega) ?_);have a6:=j.1.kl;have cc:=j.1.kf;have ao:x.2.length=lev g g.aw[i].To.toNat:=by
    rw[<-j.2,L]
    show (th _ _ _).length=_
    unfold th;rw[Xc,qx8 (by omega) a6,Xk];omega
   have N:Rp F (lev g g.aw[i].To.toNat) x:=⟨hR,ao⟩;have ar:x.2.getD 0 0=0:=by rw[L];exact jt5 H.R Z W X (q _).1
   have b0:lev g g.aw[i].To.toNat=4->∀C,bf row C->Wit g.al.length (lev g) C x:=λh4 C hc=>by
    rw[L];exact jl3 H.R U Z W X (λv=>(q v).2) (q _).1 (bf.trans S hc) (by
     have:=j.2;unfold b7 at this;rw[this];exact h4)
   have c5:=e.R.short (by omega) (λv=>(q v).2) g.aw[i].To.toNat;rw[put_eq (e.R.rp _) N (by omega)];refine Ok.bind (Ok.some ?_);dsimp only;rw[Xf,js9];obtain⟨R',c'⟩:=e.R.put V N ar b0;have m:=j8z (rw_ row g.aw[i].To.toNat) x;have bk:cov (rw_ (row.set g.aw[i].To.toNat (q8g (rw_ row g.aw[i].To.toNat) x).1) g.aw[i].To.toNat) x:=by
    rw[z1a (by omega),if_pos rfl];exact m
   have bs:x.2.getD 3 0<33:=by
    by_cases h4:lev g g.aw[i].To.toNat=4
    . have:=(b0 h4 row (bf.refl _)).small (by omega);omega
    have:=(q g.aw[i].To.toNat).2;rw[getD_none (by omega)];decide
   have b3:∀T,ClT g F T->bf start T->bf (row.set g.aw[i].To.toNat (q8g (rw_ row g.aw[i].To.toNat) x).1) T:=λT K D=>by
    have bv:cov (rw_ T g.aw[i].To.toNat) x:=by
     obtain⟨z,hz,c1⟩:=H.s T K D g.aw[i].aO.toNat _ ⟨_,Z,cu _⟩;obtain⟨m1,m2⟩:=j8a (K.rp _ _ hz) (H.R.rp _ _ Z) rfl j.1 c1 (by rw[<-L];exact hR);obtain⟨y,E,c2⟩:=K.cl _ hm z hz m1;rw[L];refine⟨y,E,z4b (n:=lev g g.aw[i].To.toNat) (K.rp _ _ E).2 ?_ c2 m2⟩;have h5:=(K.rp _ _ hz).2
     show (th _ _ _).length=_
     rw[bw (by omega) a6];exact j.2
    intro w z ⟨y,E,O⟩;rw[z1a (by omega)]at E
    by_cases hw:w=g.aw[i].To.toNat
    .
     subst hw;rw[if_pos rfl]at E;rcases dG E with E|rfl
     . exact e.s T K D _ z ⟨y,E,O⟩
     obtain⟨t,b4,c4⟩:=bv;exact⟨t,b4,z4b (n:=lev g g.aw[i].To.toNat) (K.rp _ _ b4).2 ao c4 O⟩
    rw[if_neg hw]at E;exact e.s T K D w z ⟨y,E,O⟩
   refine Y (more||(q8g (rw_ row g.aw[i].To.toNat) x).2,row.set g.aw[i].To.toNat (q8g (rw_ row g.aw[i].To.toNat) x).1) ⟨⟨R',bf.trans e.c c',λa=>?_,λa=>?_,b3⟩,bf.trans S c',λa=>?_⟩
   .
    dsimp only at a⊢
    cases P:(q8g (rw_ row g.aw[i].To.toNat) x).2 with
    |true=>exact Nat.lt_of_le_of_lt (jw2 e.c) (jw1 c' V N ar bs (ji7 P) bk)
    |false=>
     rw[P,Bool.or_false]at a;rw[zk8 P,zw4];exact e.t a
   . dsimp only at a⊢;simp only[Xo]at a;rw[zk8 a.2,zw4];exact e.f a.1
   dsimp only at a;simp only[Xo]at a;refine B more I a.1 λ_=>?_;rw[zk8 a.2,e.f a.1]at m;exact m
  rw[if_neg hR];dsimp only;rw[if_neg (by simp)];exact Y (more,row) ⟨e,S,λa=>B more I a λh=>absurd h hR⟩
 obtain⟨more,row⟩:=p;obtain⟨e,S,I⟩:=hI;dsimp only at e S I;unfold q9f;dsimp only;rw[if_neg (by simp),iw hi (by omega)];refine hr more row e λa=>?_;obtain⟨b1,b2⟩:=I a;rw[Xu]at b2;refine⟨b1,?_⟩;rw[H.f b1]at b2;exact b2
end
end HP
end
section
open Go Go.RowKit VA
namespace HP
open Classical
structure fJ(g:aa)(f:Nat)(row:List (List Hp)):Prop where
 R:Row (lev g f:Int) g.al.length (lev g) row
 self:cov (rw_ row f) (lev g f,Xa (lev g f) 0)
 cl:∀e∈g.aw,ClE g (lev g f:Int) row e
 mn:∀T,ClT g (lev g f:Int) T->cov (rw_ T f) (lev g f,Xa (lev g f) 0)->bf row T
section
variable {g:aa} (hG:VA.Good g) {F:Int}
include hG
theorem ja3{start:List (List Hp)}(t:Row F g.al.length (lev g) start){a:Bool×(List (List aH))->Option (List (List (List aH)))}{Q:List (List (List aH))->Prop}
 (u:∀more row,J g F start more row->(more=false->∀e∈g.aw,ClE g F start e)->Ok (a (more,gh F row)) Q):
 Ok (q02 (q9g g (qe4 g) a) rounds (false,0,gh F start)) Q:=by
 have w:=hG.el;refine dm (l:=g.aw) (by omega) (λi (p:Bool×List (List Hp))=>(p.1,i,gh F p.2)) (λp=>p.2.1) (λ_ _=>rfl)
  (λi p=>J g F start p.1 p.2/\(p.1=false->∀e∈g.aw.take i,ClE g F start e)) (s0:=(false,start)) 0 (λrec i hi p _ k m=>?_) (λrec p k=>?_) ⟨⟨t,bf.refl _,(λh=>by cases h),(λ_=>rfl),λ_ _ h=>h⟩,by simp⟩ (Xn _)
 .
  obtain⟨more,row⟩:=p;obtain⟨c,d⟩:=k;dsimp only at c d;obtain⟨n,C,_⟩:=hG.ed.at (Xg hi);have y:=c.R.len;unfold q9g;dsimp only;rw[if_pos (by simp;omega)];refine Ok.bind (k2i hi ?_);have o:g.aw[i].aO=((g.aw[i].aO.toNat:Nat):Int):=by have:=n.1;omega
  rw[o];refine Ok.bind (eC (by have:=n.1;have:=n.2;omega) ?_);refine jk2 hG c hi λb f z q=>m (b,f) ⟨z,λs=>?_⟩;obtain⟨A,B⟩:=q s;intro e j;rw[snoc hi,Xj,Xq]at j;rcases j with j|rfl
  . exact d A e j
  exact B
 obtain⟨more,row⟩:=p;obtain⟨c,d⟩:=k;dsimp only at c d;unfold q9g;dsimp only;rw[if_neg (by simp)];rw[Xu]at d;exact u more row c d
omit hG in
theorem k1g:U=5*1048577*1048577*33:=rfl
theorem jq5{f:Nat}{a:List (List Hp)}(C:Row (lev g f:Int) g.al.length (lev g) a)(D:cov (rw_ a f) (lev g f,Xa (lev g f) 0))(o:∀T,ClT g (lev g f:Int) T->cov (rw_ T f) (lev g f,Xa (lev g f) 0)->bf a T){T:List (List (List aH))}(n:f<T.length){b:Int×(List (List (List aH)))->Option (List (List (List aH)))}{Q:List (List (List aH))->Prop}
 (E:∀row,fJ g f row->Ok (b (IntKind.i64.wrap ((f:Int)+1),T.set f (gh (lev g f:Int) row))) Q):
 Ok (q02 (qh7 g (qe4 g) (f:Int) T b) rounds (true,gh (lev g f:Int) a)) Q:=by
 have G:=hG.nl;have hb:=zr3 g.al.length (lev g) a;refine zt3 (λp:Bool×List (List Hp)=>(p.1,gh (lev g f:Int) p.2)) (λp=>Row (lev g f:Int) g.al.length (lev g) p.2/\cov (rw_ p.2 f) (lev g f,Xa (lev g f) 0)/\(p.1=false->∀e∈g.aw,ClE g (lev g f:Int) p.2 e)/\(∀T,ClT g (lev g f:Int) T->cov (rw_ T f) (lev g f,Xa (lev g f) 0)->bf p.2 T))
  (λp=>if p.1=true then g.al.length*U-Phi g.al.length (lev g) p.2+1 else 0) ?_ rounds (true,a) ⟨C,D,(λh=>by cases h),o⟩ ?_
 .
  rintro rec ⟨more,row⟩ ⟨q,u,B,w⟩ l;dsimp only at q u B w l;unfold qh7;dsimp only;refine k2h (λy=>?_) (λy=>?_)
  .
   refine ja3 hG q λd k m z=>l (d,k) ⟨m.R,m.c _ _ u,λj=>?_,λT n A=>m.s T n (w T n A)⟩ ?_
   . dsimp only at j⊢;have:=z j;rw[m.f j];exact this
   dsimp only;rw[if_pos y];have H:=zr3 g.al.length (lev g) k
   cases j:d with
   |true=>have:=m.t j;simp only[if_true];omega
   |false=>simp
  refine Ok.bind (k2i n ?_);rw[Xf];exact E row ⟨q,u,B y,w⟩
 simp only[if_true];have I:g.al.length*U<=32*U:=Yv _ G.2;have:32*U+1<rounds:=by rw[k1g];simp only[rounds];omega
 omega
theorem j72{f:Nat}(l:f<g.al.length):Row (lev g f:Int) g.al.length (lev g) ((Xa g.al.length []).set f [(lev g f,Xa (lev g f) 0)])/\cov (rw_ ((Xa g.al.length []).set f [(lev g f,Xa (lev g f) 0)]) f) (lev g f,Xa (lev g f) 0)/\(∀T,ClT g (lev g f:Int) T->cov (rw_ T f) (lev g f,Xa (lev g f) 0)->bf ((Xa g.al.length []).set f [(lev g f,Xa (lev g f) 0)]) T):=by
 obtain⟨l1,l4⟩:=fC hG f;have b:f<(Xa g.al.length ([]:List Hp)).length:=by simpa using l
 have c:∀w,rw_ ((Xa g.al.length []).set f [(lev g f,Xa (lev g f) 0)]) w=if w=f then [(lev g f,Xa (lev g f) 0)]else []:=λw=>by
  rw[z1a b]
  split
  . rfl
  unfold rw_;rw[Xe,Yh];split<;>rfl
 have a:∀w p,p∈rw_ ((Xa g.al.length []).set f [(lev g f,Xa (lev g f) 0)]) w->w=f/\p=(lev g f,Xa (lev g f) 0):=λw p hp=>by
  rw[c]at hp
  split at hp
  . rename_i h;exact⟨h,by simpa using hp⟩
  cases hp
 refine⟨⟨by simp,λw p hp=>?_,λw p hp=>?_,λw=>?_,λw u p hp=>?_⟩,?_⟩
 . obtain⟨rfl,rfl⟩:=a w p hp;exact⟨(z9n l1 l4).1,by simp⟩
 . obtain⟨rfl,rfl⟩:=a w p hp;dsimp only;rw[Xe,Yh];split<;>rfl
 .
  rw[c]
  split
  . exact List.pairwise_singleton _ _
  exact List.Pairwise.nil
 . obtain⟨rfl,rfl⟩:=a w p hp;refine⟨[],by simp,?_,λj m=>by simp at m⟩;dsimp only;rw[Xe,Yh];split<;>rfl
 refine⟨by rw[c,if_pos rfl];exact⟨_,by simp,cu _⟩,λT o q w z ⟨y,s,d⟩=>?_⟩;obtain⟨rfl,rfl⟩:=a w y s;obtain⟨t,k,e⟩:=q;exact⟨t,k,z4b (n:=lev g w) (o.rp _ _ k).2 (by simp) e d⟩
def dU(g:aa)(tbl:Nat->List (List Hp))(n:Nat):List (List (List aH)):=(Zf n).map λj=>gh (lev g j:Int) (tbl j)
theorem fb:Ok (qa6 g) λt=>∃tbl:Nat->List (List Hp),t=dU g tbl g.al.length/\∀j<g.al.length,fJ g j (tbl j):=by
 have D:=hG.nl;have u:=hG.el;unfold qa6;rw[zd9];refine Ok.bind (Ok.some ?_);rw[z3o.2 hG,if_neg (by simp)];refine Ok.guard (by omega) (Ok.guard (by omega) ?_);have w:(⟨0,0,0,(⟨0,0,0,0⟩:bq Int),(⟨0,0,0,0⟩:bq Int)⟩:aH)=none:=rfl;refine dm (l:=g.aw) (by omega) (λi (a:List aH)=>(i,a)) (λp=>p.1) (λ_ _=>rfl) (λi a=>a=(qe4 g).take i++Xa (g.aw.length-i) none) 0 (λrec i hi a _ d y=>?_) (λrec a d=>?_) (by simp[w]) (Xn _)
 .
  subst d;have z:(qe4 g).length=g.aw.length:=by unfold qe4;simp
  unfold qh6;dsimp only;rw[if_pos (by simp;omega),iw hi (by omega)];refine Ok.bind (k2i hi ?_);rw[(step_eq hG (Xg hi)).2];refine Ok.bind (Ok.some (Ok.bind (k2i (by simp;omega) (y _ ?_))));rw[Xf,snoc (show i<(qe4 g).length by omega)];have c:((qe4 g).take i).length=i:=by rw[Xb];omega
  rw[Zc _ _ (by omega),c,Yy];obtain⟨m,k⟩:∃m,g.aw.length-i=m+1:=⟨g.aw.length-i-1,by omega⟩;rw[k,X5,Zk,Xh,show g.aw.length-(i+1)=m by omega]
  congr 2
  unfold qe4;rw[Yn];rfl
 subst d;unfold qh6;dsimp only;rw[if_neg (by simp),Yy,Zi,Xx,Xm (by unfold qe4;simp)];unfold qh5;refine dm (l:=g.al) (by omega) (λi (a:List (List (List aH)))=>(i,a)) (λp=>p.1) (λ_ _=>rfl) (λi a=>∃tbl:Nat->List (List Hp),a=dU g tbl i++Xa (g.al.length-i) []/\∀j<i,fJ g j (tbl j)) 0 (λe i hi a _ d n=>?_) (λe a d=>?_) ⟨λ_=>[],by simp[dU],by simp⟩ (Xn _)
 .
  obtain⟨tbl,rfl,b⟩:=d;obtain⟨l1,l4⟩:=fC hG i;unfold qh8;dsimp only;rw[if_pos (by simp;omega)];refine Ok.guard (by omega) ?_;rw[cZ hG hi];refine Ok.bind (Ok.some ?_);rw[(z9n l1 l4).2];refine Ok.bind (Ok.some (Ok.bind (k2i (by simpa using hi) ?_)));dsimp only;rw[Xf];have o:(Xa g.al.length ([]:List aH)).set i [mk (lev g i:Int) (lev g i) (Xa (lev g i) 0)]=gh (lev g i:Int) ((Xa g.al.length []).set i [(lev g i,Xa (lev g i) 0)]):=by
   unfold gh;rw[List.map_set,List.map_replicate];rfl
  rw[o];obtain⟨A,s0,B⟩:=j72 hG hi;have c:(dU g tbl i).length=i:=by unfold dU;simp
  refine jq5 hG A s0 B (by rw[Xc,c,Xp];omega) λrow f=>?_;rw[iw hi (by omega)];refine n _ ⟨λj=>if j=i then row else tbl j,?_,λj s=>?_⟩
  .
   rw[Zc _ _ (by omega),c,Yy];obtain⟨m,k⟩:∃m,g.al.length-i=m+1:=⟨g.al.length-i-1,by omega⟩;rw[k,X5,Zk,show g.al.length-(i+1)=m by omega];have C:dU g (λj=>if j=i then row else tbl j) (i+1)=dU g tbl i++[gh (lev g i:Int) row]:=by
    unfold dU;rw[List.range_succ,Yw]
    congr 1
    .
     refine Zh λj s=>?_;have q:¬j=i:=Nat.ne_of_lt (Za.1 s)
     show gh _ (if j=i then row else tbl j)=_
     rw[if_neg q]
    simp
   rw[C,Xh];rfl
  by_cases h:j=i
  . subst h;simp only[if_true];exact f
  simp only[if_neg h];exact b j (by omega)
 obtain⟨tbl,rfl,b⟩:=d;unfold qh8;dsimp only;rw[if_neg (by simp),Yy,Zi,Xx];exact Ok.some ⟨tbl,rfl,b⟩
end
end HP
end
section
open Go Go.RowKit VA
namespace HP
open Classical
def tm(ys:List Int):af:=⟨(ys.length:Int),pad ys⟩
def four(p:bq Int):List Int:=[p.a0,p.a1,p.a2,p.a3]
theorem jm2{S Y:List Int}(h:S.length+Y.length<=4):cpL (four (pad S)) (four (pad Y)) S.length Y.length=four (pad (S++Y)):=by
 rcases S with _|⟨a,_|⟨b,_|⟨c,_|⟨d,_|⟨e,S⟩⟩⟩⟩⟩<;>rcases Y with _|⟨p,_|⟨q,_|⟨u,_|⟨v,_|⟨w,Y⟩⟩⟩⟩⟩<;>first
  |rfl
  |(exfalso;simp only[Xl,List.length_nil]at h;omega)
theorem bO{t:af}(a:TS.ok t):((TS.lst t).length:Int)=t.D:=by
 unfold TS.lst;have:=a.1;have:=a.2.1;rw[Xb];simp;omega
theorem dY{t:af}(a:TS.ok t):pad (TS.lst t)=t.C:=by
 have b:=TS.cL a;obtain⟨D,⟨a0,a1,a2,a3⟩⟩:=t;unfold TS.ok at a;dsimp only at b a;rcases b with rfl|rfl|rfl|rfl
 .
  simp only[Zl,if_false]at a;obtain⟨rfl,rfl,rfl⟩:a1=0/\a2=0/\a3=0:=by omega
  rfl
 .
  simp only[Zl,if_false,if_true]at a;obtain⟨rfl,rfl⟩:a2=0/\a3=0:=by omega
  rfl
 .
  simp only[Zl,if_false,if_true]at a;obtain rfl:a3=0:=by omega
  rfl
 rfl
theorem dB{t:af}(a:TS.ok t):∀x∈TS.lst t,Sm x:=λx b=>by
 have h:x∈[t.C.a0,t.C.a1,t.C.a2,t.C.a3]:=Ze b;unfold TS.ok at a;unfold Sm;simp only[Xw,List.not_mem_nil,or_false]at h;obtain⟨_,_,f,c,d,e⟩:=a;rcases h with rfl|rfl|rfl|rfl
 . omega
 . split at c<;>omega
 . split at d<;>omega
 split at e<;>omega
theorem ej{F:Int}{k:Nat}{xs:List Int}{t:af}(h:Rh F k xs)(m:TS.ok t)(J:t.D=F):
 qt4 (mk F k xs) t=some (if TS.ok (tm (th (TS.lst t) xs k))then (tm (th (TS.lst t) xs k),true)else (⟨0,⟨0,0,0,0⟩⟩,false)):=by
 have o:=h.kl;have q:=h.l1;have K:=h.kf;have L:=bO m;have c:k<=(TS.lst t).length:=by omega
 have d:=qx8 c o;unfold qt4;rw[q9o h];refine k2k (Ok.bind (Ok.some ?_));rw[if_pos rfl,TS.bg];refine Ok.bind (Ok.some ?_);rw[if_neg (by simp[m,zy9,J]),z3g o q];refine Ok.bind (Ok.some ?_);have a:(⟨(xs.length:Int),⟨0,0,0,0⟩⟩:af)=⟨(xs.length:Int),pad ((su (TS.lst t) xs k).take 0)⟩:=by simp[pad]
 rw[a];refine dm (l:=Xa k (0:Int)) (by simp;omega) (λi (b:af)=>(i,b)) (λp=>p.1) (λ_ _=>rfl) (λi b=>b=⟨(xs.length:Int),pad ((su (TS.lst t) xs k).take i)⟩) 0 (λrec i hi b _ s M=>?_) (λrec b s=>?_) rfl (Xn _)
 .
  have hi:i<k:=by simpa using hi
  subst s;have u:i<(su (TS.lst t) xs k).length:=by omega
  have w:=zw0 c o hi;have y:=dB m _ (Xg (show i<(TS.lst t).length by omega));have z:=h.sm _ (Xg (show i<xs.length by omega));have e:IntKind.i64.wrap ((TS.lst t)[i]+xs[i])=(su (TS.lst t) xs k)[i]:=by rw[w,wrap_i64 _ (by unfold Sm at y z;omega)]
  have A:IntKind.i64.wrap ((i:Int)+1)=((i+1:Nat):Int):=iw hi (by omega);have B:idx [t.C.a0,t.C.a1,t.C.a2,t.C.a3] (i:Int)=some (TS.lst t)[i]:=by
   have:=qp4 (l:=TS.lst t) (i:=i) (by omega);rw[aW (by omega),dY m]at this;exact this
  have E:idx [(mk F k xs).Add.a0,(mk F k xs).Add.a1,(mk F k xs).Add.a2,(mk F k xs).Add.a3] (i:Int)=some xs[i]:=by
   have:=qp4 (l:=xs.take k) (i:=i) (by omega);rw[aW (by rw[Xb];omega),X3]at this;exact this
  unfold qq6;dsimp only;rw[if_pos (by rw[qv6];simp;omega),A,B];refine Ok.guard (by omega) (Ok.bind (Ok.some (Ok.guard (by omega) ?_)));rw[E];refine Ok.bind (Ok.some (Ok.guard (by omega) (Ok.bind (Ok.some (Ok.bind (Ok.some (Ok.bind (Ok.some (Ok.bind (Ok.some (M _ ?_)))))))))));have G:((su (TS.lst t) xs k).take i).length=i:=by rw[Xb];omega
  have f:=z97 (l:=(su (TS.lst t) xs k).take i) (x:=(su (TS.lst t) xs k)[i]) (by omega);rw[G]at f;rw[Xf,e,f,snoc u]
 subst s;unfold qq6;dsimp only;rw[if_neg (by rw[qv6];simp),Xp,show (su (TS.lst t) xs k).take k=su (TS.lst t) xs k from Xm (by omega)];unfold qq5;refine Ok.guard (by rw[qv6];omega) (Ok.guard (by rw[z8c];omega) ?_);have g:(xs.drop k).length=xs.length-k:=Xk;have H:cpL [(pad (su (TS.lst t) xs k)).a0,(pad (su (TS.lst t) xs k)).a1,(pad (su (TS.lst t) xs k)).a2,(pad (su (TS.lst t) xs k)).a3] [(mk F k xs).T.a0,(mk F k xs).T.a1,(mk F k xs).T.a2,(mk F k xs).T.a3] (Int.toNat (mk F k xs).br) (Int.toNat (mk F k xs).bL)=four (pad (th (TS.lst t) xs k)):=by
  rw[qv6,z8c,Xf,Xf];have:=jm2 (S:=su (TS.lst t) xs k) (Y:=xs.drop k) (by omega);rw[d,g]at this;exact this
 dsimp only;rw[H];refine Ok.bind (Ok.some (Ok.bind (Ok.some (Ok.bind (Ok.some (Ok.bind (Ok.some ?_)))))));have I:(th (TS.lst t) xs k).length=xs.length:=by unfold th;rw[Xc,d,g];omega
 have j:(⟨(xs.length:Int),⟨(four (pad (th (TS.lst t) xs k))).getD 0 0,(four (pad (th (TS.lst t) xs k))).getD 1 0,(four (pad (th (TS.lst t) xs k))).getD 2 0,(four (pad (th (TS.lst t) xs k))).getD 3 0⟩⟩:af)=tm (th (TS.lst t) xs k):=by
  unfold tm;rw[I];rfl
 rw[j,TS.bg];refine Ok.bind (Ok.some ?_)
 by_cases n:TS.ok (tm (th (TS.lst t) xs k))
 . rw[if_neg (by simp[n]),if_pos n];exact Ok.some rfl
 rw[if_pos (by simp[n]),if_neg n];exact Ok.some rfl
end HP
end
section
open Go Go.RowKit VA
namespace HP
open Classical
theorem fz{ts xs ys:List Int}{k k':Nat}(c:∀x∈ts,Sm x)(d:k<=ts.length)(e:k<=xs.length)(a:k'<=ts.length)(b:k'<=ys.length)(j:xs.length=ys.length)(h:le k xs k' ys)(i:Nat):(th ts xs k).getD i 0<=(th ts ys k').getD i 0:=by
 by_cases hi:i<xs.length
 .
  rw[bP d e hi,bP a b (by omega)];have hp:xs.getD i 0<=ys.getD i 0:=by rw[aW hi,aW (show i<ys.length by omega)];exact h.2 i hi (by omega)
  have f:=cq c i;have g:=h.1;unfold Sm at f
  split<;>split<;>omega
 rw[getD_none (by rw[bw d e];omega),getD_none (by rw[bw a b];omega)];exact Xv _
theorem di{ts xs:List Int}{k:Nat}(a:∀x∈ts,Sm x)(b:∀x∈xs,Sm x)(c:k<=ts.length)(d:k<=xs.length)(i:Nat):0<=(th ts xs k).getD i 0:=by
 by_cases hi:i<xs.length
 .
  rw[bP c d hi];have e:=cq a i;have f:=cq b i;unfold Sm at e f
  split<;>omega
 rw[getD_none (by rw[bw c d];omega)];exact Xv _
theorem fL{a b:List Int}(f:a.length=b.length)(e:∀i,0<=a.getD i 0)(c:∀i,a.getD i 0<=b.getD i 0)(hb:TS.ok (tm b)):TS.ok (tm a)/\TS.le (tm a) (tm b):=by
 have d:TS.ok (tm a):=by
  unfold TS.ok tm at hb⊢;unfold pad at hb⊢;dsimp only at hb⊢;rw[f];obtain⟨g,j,q,k,l,m⟩:=hb;have a0:=e 0;have a1:=e 1;have a2:=e 2;have a3:=e 3;have b0:=c 0;have n:=c 1;have o:=c 2;have p:=c 3;refine⟨g,j,⟨a0,by omega⟩,⟨a1,Ys n k.2⟩,⟨a2,Ys o l.2⟩,⟨a3,Ys p m.2⟩⟩
 exact⟨d,d,hb,by unfold tm;dsimp only;rw[f],c 0,c 1,c 2,c 3⟩
end HP
end
section
open Go Go.RowKit TS VA
namespace UN
theorem dL(g:aa):Ok (q45 g) λr=>r=true->(g.ae.length<=20/\g.aG.length<=20/\g.al.length<=60/\g.aw.length<=100)/\∀x∈g.al,x.Prog.length<=100:=by
 unfold q45;refine k2h (λ_=>Ok.some λh=>by cases h) (λb=>?_);simp only[Xo,decide_eq_false_iff_not]at b;refine k2l (l:=g.al) (by omega) (λi=>∀x∈g.al.take i,x.Prog.length<=100) 0 (λrec i hi _ a c=>?_) (λrec a=>?_) (by simp) (Xn _)
 . unfold q44;rw[if_pos (by simpa using hi)];refine Ok.bind (k2i hi ?_);refine k2h (λ_=>Ok.some λh=>by cases h) (λd=>?_);rw[iw hi (by omega)];exact c ((qk4 hi).2 ⟨a,by simp at d;omega⟩)
 unfold q44;rw[if_neg (by simp)];rw[Xu]at a;exact Ok.some λ_=>⟨by omega,a⟩
end UN
end
end Go.Proofs.YtdcdfkdhomekeaaGreat

/-
  The laws in plain words: what the plain functions give. No condition beyond those that each theorem names.
-/
import Derived.Test.YtomicnbiniapfaaGreatWalkFM0
import Derived.Test.YtomicnbiniapfaaGreatLibD
import Derived.Test.YtomicnbiniapfaaGreatWalkFM1
set_option linter.unusedSimpArgs false
set_option linter.unusedVariables false
set_option linter.unusedSectionVars false
open List renaming take_succ_eq_append_getElem->Xa,length_take->Xd,take_length->Xf,getD_eq_getElem?_getD->Xh,getElem_mem->Xj,mem_singleton->Xk,mem_append->Xl,take_append_drop->Xm,replicate->Xp,mem_filter->Xs,length_filter_le->Xt,drop_eq_getElem_cons->Xw,getElem?_eq_getElem->Xx,mem_iff_getElem->Xy,append_nil->X3,mem_of_mem_take->X4,append_assoc->X5,range->X7,pairwise_iff_getElem->X8,length_cons->X9,mem_map->Ya,length->Yc,mem_append_left->Yd,filter_cons->Ye,mem_cons_self->Yf,filter_append->Yg,length_replicate->Yi,mem_cons->Yk,getElem_take->Yl,mem_of_find?_eq_some->Ym,pairwise_append->Yn,mem_of_mem_drop->Yo,mem_range->Yp,take_take->Yq,cons_append->Yr,pairwise_cons->Yu,find?_eq_none->Yv,set_append_right->Yy,length_drop->Yz,map_cons->Y4,length_reverse->Y5,filter_eq_self->Y6,length_append->Y7,take_of_length_le->Y9,any_eq_true->Za,mem_flatMap->Zb,mem_append_right->Zc,filter_nil->Zd,map_append->Ze,mem_cons_of_mem->Zf,take_append_of_le_length->Zi,take_replicate->Zk,drop_drop->Zm,getElem?_append_right->Zn,any_eq_false->Zo,length_range->Zp,getElem_drop->Zq,find?_range_eq_some->Zs,map_nil->Zt,nil_append->Zv,length_map->Zw,find?_some->Zx,drop_of_length_le->Zz,getElem_cons_zero->Z0,getElem?_eq_none->Z4,take_zero->Z5,mem_of_getElem?->Z6,sum_cons->Z9,filter_sublist->Wa,replicate_succ->Wb,take->Wd,reverse_cons->Wg,getElem?_set->Wh,flatMap_cons->Wj,all_eq_true->Wk,mem_reverse->Wl
open Bool renaming not_eq_true'->Xb,not_eq_false'->Xc,and_eq_true->Xi,or_eq_false_iff->Xr,or_eq_true->Xu,and_eq_false_iff->Xv,false_eq_true->Xz,eq_iff_iff->Yh,true_and->Y0,false_and->Zl,beq_eq_decide_eq->Z3,not_true->Z7,or_false->Z8,or_true->We
open Nat renaming zero_le->Xe,lt_or_eq_of_le->X0,lt_succ_iff->X6,le_refl->Yb,min_eq_left->Yj,lt_or_ge->Yx,sub_self->Y8,le_trans->Zg,and_two_pow_sub_one_eq_mod->Zh,zero_add->Wc,lt_trichotomy->Wi
open Int renaming toNat_natCast->Xg,toNat_of_nonneg->Ys,lt_or_eq_of_le->Yt,fdiv_eq_ediv_of_nonneg->Y3,mul_le_mul_of_nonneg_left->Zj,natCast_zero->Zr,add_zero->Zu,emod_nonneg->Zy,emod_lt_of_pos->Wf,fdiv->Wm
open Option renaming bind_some->Xo,bind_eq_some_iff->Xq,some.injEq->Yw
namespace Go.Proofs.YtomicnbiniapfaaGreat
section
open Go Go.RowKit
namespace VA
theorem qj3{α:Type}{l:List α}{i:Int}(d:α)(G:0<=i)(I:i<l.length):idx l i=some (l.getD i.toNat d):=by
 unfold idx;rw[if_pos G,Xx (by omega),Xh,Xx (by omega)];rfl
theorem w1{i:Int}{n:Nat}(G:0<=i)(h:i<n)(I:n<1000000000):IntKind.i64.wrap (i+1)=i+1:=wrap_i64 _ (by omega)
def up(P:List Int):Nat->Int->List Int
 |0,_=>[]
 |k+1,s=>if 0<=s/\s<P.length then s::up P k (P.getD s.toNat 0)else []
def anc(P:List Int)(s:Int):List Int:=up P (s.toNat+1) s
def WP(P:List Int)(m:Nat):Prop:=m<=P.length/\∀s:Int,0<=s->s<m->P.getD s.toNat 0<s/\(0<s->0<=P.getD s.toNat 0)/\(s=0->P.getD s.toNat 0=-1)
def inS(m:Nat)(s:Int):Prop:=s=-1\/0<=s/\s<m
theorem WP.down{P:List Int}{m:Nat}(h:WP P m){s:Int}(I:0<=s)(T:s<m):inS m (P.getD s.toNat 0):=by
 obtain⟨a,b,c⟩:=h.2 s I T;rcases Yt I with G|G
 . exact .inr ⟨b G,by omega⟩
 exact .inl (c G.symm)
theorem j43{P:List Int}{m:Nat}(h:WP P m):∀(k I:Nat) (s:Int),inS m s->s<k->s<I->up P k s=up P I s
 |0,I,s,G,W,Z=>by
  rcases G with rfl|G
  .
   cases I with
   |zero=>rfl
   |succ I=>simp[up]
  omega
 |k+1,0,s,G,W,Z=>by
  rcases G with rfl|G
  . simp[up]
  omega
 |k+1,I+1,s,G,W,Z=>by
  simp only[up]
  split
  .
   rename_i hc
   have T:s<m:=by
    rcases G with rfl|G
    . omega
    exact G.2
   have hd:=(h.2 s hc.1 T).1;rw[j43 h k I _ (h.down hc.1 T) (by omega) (by omega)]
  rfl
theorem q8o(P:List Int):anc P (-1)=[]:=by simp[anc,up]
theorem q55{P:List Int}{m:Nat}(h:WP P m){s:Int}(G:0<=s)(I:s<m):anc P s=s::anc P (P.getD s.toNat 0):=by
 have T:=h.1;have hd:=(h.2 s G I).1;unfold anc;rw[up,if_pos ⟨G,by omega⟩]
 congr 1
 refine j43 h _ _ _ (h.down G I) (by omega) (by omega)
theorem j5e{P:List Int}{m:Nat}(h:WP P m):∀(k:Nat) (s:Int),inS m s->s<k->((anc P s).length:Int)<=s+1
 |0,s,G,I=>by
  rcases G with rfl|G
  . simp[q8o]
  omega
 |k+1,s,G,I=>by
  rcases G with rfl|G
  . simp[q8o]
  rw[q55 h G.1 G.2,X9];have hd:=(h.2 s G.1 G.2).1;have:=j5e h k _ (h.down G.1 G.2) (by omega);omega
theorem zq0{P:List Int}{m:Nat}(h:WP P m){s:Int}(G:inS m s):(anc P s).length<=m:=by
 have:=j5e h (s.toNat+1) s G (by omega);rcases G with rfl|G
 . simp[q8o]
 omega
theorem zf2{P:List Int}{m:Nat}(h:WP P m):∀(k:Nat) (s:Int),inS m s->s<k->∀x∈anc P s,0<=x/\x<=s
 |0,s,G,T,x,I=>by
  rcases G with rfl|G
  . simp[q8o]at I
  omega
 |k+1,s,G,T,x,I=>by
  rcases G with rfl|G
  . simp[q8o]at I
  rw[q55 h G.1 G.2]at I;rcases Yk.1 I with rfl|I
  . exact⟨G.1,by omega⟩
  have hd:=(h.2 s G.1 G.2).1;have:=zf2 h k _ (h.down G.1 G.2) (by omega) x I;omega
theorem jj6{g:aa}{m:Nat}(h:WP g.af m)(hm:m<=8)(hl:g.af.length<=1000){s:Int}(G:inS m s):qz1 g s=some ((anc g.af s).length:Int):=by
 have T:=h.1;refine Ok.eq (k3p (fun p:Int×Int=>inS m p.2/\0<=p.1/\p.1+(anc g.af p.2).length=(anc g.af s).length) (fun p=>(p.2+1).toNat) ?_ ⟨G,by omega,by simp⟩ (by
  simp only[rounds];rcases G with rfl|G<;>omega))
 rintro rec ⟨d,p⟩ ⟨hi,hd,I⟩ W;have Z:=zq0 h G;dsimp only at hi hd I;simp only[z04,q3i,q9,Xo];rcases hi with rfl|hi
 . simp only[show ¬((0:Int)<=-1) by omega,decide_false,Zl,Xz,if_false];rw[q8o]at I;exact Ok.some (by simpa using I)
 rw[q55 h hi.1 hi.2,X9]at I;rw[if_pos (by simp only[Xi,decide_eq_true_eq];omega)];refine k3m (Ok.bM hi.1 (by omega) (Q:=fun x=>x=g.af.getD p.toNat 0) fun x hx=>by rw[Xh,hx];rfl) ?_;rintro x rfl;rw[wrap_i64 _ (by omega)];have a6:=(h.2 p hi.1 hi.2).1;exact W _ ⟨h.down hi.1 hi.2,by omega,by simp only;omega⟩ (by simp only;omega)
theorem zk2{g:aa}{m:Nat}(h:WP g.af m)(hm:m<=8){s:Int}(T:inS m s):q44 g s=some (anc g.af s).reverse:=by
 have W:=h.1;refine Ok.eq (k3p (fun p:Int×List Int=>inS m p.1/\(anc g.af p.1).reverse++p.2=(anc g.af s).reverse) (fun p=>(p.1+1).toNat) ?_ ⟨T,by simp⟩ (by
  simp only[rounds];rcases T with rfl|T<;>omega))
 rintro rec ⟨p,out⟩ ⟨hi,I⟩ Z;have a6:=zq0 h T;dsimp only at hi I;have G:=congrArg Yc I;simp only[Y7,Y5]at G;simp only[qf3];rcases hi with rfl|hi
 . simp only[show ¬((0:Int)<=-1) by omega,decide_false,Zl,Xz,if_false];simp only[q8o,List.reverse_nil,Zv]at I;exact Ok.some I
 simp only[q55 h hi.1 hi.2,X9]at G;rw[if_pos (by simp only[Xi,decide_eq_true_eq];omega)];refine Ok.guard (by simp only[X9,List.length_nil];omega) ?_;refine k3m (Ok.bM hi.1 (by omega) (Q:=fun x=>x=g.af.getD p.toNat 0) fun x hx=>by rw[Xh,hx];rfl) ?_;rintro x rfl;have aj:=(h.2 p hi.1 hi.2).1;refine Z _ ⟨h.down hi.1 hi.2,?_⟩ (by simp only;omega);simp only[q55 h hi.1 hi.2,Wg,X5]at I;exact I
def sOk(g:aa)(s:Nat):Bool:=
 if s=0 then g.af.getD 0 0==-1&&g.aG.getD 0 0==0
 else decide (0<=g.af.getD s 0/\g.af.getD s 0<s/\1<=g.aG.getD s 0/\g.aG.getD s 0<=64)&&decide ((anc g.af s).length<=4)
theorem WP.of{g:aa}{m:Nat}(G:m<=g.af.length)(h:∀s<m,sOk g s=true):WP g.af m:=by
 refine⟨G,fun s T W=>?_⟩;have:=h s.toNat (by omega);unfold sOk at this
 split at this
 .
  rename_i I
  rw[Xi,beq_iff_eq]at this;rw[I,this.1];exact⟨by omega,by omega,fun _=>rfl⟩
 rw[Xi,decide_eq_true_eq]at this;exact⟨by omega,fun _=>this.1.1,by omega⟩
theorem WP.next{g:aa}{m:Nat}(h:WP g.af m)(hm:m<g.af.length)(h0:0<m)(T:0<=g.af.getD m 0)(W:g.af.getD m 0<m):WP g.af (m+1):=by
 refine⟨by omega,fun s G Z=>?_⟩;rcases Yt (show s<=m by omega)with I|rfl
 . exact h.2 s G I
 simp only[Xg];exact⟨W,fun _=>T,by omega⟩
theorem getD_some{α:Type}{l:List α}{i:Nat}{x d:α}(h:l[i]?=some x):x=l.getD i d:=by rw[Xh,h];rfl
theorem jd5{g:aa}{s:Nat}(hb:g.aG.length=g.af.length)(hl:g.af.length<=8)(hs:s<g.af.length)(h:∀t<s,sOk g t=true):qo8 g s=some (sOk g s):=by
 have hw:=WP.of (m:=s) (by omega) h;unfold qo8 sOk
 by_cases Z:s=0
 . subst Z;simp only[Zr,beq_self_eq_true,if_true];refine Ok.eq (k3m (Ok.bM (by omega) (by omega) (Q:=fun x=>x=g.af.getD 0 0) fun x I=>getD_some I) ?_);rintro x rfl;refine k3n (fun G=>?_) (fun G=>Ok.some (by rw[G];rfl));refine k3m (Ok.bM (by omega) (by omega) (Q:=fun x=>x=g.aG.getD 0 0) fun x I=>getD_some I) ?_;rintro x rfl;exact Ok.some (by rw[G];rfl)
 rw[if_neg (by simp;omega),if_neg Z];refine Ok.eq (k3m (Ok.bM (by omega) (by omega) (Q:=fun x=>x=g.af.getD s 0) fun x I=>getD_some I) ?_);rintro x rfl;simp only[q3i,q9,Xo];refine k3n (fun G=>?_) (fun G=>Ok.some ?_)
 .
  simp only[Xi,decide_eq_true_eq]at G;have hn:=hw.next hs (by omega) G.1 G.2;refine k3m (Ok.bM (by omega) (by omega) (Q:=fun x=>x=g.aG.getD s 0) fun x I=>getD_some I) ?_;rintro x rfl;refine k3n (fun T=>?_) (fun T=>Ok.some ?_)
  .
   refine k3n (fun W=>?_) (fun W=>Ok.some ?_)
   .
    simp only[decide_eq_true_eq]at T W;refine k3m (k3q (jj6 hn (by omega) (by omega) (s:=s) (.inr ⟨by omega,by omega⟩)) (Q:=fun x=>x=((anc g.af s).length:Int)) rfl) ?_;rintro x rfl;refine Ok.some ?_;rw[decide_eq_true (show 0<=g.af.getD s 0/\g.af.getD s 0<s/\1<=g.aG.getD s 0/\g.aG.getD s 0<=64 from ⟨G.1,G.2,T,W⟩)];simp only[Y0]
    congr 1
    apply propext;omega
   simp only[decide_eq_false_iff_not]at W;rw[decide_eq_false (by omega)];rfl
  simp only[decide_eq_false_iff_not]at T;rw[decide_eq_false (by omega)];rfl
 rw[Xv,decide_eq_false_iff_not,decide_eq_false_iff_not]at G;rw[decide_eq_false (by omega)];rfl
end VA
end
section
open Go Go.RowKit
namespace VA
theorem bK{α T G R:Type}{l:List α}(hl:l.length<9223372036854775807){body:(G->Option R)->G->Option R}(st:Int->T->G)(ix:G->Int)(W:∀i s,ix (st i s)=i)(I:Nat->T->Prop){Q:R->Prop}{s0:T}(i0:Nat)
 (h:∀(rec:G->Option R) (i:Nat) (_:i<l.length) s,i0<=i->I i s->(∀s',I (i+1) s'->Ok (rec (st ((i+1:Nat):Int) s')) Q)->Ok (body rec (st (i:Int) s)) Q)
 (hK:∀(rec:G->Option R) s,I l.length s->Ok (body rec (st (l.length:Int) s)) Q)(h0:I i0 s0)(Z:i0<=l.length):Ok (d9 body rounds (st (i0:Int) s0)) Q:=by
 refine k3p (fun t=>∃(i:Nat) (s:T),t=st (i:Int) s/\i0<=i/\i<=l.length/\I i s) (fun t=>l.length-(ix t).toNat) ?_ ⟨i0,s0,rfl,Yb _,Z,h0⟩ (by simp only[rounds];omega);rintro rec _ ⟨i,s,rfl,h1,h2,h3⟩ hr;rcases Yx i l.length with a6|ak
 . exact h rec i a6 s h1 h3 fun s' aj=>hr _ ⟨i+1,s',rfl,by omega,by omega,aj⟩ (by simp only[W,Xg];omega)
 obtain rfl:i=l.length:=by omega
 exact hK rec s h3
def z3u(L:Nat)(x:bg):Bool:=!(decide (x.Op<1)||decide (16<x.Op))&&(if x.Op=14\/x.Op=15 then !(decide (x.N<0)||decide ((L:Int)<x.N))else (x.Op==1||x.N==0))
def pOk(p:List bg):Bool:=decide (p.length<=64)&&p.all (z3u p.length)
theorem ja1{α:Type}{l:List α}{f:α->Bool}{i:Nat}(h:i<l.length)(G:f l[i]=false):l.all f=false:=List.all_eq_false.2 ⟨_,Xj h,by simp[G]⟩
theorem iw{i:Nat}{N:Nat}(h:i<N)(G:N<9223372036854775807):IntKind.i64.wrap ((i:Int)+1)=((i+1:Nat):Int):=by rw[wrap_i64 _ (by omega)];omega
theorem j8j(p:List bg):qa1 p=some (pOk p):=by
 unfold qa1;refine Ok.eq (k3n (fun h=>Ok.some ?_) (fun h=>?_))
 . simp only[decide_eq_true_eq]at h;unfold pOk;rw[decide_eq_false (by omega)];rfl
 simp only[decide_eq_false_iff_not]at h;have hp:pOk p=p.all (z3u p.length):=by unfold pOk;rw[decide_eq_true (by omega)];simp
 refine k3s (l:=p) (by omega) (fun i=>∀x∈p.take i,z3u p.length x=true) 0 (fun rec i hi _ hI hr=>?_) (fun rec hI=>?_) (by simp) (Xe _)
 .
  unfold qa7;rw[if_pos (by simp only[decide_eq_true_eq];omega)];refine Ok.bind (k3o hi ?_);have T:z3u p.length p[i]=false->pOk p=false:=fun hf=>by rw[hp];exact ja1 hi hf
  have I:z3u p.length p[i]=true->Ok (rec (IntKind.i64.wrap ((i:Int)+1))) (fun r=>r=pOk p):=fun hf=>by
   rw[iw hi (by omega)];exact hr ((q7i hi).2 ⟨hI,hf⟩)
  have hd:z3u p.length p[i]=(!(decide (p[i].Op<1)||decide (16<p[i].Op))&&(if p[i].Op=14\/p[i].Op=15 then !(decide (p[i].N<0)||decide ((p.length:Int)<p[i].N))else (p[i].Op==1||p[i].N==0))):=rfl;refine k3n (fun h1=>Ok.some ?_) (fun h1=>?_)
  . rw[T (by rw[hd,h1];rfl)]
  simp only[qt8,q9,Xo];refine k3n (fun W=>?_) (fun W=>?_)
  .
   simp only[Xu,beq_iff_eq]at W;refine k3n (fun G=>Ok.some ?_) (fun G=>I ?_)
   . rw[T (by rw[hd,if_pos W,G];simp)]
   rw[hd,if_pos W,G,h1];rfl
  have Z:¬(p[i].Op=14\/p[i].Op=15):=by
   intro hh;rcases hh with hh|hh<;>rw[hh]at W<;>simp at W
  refine k3n (fun G=>Ok.some ?_) (fun G=>I ?_)
  . simp only[Xi,Xb,beq_eq_false_iff_ne,ne_eq]at G;rw[T (by rw[hd,if_neg Z,beq_eq_false_iff_ne.2 G.1,beq_eq_false_iff_ne.2 G.2];simp)]
  rw[hd,if_neg Z,h1];simp only[Xv,Xc,beq_iff_eq]at G;rcases G with G|G<;>simp[G]
 unfold qa7;rw[if_neg (by simp)];refine Ok.some ?_;rw[Xf]at hI;rw[hp];exact (Wk.2 hI).symm
theorem j8h{p:List bg}(hl:p.length<1000000000):q7u p=some (pOk p):=by
 unfold q7u;refine Ok.eq (k3s (l:=p) (by omega) (fun i=>∀x∈p.take i,z3u p.length x=true) 0 (fun rec i hi _ T W=>?_) (fun rec T=>?_) (by simp) (Xe _))
 .
  unfold q8n;rw[if_pos (by simp only[decide_eq_true_eq];omega)];refine Ok.bind (k3o hi ?_);have hd:z3u p.length p[i]=(!(decide (p[i].Op<1)||decide (16<p[i].Op))&&(if p[i].Op=14\/p[i].Op=15 then !(decide (p[i].N<0)||decide ((p.length:Int)<p[i].N))else (p[i].Op==1||p[i].N==0))):=rfl;have Z:((((decide (p[i].Op<1))||(decide (16<p[i].Op)))||(((p[i].Op==14)||(p[i].Op==15))&&((decide (p[i].N<0))||(decide ((Yc p:Int)<p[i].N)))))||((((!(p[i].Op==1))&&(!(p[i].Op==14)))&&(!(p[i].Op==15)))&&(!(p[i].N==0))))=!z3u p.length p[i]:=by
   rw[hd]
   by_cases G:p[i].Op=14\/p[i].Op=15
   . rw[if_pos G];rcases G with G|G<;>rw[G]<;>simp
   rw[if_neg G];have h3:(p[i].Op==14)=false:=by simp;omega
   have h4:(p[i].Op==15)=false:=by simp;omega
   rw[h3,h4]
   cases (decide (p[i].Op<1)||decide (16<p[i].Op))<;>cases (p[i].Op==1)<;>cases (p[i].N==0)<;>rfl
  rw[Z];refine k3n (fun I=>Ok.some ?_) (fun I=>?_)
  . simp only[Xb]at I;unfold pOk;rw[ja1 hi I];simp
  simp only[Xc]at I;rw[iw hi (by omega)];exact W ((q7i hi).2 ⟨T,I⟩)
 unfold q8n;rw[if_neg (by simp)];refine Ok.some ?_;rw[Xf]at T;unfold pOk;rw[Wk.2 T,Bool.and_true]
 congr 1;apply propext;omega
def nd(g:aa)(n:Nat):aH:=g.ae.getD n ⟨0,0,0,[]⟩
def fits(g:aa)(n:Nat):Bool:=
 if n=0 then (nd g n).Scope==0
 else decide ((nd g n).Scope∈anc g.af (nd g (n-1)).Scope)||(decide (g.af.getD (nd g n).Scope.toNat 0∈anc g.af (nd g (n-1)).Scope)&&!(g.ae.take n).any fun x=>x.Scope==(nd g n).Scope)
theorem q6g{g:aa}{n:Nat}(h:n<g.ae.length):g.ae[n]=nd g n:=by unfold nd;rw[Xh,Xx h];rfl
theorem j3y{s:List aH}{f:aH->Option Bool}{p:aH->Bool}(G:s.length<9223372036854775808)(I:∀x∈s,f x=some (p x)):q7c s f=some (s.any p):=z02 G I
def inN(g:aa)(x:aH):Prop:=0<=x.Scope/\x.Scope<g.af.length
theorem j9x{g:aa}(hw:WP g.af g.af.length)(h8:g.af.length<=8)(hl:g.ae.length<1000000){n:Nat}(hn:n<g.ae.length)(I:inN g (nd g n))(hb:0<n->inN g (nd g (n-1))):ql2 g n=some (fits g n):=by
 unfold ql2 fits;refine Ok.eq (Ok.bind (k3o hn ?_));rw[q6g hn]
 by_cases h0:n=0
 . subst h0;simp only[Zr,beq_self_eq_true,if_true];exact Ok.some rfl
 rw[if_neg (by simp;omega),if_neg h0];have T:=hb (by omega);have e1:IntKind.i64.wrap ((n:Int)-1)=((n-1:Nat):Int):=by rw[wrap_i64 _ (by omega)];omega
 rw[e1];refine Ok.bind (k3o (show n-1<g.ae.length by omega) ?_);rw[q6g (show n-1<g.ae.length by omega)];refine k3m (Ok.bM I.1 (by exact I.2) (Q:=fun x=>x=g.af.getD (nd g n).Scope.toNat 0) fun x I=>getD_some I) ?_;rintro o rfl;have aj:inS g.af.length (nd g (n-1)).Scope:=.inr T;have hJ:∀fresh:Bool,Ok (qb7 g n (nd g n) fresh) (fun r=>r=(fresh&&!(g.ae.take n).any fun x=>x.Scope==(nd g n).Scope)):=fun fresh=>by
  unfold qb7;refine k3n (fun G=>?_) (fun G=>Ok.some (by rw[G];rfl));refine Ok.guard (by omega) ?_;rw[Xg,j3y (f:=fun ak=>qe6 ak (nd g n).Scope) (p:=fun x=>x.Scope==(nd g n).Scope) (by rw[Xd];omega) (fun x _=>rfl)];exact Ok.bind (Ok.some (Ok.some (by rw[G];rfl)))
 refine k3p (fun p:Bool×Int=>inS g.af.length p.2/\∃pre,anc g.af (nd g (n-1)).Scope=pre++anc g.af p.2/\(nd g n).Scope∉pre/\p.1=decide (g.af.getD (nd g n).Scope.toNat 0∈pre)) (fun p=>(p.2+1).toNat) ?_ ⟨aj,[],by simp,by simp,by simp⟩ (by
  simp only[rounds];have:=T.2;omega)
 rintro rec ⟨fresh,p⟩ ⟨hi,pre,W,Z,hf⟩ hr;dsimp only at hi W hf;unfold qx8;dsimp only;rcases hi with rfl|hi
 . rw[if_neg (by simp)];rw[q8o,X3]at W;refine Ok.mono (hJ fresh) fun r an=>?_;rw[an,W,decide_eq_false Z,hf];simp
 rw[if_pos (by simpa using hi.1)];have a6:=q55 hw hi.1 hi.2;refine k3n (fun G=>Ok.some ?_) (fun G=>?_)
 . rw[beq_iff_eq]at G;rw[decide_eq_true (show (nd g n).Scope∈anc g.af (nd g (n-1)).Scope by rw[W,a6,G];simp)];rfl
 rw[beq_eq_false_iff_ne]at G;refine k3m (Ok.bM hi.1 hi.2 (Q:=fun x=>x=g.af.getD p.toNat 0) fun x I=>getD_some I) ?_;rintro q rfl;have ao:=(hw.2 p hi.1 hi.2).1;refine hr _ ⟨hw.down hi.1 hi.2,pre++[p],by rw[W,a6];simp,by simp;exact⟨Z,Ne.symm G⟩,?_⟩ (by simp only;omega);simp only[hf,Xl,Xk];rw[Bool.decide_or]
 congr 1
 rw[Z3]
 congr 1;apply propext;exact eq_comm
theorem j6y{g:aa}(hw:WP g.af g.af.length)(h8:g.af.length<=8)(hl:g.ae.length<1000000){n:Nat}(hn:n<g.ae.length)(Z:inN g (nd g n))(hb:0<n->inN g (nd g (n-1))):q6i g n=some (fits g n):=by
 unfold q6i fits;refine Ok.eq (Ok.bind (k3o hn ?_));rw[q6g hn]
 by_cases h0:n=0
 . subst h0;simp only[Zr,beq_self_eq_true,if_true];exact Ok.some rfl
 rw[if_neg (by simp;omega),if_neg h0];have ao:=hb (by omega);have e1:IntKind.i64.wrap ((n:Int)-1)=((n-1:Nat):Int):=by rw[wrap_i64 _ (by omega)];omega
 rw[e1];refine Ok.bind (k3o (show n-1<g.ae.length by omega) ?_);rw[q6g (show n-1<g.ae.length by omega)];have a6:inS g.af.length (nd g (n-1)).Scope:=.inr ao;rw[zk2 hw h8 a6];refine Ok.bind (Ok.some ?_);have aq:=zq0 hw a6
 generalize hA:(anc g.af (nd g (n-1)).Scope).reverse=A
 have aj:∀x,x∈anc g.af (nd g (n-1)).Scope↔x∈A:=fun x=>by rw[<-hA,Wl]
 have b2:A.length<=g.af.length:=by rw[<-hA,Y5];exact aq
 simp only[aj];have hJ:∀u:Bool,Ok (q4q g n (nd g n) u) (fun r=>r=(u&&!(g.ae.take n).any fun x=>x.Scope==(nd g n).Scope)):=fun u=>by
  unfold q4q;refine k3n (fun I=>Ok.some (by rw[Xb]at I;rw[I];rfl)) (fun I=>?_);rw[Xc]at I;have b1:(g.ae.take n).length=n:=by rw[Xd];omega
  have:=k3s (l:=g.ae.take n) (body:=q4r g n (nd g n)) (Q:=fun r=>r=(u&&!(g.ae.take n).any fun x=>x.Scope==(nd g n).Scope)) (by omega) (fun i=>∀x∈(g.ae.take n).take i,(x.Scope==(nd g n).Scope)=false) 0 (fun rec i hi _ G hr=>?_) (fun rec G=>?_) (by simp) (Xe _)
  . exact this
  .
   have ar:i<n:=by omega
   unfold q4r;rw[if_pos (by simpa using ar)];refine Ok.bind (k3o (show i<g.ae.length by omega) ?_);have ak:(g.ae.take n)[i]=g.ae[i]'(by omega):=by simp
   refine k3n (fun T=>Ok.some ?_) (fun T=>?_)
   . have:(g.ae.take n).any (fun x=>x.Scope==(nd g n).Scope)=true:=Za.2 ⟨_,Xj hi,by rw[ak];exact T⟩;rw[this];simp
   rw[iw hi (by omega)];exact hr ((q7i hi).2 ⟨G,by rw[ak];exact T⟩)
  unfold q4r;rw[if_neg (by simp;omega)];refine Ok.some ?_;rw[Xf]at G;have:(g.ae.take n).any (fun x=>x.Scope==(nd g n).Scope)=false:=Zo.2 fun x Z=>by simp[G x Z]
  rw[this,I];rfl
 refine bK (l:=A) (by omega) (fun i (u:Bool)=>(u,i)) (fun p=>p.2) (fun _ _=>rfl) (fun i u=>(nd g n).Scope∉A.take i/\u=decide (g.af.getD (nd g n).Scope.toNat 0∈A.take i)) 0 (fun rec i hi u _ G hr=>?_) (fun rec u G=>?_) (by simp) (Xe _)
 .
  unfold q7g;dsimp only;rw[if_pos (by simpa using hi)];refine Ok.bind (k3o hi ?_);have W:A.take (i+1)=A.take i++[A[i]]:=Xa hi;refine k3n (fun I=>Ok.some ?_) (fun I=>?_)
  . rw[beq_iff_eq]at I;rw[decide_eq_true (show (nd g n).Scope∈A by rw[<-I];exact Xj hi)];rfl
  rw[beq_eq_false_iff_ne]at I;have an:(nd g n).Scope∉A.take (i+1):=by rw[W,Xl,not_or,Xk];exact⟨G.1,Ne.symm I⟩
  refine k3n (fun T=>?_) (fun T=>?_)
  . rw[iw hi (by omega)];refine hr true ⟨an,?_⟩;have:=G.2;rw[T]at this;rw[W];symm;rw[decide_eq_true_eq];exact Yd _ (of_decide_eq_true this.symm)
  refine k3m (Ok.bM Z.1 (by exact Z.2) (Q:=fun x=>x=g.af.getD (nd g n).Scope.toNat 0) fun x Z=>getD_some Z) ?_;rintro o rfl;rw[iw hi (by omega)];refine hr _ ⟨an,?_⟩;have:=G.2;rw[T]at this;rw[W,Z3]
  congr 1;apply propext
  rw[Xl,Xk]
  constructor
  . exact fun h=> .inr h.symm
  rintro (h|h)
  . exact absurd h (of_decide_eq_false this.symm)
  exact h.symm
 unfold q7g;dsimp only;rw[if_neg (by simp)];rw[Xf]at G;refine Ok.mono (hJ u) fun r hr=>?_;rw[hr,decide_eq_false G.1,G.2];simp
end VA
end
section
open Go Go.RowKit
namespace VA
instance (g:aa)(x:aH):Decidable (inN g x):=inferInstanceAs (Decidable (_/\_))
def q3h(g:aa)(n:Nat):Int:=
 if (nd g n).Kind<1\/15<(nd g n).Kind then 1
 else if ¬inN g (nd g n)\/((nd g n).Kind=10\/(nd g n).Kind=11\/(nd g n).Kind=12)/\(nd g n).Scope=0\/((nd g n).Kind=1\/(nd g n).Kind=15)/\(nd g n).Scope≠0 then 6
 else if fits g n=false then 6
 else if (nd g n).Kind=4/\(nd g n).Arg<1\/(nd g n).Kind≠4/\(nd g n).Kind≠3/\(nd g n).Arg≠0 then 1
 else if pOk (nd g n).Prog=false\/(nd g n).Kind≠2/\0<(nd g n).Prog.length then 13 else 0
theorem jq1:pOk []=true:=rfl
section
variable {g:aa} (hw:WP g.af g.af.length) (h8:g.af.length<=8) (hl:g.ae.length<1000000)
include hw h8 hl
theorem jq3{n:Nat}(hn:n<g.ae.length)(hb:0<n->inN g (nd g (n-1))):qt3 g n=some (q3h g n):=by
 unfold qt3 q3h;refine Ok.eq (Ok.bind (k3o hn ?_));rw[q6g hn];simp only[qw0,q3i,q9,Xo];refine k3n (fun Z=>Ok.some ?_) (fun Z=>?_)
 . simp only[Xu,decide_eq_true_eq]at Z;rw[if_pos Z]
 simp only[Xr,decide_eq_false_iff_not]at Z;have n1:¬((nd g n).Kind<1\/15<(nd g n).Kind):=by omega
 refine k3n (fun h2=>Ok.some ?_) (fun h2=>?_)
 . simp only[Xu,Xi,Xb,Xv,decide_eq_false_iff_not,beq_iff_eq,beq_eq_false_iff_ne,ne_eq]at h2;rw[if_neg n1,if_pos (by unfold inN;omega)]
 simp only[Xr,Xv,Xc,Xi,decide_eq_true_eq,beq_iff_eq,beq_eq_false_iff_ne,ne_eq]at h2;have I:inN g (nd g n):=h2.1.1;have n2:¬(¬inN g (nd g n)\/((nd g n).Kind=10\/(nd g n).Kind=11\/(nd g n).Kind=12)/\(nd g n).Scope=0\/((nd g n).Kind=1\/(nd g n).Kind=15)/\(nd g n).Scope≠0):=by
  intro G;rcases G with G|G|G
  . exact G I
  all_goals omega
 rw[j9x hw h8 hl hn I hb];refine Ok.bind (Ok.some ?_);refine k3n (fun T=>Ok.some ?_) (fun T=>?_)
 . rw[Xb]at T;rw[if_neg n1,if_neg n2,if_pos T]
 rw[Xc]at T;have n3:¬(fits g n=false):=by simp[T]
 refine k3n (fun h4=>Ok.some ?_) (fun h4=>?_)
 . simp only[Xu,Xi,Xb,decide_eq_true_eq,beq_iff_eq,beq_eq_false_iff_ne,ne_eq]at h4;rw[if_neg n1,if_neg n2,if_neg n3,if_pos (by omega)]
 simp only[Xr,Xv,Xc,decide_eq_false_iff_not,beq_iff_eq,beq_eq_false_iff_ne,ne_eq]at h4;have n4:¬((nd g n).Kind=4/\(nd g n).Arg<1\/(nd g n).Kind≠4/\(nd g n).Kind≠3/\(nd g n).Arg≠0):=by omega
 rw[j8j];refine Ok.bind (Ok.some ?_);refine k3n (fun W=>Ok.some ?_) (fun W=>Ok.some ?_)
 . simp only[Xu,Xi,Xb,decide_eq_true_eq,beq_eq_false_iff_ne,ne_eq]at W;rw[if_neg n1,if_neg n2,if_neg n3,if_neg n4,if_pos (W.elim .inl fun h=> .inr ⟨h.1,by have:=h.2;omega⟩)]
 simp only[Xr,Xv,Xc,decide_eq_false_iff_not,beq_iff_eq]at W;rw[if_neg n1,if_neg n2,if_neg n3,if_neg n4,if_neg (fun G=>G.elim (fun a=>by rw[W.1]at a;cases a) fun a=>by omega)]
theorem jd6{n:Nat}(hn:n<g.ae.length)(hb:0<n->inN g (nd g (n-1)))(hp:(nd g n).Prog.length<1000000000):q8e g n=some (q3h g n):=by
 unfold q8e q3h;refine Ok.eq (Ok.bind (k3o hn ?_));rw[q6g hn];refine k3n (fun h1=>Ok.some ?_) (fun h1=>?_)
 . simp only[Xu,decide_eq_true_eq]at h1;rw[if_pos h1]
 simp only[Xr,decide_eq_false_iff_not]at h1;have n1:¬((nd g n).Kind<1\/15<(nd g n).Kind):=by omega
 refine k3n (fun h2=>Ok.some ?_) (fun h2=>?_)
 . simp only[Xu,decide_eq_true_eq]at h2;rw[if_neg n1,if_pos (.inl (by unfold inN;omega))]
 simp only[Xr,decide_eq_false_iff_not]at h2;have W:inN g (nd g n):=by unfold inN;omega
 have aj:=W.1;refine k3n (fun T=>Ok.some ?_) (fun T=>?_)
 . simp only[Xu,Xi,decide_eq_true_eq,beq_iff_eq]at T;rw[if_neg n1,if_pos (.inr (by omega))]
 simp only[Xr,Xv,decide_eq_false_iff_not,beq_eq_false_iff_ne,ne_eq]at T;have n2:¬(¬inN g (nd g n)\/((nd g n).Kind=10\/(nd g n).Kind=11\/(nd g n).Kind=12)/\(nd g n).Scope=0\/((nd g n).Kind=1\/(nd g n).Kind=15)/\(nd g n).Scope≠0):=by
  intro Z;rcases Z with Z|Z|Z
  . exact Z W
  all_goals omega
 rw[j6y hw h8 hl hn W hb];refine Ok.bind (Ok.some ?_);refine k3n (fun T=>Ok.some ?_) (fun T=>?_)
 . rw[Xb]at T;rw[if_neg n1,if_neg n2,if_pos T]
 rw[Xc]at T;have n3:¬(fits g n=false):=by simp[T]
 have hJ:Ok (q2t (nd g n)) (fun r=>r=if pOk (nd g n).Prog=false\/(nd g n).Kind≠2/\0<(nd g n).Prog.length then 13 else 0):=by
  unfold q2t;refine k3n (fun G=>?_) (fun G=>?_)
  .
   rw[j8h hp];refine Ok.bind (Ok.some ?_);rw[G];simp only[beq_iff_eq]at G;refine k3n (fun I=>Ok.some ?_) (fun I=>Ok.some ?_)
   . rw[if_pos (.inl (by simpa using I))]
   simp only[Z7,Zl,Z8,Xc]at I;rw[if_neg (fun Z=>Z.elim (fun a=>by rw[I]at a;cases a) fun a=>a.1 G)]
  rw[G];rw[beq_eq_false_iff_ne]at G;refine k3n (fun I=>Ok.some ?_) (fun I=>Ok.some ?_)
  . rw[if_pos (.inr ⟨G,by simpa using I⟩)]
  have hz:(nd g n).Prog=[]:=by simpa [G]using I
  rw[if_neg (by rw[hz,jq1];simp)]
 have a6:¬((nd g n).Kind=4/\(nd g n).Arg<1\/(nd g n).Kind≠4/\(nd g n).Kind≠3/\(nd g n).Arg≠0)->Ok (q2t (nd g n)) (fun r=>r=q3h g n):=fun n4=>Ok.mono hJ fun r hr=>by
  unfold q3h;rw[hr,if_neg n1,if_neg n2,if_neg n3,if_neg n4]
 have hY:((nd g n).Kind=4/\(nd g n).Arg<1\/(nd g n).Kind≠4/\(nd g n).Kind≠3/\(nd g n).Arg≠0)->1=q3h g n:=fun n4=>by
  unfold q3h;rw[if_neg n1,if_neg n2,if_neg n3,if_pos n4]
 refine k3n (fun h4=>?_) (fun h4=>?_)
 .
  rw[beq_iff_eq]at h4;refine k3n (fun G=>Ok.some ?_) (fun G=>?_)
  . rw[decide_eq_true_eq]at G;exact hY (by omega)
  rw[decide_eq_false_iff_not]at G;exact a6 (by omega)
 rw[beq_eq_false_iff_ne]at h4;refine k3n (fun G=>?_) (fun G=>?_)
 . rw[beq_iff_eq]at G;exact a6 (by omega)
 rw[beq_eq_false_iff_ne]at G;refine k3n (fun I=>Ok.some ?_) (fun I=>?_)
 . rw[Xb,beq_eq_false_iff_ne]at I;exact hY (.inr ⟨h4,G,I⟩)
 rw[Xc,beq_iff_eq]at I;exact a6 (by omega)
end
theorem q9j{g:aa}{n:Nat}(h:q3h g n=0):(1<=(nd g n).Kind/\(nd g n).Kind<=15)/\inN g (nd g n)/\(((nd g n).Kind=10\/(nd g n).Kind=11\/(nd g n).Kind=12)->(nd g n).Scope≠0)/\(((nd g n).Kind=1\/(nd g n).Kind=15)->(nd g n).Scope=0)/\fits g n=true/\
 ((nd g n).Kind=4->1<=(nd g n).Arg)/\((nd g n).Kind≠4->(nd g n).Kind≠3->(nd g n).Arg=0)/\pOk (nd g n).Prog=true/\((nd g n).Kind≠2->(nd g n).Prog=[]):=by
 unfold q3h at h
 split at h
 . cases h
 split at h
 . cases h
 split at h
 . cases h
 split at h
 . cases h
 split at h
 . cases h
 rename_i h1 G h3 h4 Z
 rw[not_or]at G Z;have T:inN g (nd g n):=Decidable.byContradiction G.1;rw[not_or]at G;refine⟨by omega,T,fun I W=>G.2.1 ⟨I,W⟩,fun I=>Decidable.byContradiction fun W=>G.2.2 ⟨I,W⟩,by simpa using h3,by omega,by omega,by simpa using Z.1,fun I=>List.eq_nil_of_length_eq_zero (by omega)⟩
def aY(k:Int):Int:=if k=5\/k=9 then 2 else if 1<k/\k<=15 then 1 else 0
theorem j34(k:Int):qh0 k=some (aY k):=by
 unfold qh0 aY;simp only[Xu,Xi,beq_iff_eq,decide_eq_true_eq]
 split
 . rfl
 split<;>rfl
theorem zw5(k:Int):q5n k=some (aY k):=by
 unfold q5n;simp only[Xu,decide_eq_true_eq]
 split
 .
  rename_i h
  unfold aY;rw[if_neg (by omega),if_neg (by omega)]
 rename_i h
 have:k=1\/k=2\/k=3\/k=4\/k=5\/k=6\/k=7\/k=8\/k=9\/k=10\/k=11\/k=12\/k=13\/k=14\/k=15:=by omega
 rcases this with rfl|rfl|rfl|rfl|rfl|rfl|rfl|rfl|rfl|rfl|rfl|rfl|rfl|rfl|rfl<;>rfl
def ed(g:aa)(n:Nat):aC:=g.aw.getD n ⟨0,0,0,false⟩
theorem zp3{g:aa}{n:Nat}(h:n<g.aw.length):g.aw[n]=ed g n:=by unfold ed;rw[Xh,Xx h];rfl
def ndI(g:aa)(i:Int):aH:=nd g i.toNat
def q7w(g:aa)(x:aH):Int:=if x.Kind=10 then g.af.getD x.Scope.toNat 0 else x.Scope
def q4t(g:aa)(x:aH):Int:=if x.Kind=11 then g.af.getD x.Scope.toNat 0 else x.Scope
def z0w(k:Int):Bool:=decide (6<=k/\k<=9\/k=14)
def inG(g:aa)(i:Int):Prop:=0<=i/\i<g.ae.length
instance (g:aa)(i:Int):Decidable (inG g i):=inferInstanceAs (Decidable (_/\_))
def q9e(g:aa)(n:Nat):Int:=
 if ¬(inG g (ed g n).aL/\inG g (ed g n).To)then 7
 else if (ndI g (ed g n).aL).Kind=15\/¬(0<=(ed g n).Port/\(ed g n).Port<aY (ndI g (ed g n).To).Kind)then 7
 else if q4t g (ndI g (ed g n).aL)≠q7w g (ndI g (ed g n).To)then 6
 else if (ed g n).To<=(ed g n).aL/\(ndI g (ed g n).aL).Kind≠12 then 8
 else if z0w (ndI g (ed g n).To).Kind=true/\(ed g n).aS=false then 1
 else if (g.aw.take n).any (fun e=>e.To==(ed g n).To&&e.Port==(ed g n).Port)=true then 7 else 0
theorem j3b{s:List aC}{f:aC->Option Bool}{p:aC->Bool}(G:s.length<9223372036854775808)(I:∀x∈s,f x=some (p x)):q7e s f=some (s.any p):=z02 G I
theorem j9g{l:List aC}(a b:Int)(I:l.length<1000000):qq6 l a b=some (l.any fun e=>e.To==a&&e.Port==b):=by
 unfold qq6;rw[j3b (f:=fun G=>qp1 G a b) (p:=fun e=>e.To==a&&e.Port==b) (by omega) (fun x _=>rfl)];rfl
section
variable {g:aa} (hN:∀n<g.ae.length,q3h g n=0) (hl:g.ae.length<1000000) (hE:g.aw.length<1000000)
include hN
theorem j1g{i:Int}(h:inG g i):inN g (ndI g i)/\1<=(ndI g i).Kind/\(ndI g i).Kind<=15:=by
 have:=q9j (hN i.toNat (by have:=h.1;have:=h.2;omega));exact⟨this.2.1,this.1⟩
omit hN in
theorem z2v{i:Int}(h:inG g i):idx g.ae i=some (ndI g i):=qj3 _ h.1 h.2
theorem zi4{i:Int}(h:inG g i):qp0 g (ndI g i)=some (q4t g (ndI g i)):=by
 have G:=(j1g hN h).1;unfold qp0 q4t;simp only[beq_iff_eq]
 split
 . rw[qj3 0 G.1 G.2];rfl
 rfl
theorem jc4{i:Int}(h:inG g i):qo7 g (ndI g i)=some (q7w g (ndI g i)):=by
 have G:=(j1g hN h).1;unfold qo7 q7w;simp only[beq_iff_eq]
 split
 . rw[qj3 0 G.1 G.2];rfl
 rfl
theorem j35{i:Int}(h:inG g i)(b:Bool):q5o g i b=some (if b then q4t g (ndI g i)else q7w g (ndI g i)):=by
 have G:=(j1g hN h).1;unfold q5o q4t q7w;rw[z2v h];simp only[q9,Xo];rw[qj3 0 G.1 G.2]
 cases b<;>simp<;>split<;>simp_all
include hE
theorem jt1{n:Nat}(hn:n<g.aw.length):qt5 g n=some (q9e g n):=by
 unfold qt5 q9e;refine Ok.eq (Ok.bind (k3o hn ?_));rw[zp3 hn];simp only[q3i];refine Ok.bind (Ok.some ?_);refine k3n (fun G=>?_) (fun G=>Ok.some ?_)
 rotate_left
 . rw[if_pos];simp only[Xv,decide_eq_false_iff_not]at G;unfold inG;omega
 simp only[Xi,decide_eq_true_eq]at G;refine Ok.bind (Ok.some ?_);refine k3n (fun I=>Ok.some ?_) (fun I=>?_)
 . rw[if_pos];simp only[Xb,Xv,decide_eq_false_iff_not]at I;unfold inG;omega
 simp only[Xc,Xi,decide_eq_true_eq]at I;have n1:¬¬(inG g (ed g n).aL/\inG g (ed g n).To):=by simp only[inG];omega
 rw[z2v G,z2v I];refine Ok.bind (Ok.some (Ok.bind (Ok.some ?_)));refine k3n (fun Z=>Ok.some ?_) (fun Z=>?_)
 . rw[beq_iff_eq]at Z;rw[if_neg n1,if_pos (.inl Z)]
 rw[beq_eq_false_iff_ne]at Z;rw[j34];refine Ok.bind (Ok.some (Ok.bind (Ok.some ?_)));refine k3n (fun h4=>Ok.some ?_) (fun h4=>?_)
 . simp only[Xb,Xv,decide_eq_false_iff_not]at h4;rw[if_neg n1,if_pos (by omega)]
 simp only[Xc,Xi,decide_eq_true_eq]at h4;have T:¬((ndI g (ed g n).aL).Kind=15\/¬(0<=(ed g n).Port/\(ed g n).Port<aY (ndI g (ed g n).To).Kind)):=by omega
 rw[zi4 hN G,jc4 hN I];refine Ok.bind (Ok.some (Ok.bind (Ok.some ?_)));refine k3n (fun h5=>Ok.some ?_) (fun h5=>?_)
 . rw[Xb,beq_eq_false_iff_ne]at h5;rw[if_neg n1,if_neg T,if_pos h5]
 rw[Xc,beq_iff_eq]at h5;have n3:¬(q4t g (ndI g (ed g n).aL)≠q7w g (ndI g (ed g n).To)):=by omega
 refine k3n (fun h6=>Ok.some ?_) (fun h6=>?_)
 . simp only[Xi,decide_eq_true_eq,Xb,beq_eq_false_iff_ne,ne_eq]at h6;rw[if_neg n1,if_neg T,if_neg n3,if_pos h6]
 simp only[Xv,decide_eq_false_iff_not,Xc,beq_iff_eq]at h6;have n4:¬((ed g n).To<=(ed g n).aL/\(ndI g (ed g n).aL).Kind≠12):=by omega
 have hk:qo9 (ndI g (ed g n).To).Kind=some (z0w (ndI g (ed g n).To).Kind):=by
  unfold qo9 z0w
  congr 1
  rw[Yh];simp
 rw[hk];refine Ok.bind (Ok.some ?_);refine k3n (fun W=>Ok.some ?_) (fun W=>?_)
 . simp only[Xi,Xb]at W;rw[if_neg n1,if_neg T,if_neg n3,if_neg n4,if_pos W]
 have n5:¬(z0w (ndI g (ed g n).To).Kind=true/\(ed g n).aS=false):=by rintro⟨a,b⟩;rw[a,b]at W;cases W
 refine Ok.guard (by omega) ?_;rw[Xg,j9g _ _ (by rw[Xd];omega)];refine Ok.bind (Ok.some ?_);refine k3n (fun h8=>Ok.some ?_) (fun h8=>Ok.some ?_)
 . rw[if_neg n1,if_neg T,if_neg n3,if_neg n4,if_neg n5,if_pos h8]
 rw[if_neg n1,if_neg T,if_neg n3,if_neg n4,if_neg n5,if_neg (by simp[h8])]
theorem jd9{n:Nat}(hn:n<g.aw.length):q8f g n=some (q9e g n):=by
 unfold q8f q9e;refine Ok.eq (Ok.bind (k3o hn ?_));rw[zp3 hn];refine k3n (fun h1=>Ok.some ?_) (fun h1=>?_)
 . simp only[Xu,decide_eq_true_eq]at h1;rw[if_pos (by unfold inG;omega)]
 simp only[Xr,decide_eq_false_iff_not]at h1;have g1:inG g (ed g n).aL:=by unfold inG;omega
 have g2:inG g (ed g n).To:=by unfold inG;omega
 have n1:¬¬(inG g (ed g n).aL/\inG g (ed g n).To):=fun hh=>hh ⟨g1,g2⟩;rw[z2v g1];refine Ok.bind (Ok.some ?_);refine k3n (fun h3=>Ok.some ?_) (fun h3=>?_)
 . simp only[Xu,beq_iff_eq,decide_eq_true_eq]at h3;rw[if_neg n1,if_pos (by omega)]
 simp only[Xr,beq_eq_false_iff_ne,ne_eq,decide_eq_false_iff_not]at h3;rw[z2v g2];refine Ok.bind (Ok.some ?_);rw[zw5];refine Ok.bind (Ok.some ?_);refine k3n (fun h4=>Ok.some ?_) (fun h4=>?_)
 . rw[decide_eq_true_eq]at h4;rw[if_neg n1,if_pos (by omega)]
 rw[decide_eq_false_iff_not]at h4;have Z:¬((ndI g (ed g n).aL).Kind=15\/¬(0<=(ed g n).Port/\(ed g n).Port<aY (ndI g (ed g n).To).Kind)):=by omega
 rw[j35 hN g1,j35 hN g2];simp only[if_true,Xz,if_false];refine Ok.bind (Ok.some (Ok.bind (Ok.some ?_)));refine k3n (fun h5=>Ok.some ?_) (fun h5=>?_)
 . rw[Xb,beq_eq_false_iff_ne]at h5;rw[if_neg n1,if_neg Z,if_pos h5]
 rw[Xc,beq_iff_eq]at h5;have n3:¬(q4t g (ndI g (ed g n).aL)≠q7w g (ndI g (ed g n).To)):=by omega
 refine k3n (fun I=>Ok.some ?_) (fun I=>?_)
 . simp only[Xi,decide_eq_true_eq,Xb,beq_eq_false_iff_ne,ne_eq]at I;rw[if_neg n1,if_neg Z,if_neg n3,if_pos ⟨I.2,I.1⟩]
 simp only[Xv,decide_eq_false_iff_not,Xc,beq_iff_eq]at I;have n4:¬((ed g n).To<=(ed g n).aL/\(ndI g (ed g n).aL).Kind≠12):=by omega
 have hk:(((((ndI g (ed g n).To).Kind==6)||((ndI g (ed g n).To).Kind==7))||((ndI g (ed g n).To).Kind==8))||((ndI g (ed g n).To).Kind==9)||((ndI g (ed g n).To).Kind==14))=z0w (ndI g (ed g n).To).Kind:=by
  unfold z0w;rw[Yh];simp;omega
 rw[hk];refine k3n (fun G=>Ok.some ?_) (fun G=>?_)
 . simp only[Xi,Xb]at G;rw[if_neg n1,if_neg Z,if_neg n3,if_neg n4,if_pos ⟨G.2,G.1⟩]
 have n5:¬(z0w (ndI g (ed g n).To).Kind=true/\(ed g n).aS=false):=by rintro⟨a,b⟩;rw[a,b]at G;cases G
 have aj:(g.aw.take n).length=n:=by rw[Xd];omega
 have:=k3s (l:=g.aw.take n) (body:=q6j g n (ed g n)) (Q:=fun r=>r=if (g.aw.take n).any (fun e=>e.To==(ed g n).To&&e.Port==(ed g n).Port)=true then 7 else 0) (by omega) (fun i=>∀x∈(g.aw.take n).take i,(x.To==(ed g n).To&&x.Port==(ed g n).Port)=false) 0 (fun rec i hi _ hI hr=>?_) (fun rec hI=>?_) (by simp) (Xe _)
 . exact Ok.mono this fun r hr=>by rw[hr,if_neg n1,if_neg Z,if_neg n3,if_neg n4,if_neg n5]
 .
  have a6:i<n:=by omega
  unfold q6j;rw[if_pos (by simpa using a6)];refine Ok.bind (k3o (show i<g.aw.length by omega) ?_);have T:(g.aw.take n)[i]=g.aw[i]'(by omega):=by simp
  rw[iw hi (by omega)];have W:(g.aw[i].To==(ed g n).To&&g.aw[i].Port==(ed g n).Port)=false->Ok (rec ((i+1:Nat):Int)) (fun r=>r=if (g.aw.take n).any (fun e=>e.To==(ed g n).To&&e.Port==(ed g n).Port)=true then 7 else 0):=fun hf=>hr ((q7i hi).2 ⟨hI,by rw[T];exact hf⟩);refine k3n (fun h8=>?_) (fun h8=>W (by rw[h8];rfl));refine k3n (fun h9=>Ok.some ?_) (fun h9=>W (by rw[h9];simp));have:(g.aw.take n).any (fun e=>e.To==(ed g n).To&&e.Port==(ed g n).Port)=true:=Za.2 ⟨_,Xj hi,by rw[T,h8,h9];rfl⟩;rw[if_pos this]
 unfold q6j;rw[if_neg (by simp;omega)];refine Ok.some ?_;rw[Xf]at hI;have:(g.aw.take n).any (fun e=>e.To==(ed g n).To&&e.Port==(ed g n).Port)=false:=Zo.2 fun x hx=>by simp only[hI x hx];simp
 rw[this];rfl
end
end VA
end
section
open Go Go.RowKit
namespace VA
theorem zp2{g:aa}{n:Nat}(h:q9e g n=0):inG g (ed g n).aL/\inG g (ed g n).To/\(ndI g (ed g n).aL).Kind≠15/\(0<=(ed g n).Port/\(ed g n).Port<aY (ndI g (ed g n).To).Kind)/\q4t g (ndI g (ed g n).aL)=q7w g (ndI g (ed g n).To)/\
 ((ed g n).To<=(ed g n).aL->(ndI g (ed g n).aL).Kind=12)/\(z0w (ndI g (ed g n).To).Kind=true->(ed g n).aS=true)/\(g.aw.take n).any (fun e=>e.To==(ed g n).To&&e.Port==(ed g n).Port)=false:=by
 unfold q9e at h
 split at h
 . cases h
 split at h
 . cases h
 split at h
 . cases h
 split at h
 . cases h
 split at h
 . cases h
 split at h
 . cases h
 rename_i W I Z h4 h5 h6
 have G:=Decidable.byContradiction W;rw[not_or]at I;refine⟨G.1,G.2,I.1,Decidable.byContradiction I.2,Decidable.byContradiction Z,fun hh=>Decidable.byContradiction fun T=>h4 ⟨hh,T⟩,fun T=>?_,by simpa using h6⟩
 cases hx:(ed g n).aS
 . exact absurd ⟨T,hx⟩ h5
 rfl
def cy(g:aa):Prop:=∀n<g.aw.length,q9e g n=0
theorem jy3{g:aa}{e:aC}(h:e∈g.aw):∃n,n<g.aw.length/\ed g n=e:=by
 obtain⟨n,G,rfl⟩:=Xy.1 h;exact⟨n,G,(zp3 G).symm⟩
theorem cy.at{g:aa}(h:cy g){e:aC}(G:e∈g.aw):inG g e.aL/\inG g e.To/\(ndI g e.aL).Kind≠15/\(0<=e.Port/\e.Port<aY (ndI g e.To).Kind)/\q4t g (ndI g e.aL)=q7w g (ndI g e.To)/\
 (e.To<=e.aL->(ndI g e.aL).Kind=12)/\(z0w (ndI g e.To).Kind=true->e.aS=true):=by
 obtain⟨n,I,rfl⟩:=jy3 G;have:=zp2 (h n I);exact⟨this.1,this.2.1,this.2.2.1,this.2.2.2.1,this.2.2.2.2.1,this.2.2.2.2.2.1,this.2.2.2.2.2.2.1⟩
theorem cy.pw{g:aa}(h:cy g):g.aw.Pairwise fun a b=>¬(a.To=b.To/\a.Port=b.Port):=by
 rw[X8];intro i j hi G W I;have T:=(zp2 (h j G)).2.2.2.2.2.2.2;rw[Zo]at T;refine T g.aw[i] ?_ ?_
 . exact Xy.2 ⟨i,by rw[Xd];omega,by simp⟩
 rw[<-zp3 G,I.1,I.2];simp
def z9i(g:aa)(n:Nat):Nat:=(g.aw.filter fun e=>e.To==(n:Int)).length
theorem few{L:List Int}{k:Int}(hk:k=0\/k=1\/k=2)(T:L.Pairwise (· ≠·))(I:∀x∈L,0<=x/\x<k):(∀p:Int,0<=p->p<k->p∈L)↔k<=L.length:=by
 rcases hk with rfl|rfl|rfl
 . exact⟨fun _=>by omega,fun _ p G Z=>by omega⟩
 .
  constructor
  . intro h;have:=List.length_pos_of_mem (h 0 (by omega) (by omega));omega
  intro h p G Z
  match L,h with
  |[],h=>simp at h
  |a::L,_=>
   have:=I a Yf;have:a=p:=by omega
   rw[this];exact Yf
 constructor
 .
  intro h;have W:=h 0 (by omega) (by omega);have G:=h 1 (by omega) (by omega)
  match L,W,G with
  |[a],W,G=>
   simp at W G;omega
  |a::b::L,_,_=>simp only[X9];omega
 intro h p G Z
 match L,T,I,h with
 |[],_,_,h=>simp at h
 |[a],_,_,h=>simp at h
 |a::b::L,T,I,_=>
  have ha:=I a (by simp);have hb:=I b (by simp);have a6:a≠b:=(Yu.1 T).1 b (by simp);have:p=a\/p=b:=by omega
  rcases this with rfl|rfl<;>simp
theorem zh7(k:Int):aY k=0\/aY k=1\/aY k=2:=by
 unfold aY;split
 . exact .inr (.inr rfl)
 split
 . exact .inr (.inl rfl)
 exact .inl rfl
theorem j59{g:aa}(h:cy g)(n:Nat):(∀p:Int,0<=p->p<aY (nd g n).Kind->(g.aw.any fun e=>e.To==(n:Int)&&e.Port==p)=true)↔aY (nd g n).Kind<=z9i g n:=by
 have Z:=few (L:=(g.aw.filter fun e=>e.To==(n:Int)).map (·.Port)) (zh7 (nd g n).Kind) ?_ ?_
 .
  rw[Zw]at Z;rw[z9i,<-Z];refine forall_congr' fun p=>forall_congr' fun _=>forall_congr' fun _=>?_;rw[Za,Ya]
  constructor
  . rintro⟨e,G,hp⟩;simp only[Xi,beq_iff_eq]at hp;exact⟨e,Xs.2 ⟨G,by simp[hp.1]⟩,hp.2⟩
  rintro⟨e,G,rfl⟩;have:=Xs.1 G;exact⟨e,this.1,by simp only[Xi];exact⟨this.2,by simp⟩⟩
 . rw[List.pairwise_map];refine (h.pw.sublist Wa).imp_of_mem ?_;intro a b ha hb W hp;have I:=(Xs.1 ha).2;have T:=(Xs.1 hb).2;rw[beq_iff_eq]at I T;exact W ⟨I.trans T.symm,hp⟩
 intro x hx;obtain⟨e,G,rfl⟩:=Ya.1 hx;have I:=Xs.1 G;have T:=(h.at I.1).2.2.2.1;have h3:e.To=n:=by simpa using I.2
 rw[h3]at T;exact T
theorem js1{g:aa}(h:cy g)(Z:g.aw.length<1000000){n:Nat}(W:n<g.ae.length):qt4 g n=some (decide (aY (nd g n).Kind<=z9i g n)):=by
 unfold qt4;refine Ok.eq (Ok.bind (k3o W ?_));rw[q6g W,j34];refine Ok.bind (Ok.some ?_);have hk:=zh7 (nd g n).Kind;have a6:((X7 (aY (nd g n).Kind).toNat).length:Int)=aY (nd g n).Kind:=by rw[Zp];omega
 refine k3s (l:=X7 (aY (nd g n).Kind).toNat) (by rw[Zp];omega) (fun i=>∀p:Int,0<=p->p<i->(g.aw.any fun e=>e.To==(n:Int)&&e.Port==p)=true) 0 (fun rec i hi _ I hr=>?_) (fun rec I=>?_) (by intro p G T;omega) (Xe _)
 .
  unfold qr1;rw[if_pos (by simp only[decide_eq_true_eq];omega),j9g _ _ Z];refine Ok.bind (Ok.some ?_);refine k3n (fun G=>Ok.some ?_) (fun G=>?_)
  .
   rw[Xb]at G
   symm;rw[decide_eq_false_iff_not,<-j59 h]
   intro hh;rw[hh i (by omega) (by omega)]at G;cases G
  rw[Xc]at G;rw[iw hi (by omega)];refine hr fun p T h3=>?_;rcases Yt (show p<=i by omega)with h4|rfl
  . exact I p T h4
  exact G
 unfold qr1;rw[if_neg (by simp only[decide_eq_true_eq];omega)];refine Ok.some ?_
 symm;rw[decide_eq_true_eq,<-j59 h]
 exact fun p G T=>I p G (by omega)
def dA(P:List Int)(s:Int):List Int:=anc P (P.getD s.toNat 0)
section
variable {g:aa} (hw:WP g.af g.af.length) (h8:g.af.length<=8)
include hw h8
theorem jc3{s o:Int}(Z:0<=o)(h1:o<g.af.length):qo6 g s o=some (decide (s∈dA g.af o)):=by
 unfold qo6 dA;rw[qj3 0 Z h1];refine Ok.eq (Ok.bind (Ok.some ?_));have hd:=hw.down Z h1;refine k3p (fun p:Int=>inS g.af.length p/\∃pre,anc g.af (g.af.getD o.toNat 0)=pre++anc g.af p/\s∉pre) (fun p=>(p+1).toNat) ?_ ⟨hd,[],by simp,by simp⟩ (by
  simp only[rounds];rcases hd with hd|hd<;>omega)
 rintro rec p ⟨hi,pre,W,G⟩ hr;unfold z03;rcases hi with rfl|hi
 . rw[if_neg (by simp)];rw[q8o,X3]at W;exact Ok.some (by rw[W,decide_eq_false G])
 rw[if_pos (by simpa using hi.1)];have I:=q55 hw hi.1 hi.2;refine k3n (fun T=>Ok.some ?_) (fun T=>?_)
 . rw[beq_iff_eq]at T;rw[decide_eq_true (by rw[W,I,T];simp)]
 rw[beq_eq_false_iff_ne]at T;rw[qj3 0 hi.1 hi.2];refine Ok.bind (Ok.some ?_);have a6:=(hw.2 p hi.1 hi.2).1;exact hr _ ⟨hw.down hi.1 hi.2,pre++[p],by rw[W,I];simp,by rw[Xl,not_or,Xk];exact⟨G,Ne.symm T⟩⟩ (by first|omega|(simp only;omega))
theorem ja0{s o:Int}(W:0<=o)(Z:o<g.af.length):q7a g s o=some (decide (s∈dA g.af o)):=by
 unfold q7a dA;rw[zk2 hw h8 (.inr ⟨W,Z⟩),q55 hw W Z,Wg];refine Ok.eq (Ok.bind (Ok.some ?_));have a6:=zq0 hw (hw.down W Z)
 generalize hA:(anc g.af (g.af.getD o.toNat 0)).reverse=A
 have G:s∈anc g.af (g.af.getD o.toNat 0)↔s∈A:=by rw[<-hA,Wl]
 have aj:A.length<=g.af.length:=by rw[<-hA,Y5];exact a6
 rw[decide_eq_decide.2 G];refine k3s (l:=A) (by omega) (fun i=>s∉A.take i) 0 (fun rec i hi _ T hr=>?_) (fun rec T=>?_) (by simp) (Xe _)
 .
  unfold q7x;rw[iw hi (by omega),if_pos (by simp;omega)];refine Ok.bind (k3o (show i<(A++[o]).length by simp;omega) ?_);rw[List.getElem_append_left hi];refine k3n (fun I=>Ok.some ?_) (fun I=>hr ?_)
  . rw[beq_iff_eq]at I;rw[decide_eq_true (by rw[<-I];exact Xj hi)]
  rw[beq_eq_false_iff_ne]at I;rw[Xa hi,Xl,not_or,Xk];exact⟨T,Ne.symm I⟩
 unfold q7x;rw[wrap_i64 _ (by omega),if_neg (by simp)];rw[Xf]at T;exact Ok.some (by rw[decide_eq_false T])
end
def cm(g:aa)(s x:Int):Bool:=!((ndI g x).Kind==12&&decide ((ndI g x).Scope∈dA g.af s))
def leaves(g:aa)(s x:Int):Bool:=(ndI g x).Kind==11&&(ndI g x).Scope==s
inductive Rch(g:aa)(s:Int):Int->Prop
 |dy (e:aC) (he:e∈g.aw) (h:leaves g s e.aL=true):Rch g s e.To
 |step (e:aC) (he:e∈g.aw) (h:Rch g s e.aL) (hx:cm g s e.aL=true):Rch g s e.To
def atB(l:List Bool)(i:Int):Bool:=l.getD i.toNat false
theorem z8i{l:List Bool}{i j:Int}(G:0<=i)(I:i<l.length)(T:0<=j):atB (l.set i.toNat true) j=if j=i then true else atB l j:=by
 unfold atB;rw[Xh,Wh]
 by_cases h:j=i
 . subst h;rw[if_pos rfl,if_pos (by omega),if_pos rfl];rfl
 rw[if_neg (by omega),if_neg h,Xh]
def cf(l:List Bool):Nat:=(l.filter fun b=>!b).length
theorem zp8:∀{l:List Bool} {i:Nat},l[i]?=some false->cf (l.set i true)+1=cf l
 |[],i,h=>by simp at h
 |b::l,0,h=>by
  simp only[List.getElem?_cons_zero,Yw]at h;subst h;simp[cf]
 |b::l,i+1,h=>by
  have:=zp8 (l:=l) (i:=i) (by simpa using h);unfold cf at this⊢
  cases b<;>simp only[List.set_cons_succ,Ye,Bool.not_false,Z7,if_true,Xz,if_false,X9]<;>omega
def Sub(a b:List Bool):Prop:=a.length=b.length/\∀i:Int,0<=i->atB a i=true->atB b i=true
theorem Sub.refl(a:List Bool):Sub a a:=⟨rfl,fun _ _ h=>h⟩
theorem Sub.trans{a b c:List Bool}(h:Sub a b)(G:Sub b c):Sub a c:=⟨h.1.trans G.1,fun i hi I=>G.2 i hi (h.2 i hi I)⟩
theorem Sub.set{l:List Bool}{i:Int}(G:0<=i)(I:i<l.length):Sub l (l.set i.toNat true):=⟨by simp,fun j T W=>by
 rw[z8i G I T];split
 . rfl
 exact W⟩
theorem Sub.cons{x y:Bool}{a b:List Bool}(h:Sub (x::a) (y::b)):(x=true->y=true)/\Sub a b:=by
 refine⟨fun I=>?_,by simpa using h.1,fun i hi G=>?_⟩
 .
  have:=h.2 0 (by omega) (by simpa [atB]using I)
  simpa [atB]using this
 have:=h.2 (i+1) (by omega) (by
  unfold atB at G⊢;rw[show (i+1).toNat=i.toNat+1 by omega]
  simpa using G)
 unfold atB at this⊢;rw[show (i+1).toNat=i.toNat+1 by omega]at this
 simpa using this
theorem Sub.cf:∀{a b:List Bool},Sub a b->VA.cf b<=VA.cf a/\(VA.cf b=VA.cf a->a=b)
 |[],[],_=>⟨Yb _,fun _=>rfl⟩
 |[],_::_,h=>by have:=h.1;simp at this
 |_::_,[],h=>by have:=h.1;simp at this
 |x::a,y::b,h=>by
  obtain⟨W,Z⟩:=h.cons;have G:=Z.cf;have T:∀(z:Bool) (l:List Bool),VA.cf (z::l)=(if z then 0 else 1)+VA.cf l:=fun z l=>by cases z<;>simp[VA.cf];omega
  rw[T,T]
  cases x<;>cases y<;>simp at W⊢
  . exact⟨G.1,fun I=>G.2 I⟩
  . have:=G.1;omega
  exact⟨G.1,fun I=>G.2 I⟩
section
variable {g:aa} (hw:WP g.af g.af.length) (h8:g.af.length<=8) (hN:∀n<g.ae.length,q3h g n=0) (hE:cy g) (hl:g.ae.length<1000000) (hEl:g.aw.length<1000000) {s:Int} (hs0:0<=s) (hs1:s<g.af.length)
def New(g:aa)(s:Int)(a b:List Bool):Prop:=∀e∈g.aw,atB b e.aL=true->atB a e.aL=false->cm g s e.aL=true->atB b e.To=true
include hw h8 hN hE hl hEl hs0 hs1
theorem j0z:∀(d:Nat) (from_:Int) (a:List Bool),inG g from_->a.length=g.ae.length->cf a<d->(∀i,0<=i->atB a i=true->Rch g s i)->(∀e∈g.aw,e.aL=from_->Rch g s e.To)->
 Ok (q1a d from_ g a s) fun r=>r.1=g/\r.2.2=s/\Sub a r.2.1/\New g s a r.2.1/\(∀e∈g.aw,e.aL=from_->atB r.2.1 e.To=true)/\∀i,0<=i->atB r.2.1 i=true->Rch g s i
 |0,_,_,_,_,hd,_,_=>by omega
 |d+1,from_,a,hf,bi,hd,bs,bv=>by
  have ih:=j0z d
  show Ok (q3c (q1a d) from_ g a s) _
  unfold q3c;refine bK (l:=g.aw) (by omega) (fun i (b:List Bool)=>(i,g,s,b)) (fun p=>p.1) (fun _ _=>rfl) (fun i b=>Sub a b/\New g s a b/\(∀e∈g.aw.take i,e.aL=from_->atB b e.To=true)/\∀i,0<=i->atB b i=true->Rch g s i) 0 (fun rec i hi b _ hI hr=>?_) (fun rec b hI=>?_) ⟨Sub.refl a,(by intro e _ h1 h2;rw[h1]at h2;cases h2),by simp,bs⟩ (Xe _)
  .
   obtain⟨I1,I2,I3,I4⟩:=hI;unfold q4i;dsimp only;rw[if_pos (by simpa using hi)];refine Ok.bind (k3o hi ?_);have hm:g.aw[i]∈g.aw:=Xj hi
   generalize c0:g.aw[i]=e at hm
   have I:=hE.at hm;have ao:b.length=g.ae.length:=by rw[<-I1.1,bi]
   have ak:g.aw.take (i+1)=g.aw.take i++[e]:=by rw[Xa hi,c0]
   rw[iw hi (by omega)];refine k3n (fun h1=>?_) (fun h1=>?_)
   .
    rw[beq_iff_eq]at h1;have b1:Rch g s e.To:=bv e hm h1;refine k3m (Ok.bM I.2.1.1 (by rw[ao];exact I.2.1.2) (Q:=fun x=>x=atB b e.To) fun x hx=>getD_some hx) ?_;rintro x rfl;refine k3n (fun h2=>?_) (fun h2=>?_)
    .
     refine hr b ⟨I1,I2,fun x hx W=>?_,I4⟩;rw[ak,Xl,Xk]at hx;rcases hx with hx|rfl
     . exact I3 x hx W
     exact h2
    rw[z2v I.2.1];refine Ok.bind (Ok.some ?_);have b2:e.To<b.length:=by rw[ao];exact I.2.1.2
    have a6:Sub b (b.set e.To.toNat true):=Sub.set I.2.1.1 b2;have Z:∀j,0<=j->atB (b.set e.To.toNat true) j=if j=e.To then true else atB b j:=fun j hj=>z8i I.2.1.1 b2 hj;have b3:b[e.To.toNat]?=some false:=by
     unfold atB at h2;rw[Xh]at h2;have c1:e.To.toNat<b.length:=by have:=I.2.1.1;omega
     rw[Xx c1]at h2⊢
     simpa using h2
    have c6:=zp8 b3;have c5:=I1.cf.1;have an:∀j,0<=j->atB (b.set e.To.toNat true) j=true->Rch g s j:=fun j hj hb=>by
     rw[Z j hj]at hb
     split at hb
     . rename_i c2;rw[c2];exact b1
     exact I4 j hj hb
    have b4:cm g s e.To=true->Ok (q9 (q1a d e.To g (List.set b (Int.toNat e.To) true) s) (fun (aq:aa×(List Bool)×Int)=>rec (((i+1:Nat):Int),aq.1,aq.2.2,aq.2.1))) (fun r=>r.1=g/\r.2.2=s/\Sub a r.2.1/\New g s a r.2.1/\(∀e∈g.aw,e.aL=from_->atB r.2.1 e.To=true)/\∀i,0<=i->atB r.2.1 i=true->Rch g s i):=fun hx=>by
     refine k3m (ih e.To (b.set e.To.toNat true) I.2.1 (by simpa using ao) (by omega) an (fun e' c3 b5=> .step e' c3 (by rw[b5];exact b1) (by rw[b5];exact hx))) ?_;rintro⟨g',c,s'⟩ ⟨e1,e2,J1,J2,J3,J4⟩;dsimp only at e1 e2 J1 J2 J3 J4⊢;subst e1 e2;refine hr c ⟨I1.trans (a6.trans J1),fun x G h3 h4 h5=>?_,fun x G W=>?_,J4⟩
     .
      have ar:=(hE.at G).1.1;have T:=(hE.at G).2.1.1
      cases b6:atB b x.aL with
      |true=>exact J1.2 _ T (a6.2 _ T (I2 x G b6 h4 h5))
      |false=>
       by_cases aj:x.aL=e.To
       . exact J3 x G aj
       exact J2 x G h3 (by rw[Z _ ar,if_neg aj];exact b6) h5
     rw[ak,Xl,Xk]at G;rcases G with G|rfl
     . have T:=(hE.at (X4 G)).2.1.1;exact J1.2 _ T (a6.2 _ T (I3 x G W))
     refine J1.2 _ I.2.1.1 ?_;rw[Z _ I.2.1.1,if_pos rfl]
    refine k3n (fun h3=>?_) (fun h3=>?_)
    .
     rw[jc3 hw h8 hs0 hs1];refine Ok.bind (Ok.some ?_);refine k3n (fun h4=>?_) (fun h4=>?_)
     . exact b4 (by unfold cm;rw[h3,Y0];exact h4)
     have c4:cm g s e.To=false:=by unfold cm;rw[h3,Y0];exact h4
     refine hr _ ⟨I1.trans a6,fun x G h5 h6 h7=>?_,fun x G W=>?_,an⟩
     .
      have ar:=(hE.at G).1.1;have T:=(hE.at G).2.1.1
      by_cases aj:x.aL=e.To
      . rw[aj,c4]at h7;cases h7
      rw[Z _ ar,if_neg aj]at h5;exact a6.2 _ T (I2 x G h5 h6 h7)
     rw[ak,Xl,Xk]at G;rcases G with G|rfl
     . have T:=(hE.at (X4 G)).2.1.1;exact a6.2 _ T (I3 x G W)
     rw[Z _ I.2.1.1,if_pos rfl]
    exact b4 (by unfold cm;rw[h3];rfl)
   rw[beq_eq_false_iff_ne]at h1;refine hr b ⟨I1,I2,fun x hx W=>?_,I4⟩;rw[ak,Xl,Xk]at hx;rcases hx with hx|rfl
   . exact I3 x hx W
   exact absurd W h1
  obtain⟨I1,I2,I3,I4⟩:=hI;unfold q4i;dsimp only;rw[if_neg (by simp)];rw[Xf]at I3;exact Ok.some ⟨rfl,rfl,I1,I2,I3,I4⟩
omit hw h8 hN hE hl hEl hs0 hs1 in
theorem complete{a:List Bool}(T:∀e∈g.aw,leaves g s e.aL=true->atB a e.To=true)(W:∀e∈g.aw,atB a e.aL=true->cm g s e.aL=true->atB a e.To=true):∀x,Rch g s x->atB a x=true:=by
 intro x G
 induction G with
 |dy e I h=>exact T e I h
 |step e I h G Z=>exact W e I Z G
omit hw h8 hN hE hl hEl hs0 hs1 in
theorem qe0(n:Nat)(i:Int):atB (Xp n false) i=false:=by
 unfold atB;rw[Xh,List.getElem?_replicate]
 split<;>rfl
open Classical in
theorem jj2{n:Nat}(hn:n<g.ae.length)(a6:(nd g n).Scope=s):qp2 g n=some (decide ((nd g n).Kind=10/\Rch g s n)):=by
 unfold qp2;refine Ok.eq (Ok.bind (k3o hn ?_));rw[q6g hn,a6];refine k3n (fun h1=>Ok.some ?_) (fun h1=>?_)
 .
  rw[Xb,beq_eq_false_iff_ne]at h1
  symm;rw[decide_eq_false_iff_not];exact fun hh=>h1 hh.1
 rw[Xc,beq_iff_eq]at h1;refine Ok.guard (by omega) ?_;refine bK (l:=g.ae) (by omega) (fun i (b:List Bool)=>(i,s,b,g)) (fun p=>p.1) (fun _ _=>rfl) (fun i b=>b.length=g.ae.length/\(∀e∈g.aw,e.aL<i->leaves g s e.aL=true->atB b e.To=true)/\(∀e∈g.aw,atB b e.aL=true->cm g s e.aL=true->atB b e.To=true)/\∀i,0<=i->atB b i=true->Rch g s i) 0 (fun rec i hi b _ hI hr=>?_) (fun rec b hI=>?_) ⟨by simp,fun e G I=>by have:=(hE.at G).1.1;omega,(fun e _ I=>absurd I (by rw[qe0];simp)),(fun i _ I=>absurd I (by rw[qe0];simp))⟩ (Xe _)
 .
  obtain⟨I1,I2,I3,I4⟩:=hI;unfold qn2;dsimp only;rw[if_pos (by simpa using hi)];refine Ok.bind (k3o hi ?_);rw[q6g hi,iw hi (by omega)];have aj:inG g (i:Int):=⟨by omega,by omega⟩;have W:leaves g s (i:Int)=((nd g i).Kind==11&&(nd g i).Scope==s):=rfl;rw[<-W];refine k3n (fun I=>?_) (fun I=>?_)
  .
   have ak:cf b<rounds:=by
    have:cf b<=b.length:=Xt _ _;simp only[rounds];omega
   refine k3m (j0z hw h8 hN hE hl hEl hs0 hs1 rounds (i:Int) b aj I1 ak I4 (fun e G an=> .dy e G (by rw[an];exact I))) ?_;rintro⟨g',c,s'⟩ ⟨e1,e2,J1,J2,J3,J4⟩;dsimp only at e1 e2 J1 J2 J3 J4⊢;subst e1 e2;refine hr c ⟨by rw[<-J1.1];exact I1,fun e G h3 T=>?_,fun e G h3 T=>?_,J4⟩
   .
    have Z:=(hE.at G).2.1.1;rcases Yt (show e.aL<=i by omega)with h5|h5
    . exact J1.2 _ Z (I2 e G h5 T)
    exact J3 e G h5
   have Z:=(hE.at G).2.1.1
   cases hb:atB b e.aL with
   |true=>exact J1.2 _ Z (I3 e G hb T)
   |false=>exact J2 e G h3 hb T
  refine hr b ⟨I1,fun e G h3 T=>?_,I3,I4⟩;rcases Yt (show e.aL<=i by omega)with h5|h5
  . exact I2 e G h5 T
  rw[h5,I]at T;cases T
 obtain⟨I1,I2,I3,I4⟩:=hI;unfold qn2;dsimp only;rw[if_neg (by simp)];refine k3m (Ok.bM (i:=(n:Int)) (l:=b) (by omega) (by omega) (Q:=fun x=>x=atB b n) fun x hx=>getD_some hx) ?_;rintro x rfl;refine Ok.some ?_;rw[Yh,decide_eq_true_eq];exact⟨fun h=>⟨h1,I4 n (by omega) h⟩,fun h=>complete (fun e G W=>I2 e G (hE.at G).1.2 W) I3 _ h.2⟩
theorem jj7:Ok (q5p g s) fun b=>b.length=g.ae.length/\∀i,0<=i->(atB b i=true↔Rch g s i):=by
 unfold q5p;refine Ok.guard (by omega) ?_
 let Cl:List Bool->Prop:=fun b=>(∀e∈g.aw,leaves g s e.aL=true->atB b e.To=true)/\∀e∈g.aw,atB b e.aL=true->cm g s e.aL=true->atB b e.To=true
 have aq:∀b,Cl b->∀x,Rch g s x->atB b x=true:=fun b h=>complete h.1 h.2;have ar:(X7 (g.ae.length+1)).length=g.ae.length+1:=Zp;refine bK (l:=X7 (g.ae.length+1)) (by omega) (fun i (b:List Bool)=>(i,b)) (fun p=>p.1) (fun _ _=>rfl) (fun i b=>b.length=g.ae.length/\(∀i,0<=i->atB b i=true->Rch g s i)/\(Cl b\/cf b+i<=g.ae.length)) 0 (fun rec i hi b _ hI hr=>?_) (fun rec b hI=>?_) ⟨by simp,(fun i _ h2=>absurd h2 (by rw[qe0];simp)),.inr (by
  have:cf (Xp g.ae.length false)<=(Xp g.ae.length false).length:=Xt _ _
  simpa using this)⟩ (Xe _)
 .
  obtain⟨I1,I2,I3⟩:=hI;unfold q8l;dsimp only;rw[if_pos (by simp only[decide_eq_true_eq];omega)];refine bK (l:=g.aw) (by omega) (fun j (c:List Bool)=>(j,c)) (fun p=>p.1) (fun _ _=>rfl) (fun j c=>Sub b c/\(∀i,0<=i->atB c i=true->Rch g s i)/\∀e∈g.aw.take j,(leaves g s e.aL=true\/atB b e.aL=true/\cm g s e.aL=true)->atB c e.To=true) 0 (fun W j hj c _ hJ b1=>?_) (fun W c hJ=>?_) ⟨Sub.refl b,I2,by simp⟩ (Xe _)
  .
   obtain⟨J1,J2,J3⟩:=hJ;unfold q8k;dsimp only;rw[if_pos (by simpa using hj)];refine Ok.bind (k3o hj ?_);have hm:g.aw[j]∈g.aw:=Xj hj
   generalize b4:g.aw[j]=e at hm
   have G:=hE.at hm;have aj:c.length=g.ae.length:=by rw[<-J1.1,I1]
   have b2:g.aw.take (j+1)=g.aw.take j++[e]:=by rw[Xa hj,b4]
   have ao:e.To<c.length:=by rw[aj];exact G.2.1.2
   have ak:∀k,0<=k->atB (c.set e.To.toNat true) k=if k=e.To then true else atB c k:=fun k hk=>z8i G.2.1.1 ao hk;rw[iw hj (by omega),z2v G.1];refine Ok.bind (Ok.some ?_);have b5:leaves g s e.aL=((ndI g e.aL).Kind==11&&(ndI g e.aL).Scope==s):=rfl;rw[<-b5];have T:∀{Q:Bool->Prop} {k:Int},inG g k->Q (atB c k)->Ok (idx c k) Q:=fun {Q k} hk hq=>Ok.bM hk.1 (by rw[aj];exact hk.2) fun x I=>by rw[show x=atB c k from getD_some I];exact hq
   have Z:Rch g s e.To->Ok (W (((j+1:Nat):Int),List.set c (Int.toNat e.To) true)) (fun r=>r.length=g.ae.length/\∀i,0<=i->(atB r i=true↔Rch g s i)):=fun b6=>by
    refine b1 _ ⟨J1.trans (Sub.set G.2.1.1 ao),fun k hk h=>?_,fun x I a6=>?_⟩
    .
     rw[ak k hk]at h
     split at h
     . rename_i bi;rw[bi];exact b6
     exact J2 k hk h
    rw[b2,Xl,Xk]at I;rcases I with I|rfl
    . exact (Sub.set G.2.1.1 ao).2 _ (hE.at (X4 I)).2.1.1 (J3 x I a6)
    rw[ak _ G.2.1.1,if_pos rfl]
   have b3:¬(leaves g s e.aL=true\/atB b e.aL=true/\cm g s e.aL=true)->Ok (W (((j+1:Nat):Int),c)) (fun r=>r.length=g.ae.length/\∀i,0<=i->(atB r i=true↔Rch g s i)):=fun bs=>by
    refine b1 _ ⟨J1,J2,fun x I a6=>?_⟩;rw[b2,Xl,Xk]at I;rcases I with I|rfl
    . exact J3 x I a6
    exact absurd a6 bs
   refine k3n (fun h1=>Ok.bind (T G.2.1 (Z (.dy e hm h1)))) (fun h1=>?_);refine Ok.bind (T G.1 ?_);refine k3n (fun h2=>?_) (fun h2=>?_)
   .
    refine k3n (fun h3=>?_) (fun h3=>?_)
    .
     rw[ja0 hw h8 hs0 hs1];refine Ok.bind (Ok.some ?_);refine k3n (fun h4=>?_) (fun h4=>?_)
     . exact Ok.bind (T G.2.1 (Z (.step e hm (J2 _ G.1.1 h2) (by unfold cm;rw[h3,Y0];exact h4))))
     refine b3 ?_;rintro (h5|h5)
     . rw[h1]at h5;cases h5
     have h6:=h5.2;unfold cm at h6;rw[h3,Y0,h4]at h6;cases h6
    exact Ok.bind (T G.2.1 (Z (.step e hm (J2 _ G.1.1 h2) (by unfold cm;rw[h3];rfl))))
   refine b3 ?_;rintro (h5|h5)
   . rw[h1]at h5;cases h5
   have:=J1.2 _ G.1.1 h5.1;rw[h2]at this;cases this
  obtain⟨J1,J2,J3⟩:=hJ;unfold q8k;dsimp only;rw[if_neg (by simp)];rw[Xf]at J3;rw[iw hi (by omega)];refine hr c ⟨by rw[<-J1.1];exact I1,J2,?_⟩;rcases I3 with I3|I3
  .
   left
   have an:=aq b I3;exact⟨fun e he h=>J1.2 _ (hE.at he).2.1.1 (an _ (.dy e he h)),fun e he h I=>J1.2 _ (hE.at he).2.1.1 (an _ (.step e he (J2 _ (hE.at he).1.1 h) I))⟩
  obtain⟨g1,g2⟩:=J1.cf;rcases Yx (cf c) (cf b)with h|h
  . right;omega
  left
  have bv:=g2 (by omega);subst bv;exact⟨fun e he h=>J3 e he (.inl h),fun e he h I=>J3 e he (.inr ⟨h,I⟩)⟩
 obtain⟨I1,I2,I3⟩:=hI;unfold q8l;dsimp only;rw[ar,if_neg (by simp;omega)];refine Ok.some ⟨I1,fun i hi=>⟨I2 i hi,fun h=>?_⟩⟩;rcases I3 with I3|I3
 . exact aq b I3 i h
 omega
end
end VA
end
section
open Go Go.RowKit
namespace VA
def phase(err:Nat->Int)(N:Nat)(K:Int×Int):Int×Int:=match (X7 N).find? fun i=>err i !=0 with
 |some i=>(err i,(i:Int))
 |none=>K
theorem qi9{err:Nat->Int}{N i:Nat}{K:Int×Int}(h:∀j<i,err j=0)(hi:i<N)(G:err i≠0):phase err N K=(err i,(i:Int)):=by
 unfold phase;have:(X7 N).find? (fun i=>err i !=0)=some i:=by
  rw[Zs];exact⟨by simpa using G,Yp.2 hi,fun j I=>by simp[h j I]⟩
 rw[this]
theorem aX{err:Nat->Int}{N:Nat}{K:Int×Int}(h:∀j<N,err j=0):phase err N K=K:=by
 unfold phase;have:(X7 N).find? (fun i=>err i !=0)=none:=by
  rw[Yv];intro x G;simp[h x (Yp.1 G)]
 rw[this]
theorem z0u{err:Nat->Int}{N:Nat}{K:Int×Int}(h:(phase err N K).1=0):(∀j<N,err j=0)/\K.1=0:=by
 unfold phase at h
 split at h
 .
  rename_i i G
  have:=Zx G;simp at this;exact absurd h this
 rename_i G
 rw[Yv]at G;exact⟨fun j I=>by simpa using G j (Yp.2 I),h⟩
def q9a(g:aa)(s:Nat):Int:=if sOk g s=true then 0 else 6
def q71(g:aa)(n:Nat):Int:=if aY (nd g n).Kind<=z9i g n then 0 else 7
open Classical in
noncomputable def q3q(g:aa)(n:Nat):Int:=if (nd g n).Kind=10/\Rch g (nd g n).Scope n then 8 else 0
noncomputable def chk(g:aa):Int×Int:=
 if g.af.length<1\/8<g.af.length\/g.aG.length≠g.af.length then (6,0)
 else phase (q9a g) g.af.length (if g.ae.length<1\/32<g.ae.length\/64<g.aw.length then (11,0)
  else phase (q3h g) g.ae.length (phase (q9e g) g.aw.length (phase (q71 g) g.ae.length (phase (q3q g) g.ae.length (0,0)))))
theorem za0{g:aa}{s:Nat}(h:q9a g s=0):sOk g s=true:=by
 unfold q9a at h
 split at h
 . assumption
 cases h
structure Good(g:aa):Prop where
 pl:1<=g.af.length/\g.af.length<=8
 bl:g.aG.length=g.af.length
 sc:∀s<g.af.length,sOk g s=true
 nl:1<=g.ae.length/\g.ae.length<=32
 el:g.aw.length<=64
 no:∀n<g.ae.length,q3h g n=0
 ed:cy g
 fu:∀n<g.ae.length,aY (nd g n).Kind<=z9i g n
 ag:∀n<g.ae.length,¬((nd g n).Kind=10/\Rch g (nd g n).Scope n)
theorem Good.wp{g:aa}(h:Good g):WP g.af g.af.length:=WP.of (Yb _) h.sc
theorem z2e{g:aa}:(chk g).1=0↔Good g:=by
 constructor
 .
  intro h;unfold chk at h
  split at h
  . cases h
  rename_i h1
  obtain⟨h2,T⟩:=z0u h
  split at T
  . cases T
  rename_i h4
  obtain⟨h5,h6⟩:=z0u T;obtain⟨h7,h8⟩:=z0u h6;obtain⟨h9,W⟩:=z0u h8;obtain⟨Z,_⟩:=z0u W;refine⟨by omega,by omega,fun s hs=>za0 (h2 s hs),by omega,by omega,h5,h7,fun n I=>?_,fun n I=>?_⟩
  .
   have:=h9 n I;unfold q71 at this
   split at this
   . assumption
   cases this
  have:=Z n I;unfold q3q at this
  split at this
  . cases this
  assumption
 intro h;have hp:=h.pl;have hb:=h.bl;have I:=h.nl;have he:=h.el;unfold chk;rw[if_neg (by omega),aX (fun j G=>by unfold q9a;rw[if_pos (h.sc j G)]),if_neg (by omega),aX h.no,aX h.ed,aX (fun j G=>by unfold q71;rw[if_pos (h.fu j G)]),aX (fun j G=>by unfold q3q;rw[if_neg (h.ag j G)])]
section
variable {g:aa} (hw:WP g.af g.af.length) (h8:g.af.length<=8) (hl:g.ae.length<=32) (hEl:g.aw.length<=64)
include hw h8 hl hEl
open Classical in
theorem j7h(W:∀n<g.ae.length,q3h g n=0)(hE:cy g):qe7 g=some (phase (q3q g) g.ae.length (0,0)):=by
 unfold qe7;refine Ok.eq (k3s (l:=g.ae) (by omega) (fun i=>∀j<i,q3q g j=0) 0 (fun rec i hi _ T hr=>?_) (fun rec T=>?_) (by intro j Z;omega) (Xe _))
 .
  unfold qn7;rw[if_pos (by simpa using hi)];have G:=(q9j (W i hi)).2.1;rw[jj2 hw h8 W hE (by omega) (by omega) G.1 G.2 hi rfl];refine Ok.bind (Ok.some ?_);refine k3n (fun I=>Ok.some ?_) (fun I=>?_)
  .
   rw[decide_eq_true_eq]at I;have:q3q g i=8:=by unfold q3q;rw[if_pos I]
   rw[qi9 T hi (by rw[this];decide),this]
  rw[decide_eq_false_iff_not]at I;rw[iw hi (by omega)];refine hr fun j Z=>?_;rcases X0 (X6.1 Z)with h2|rfl
  . exact T j h2
  unfold q3q;rw[if_neg I]
 unfold qn7;rw[if_neg (by simp)];exact Ok.some (aX T).symm
open Classical in
theorem j3i(hN:∀n<g.ae.length,q3h g n=0)(hE:cy g):q65 g=some (phase (q3q g) g.ae.length (0,0)):=by
 unfold q65;refine Ok.eq (k3s (l:=g.ae) (by omega) (fun i=>∀j<i,q3q g j=0) 0 (fun rec i hi _ Z hr=>?_) (fun rec Z=>?_) (by intro j hj;omega) (Xe _))
 .
  unfold q8j;rw[if_pos (by simpa using hi)];refine Ok.bind (k3o hi ?_);rw[q6g hi];have T:=(q9j (hN i hi)).2.1;rw[iw hi (by omega)];have W:¬((nd g i).Kind=10/\Rch g (nd g i).Scope i)->Ok (rec ((i+1:Nat):Int)) (fun r=>r=phase (q3q g) g.ae.length (0,0)):=fun G=>by
   refine hr fun j hj=>?_;rcases X0 (X6.1 hj)with I|rfl
   . exact Z j I
   unfold q3q;rw[if_neg G]
  refine k3n (fun G=>?_) (fun G=>?_)
  .
   rw[beq_iff_eq]at G;refine k3m (jj7 hw h8 hN hE (by omega) (by omega) T.1 T.2) fun b hb=>?_;refine k3m (Ok.bM (i:=(i:Int)) (l:=b) (by omega) (by omega) (Q:=fun x=>x=atB b i) fun x hx=>getD_some hx) ?_;rintro x rfl;refine k3n (fun I=>Ok.some ?_) (fun I=>W fun hh=>?_)
   .
    have hc:=(hb.2 i (by omega)).1 I;have:q3q g i=8:=by unfold q3q;rw[if_pos ⟨G,hc⟩]
    rw[qi9 Z hi (by rw[this];decide),this]
   rw[(hb.2 i (by omega)).2 hh.2]at I;cases I
  rw[beq_eq_false_iff_ne]at G;exact W fun hh=>G hh.1
 unfold q8j;rw[if_neg (by simp)];exact Ok.some (aX Z).symm
theorem j9e(Z:∀n<g.ae.length,q3h g n=0)(T:cy g):qe8 g=some (phase (q71 g) g.ae.length (phase (q3q g) g.ae.length (0,0))):=by
 unfold qe8;refine Ok.eq (k3s (l:=g.ae) (by omega) (fun i=>∀j<i,q71 g j=0) 0 (fun rec i hi _ I hr=>?_) (fun rec I=>?_) (by intro j W;omega) (Xe _))
 .
  unfold qn6;rw[if_pos (by simpa using hi),js1 T (by omega) hi];refine Ok.bind (Ok.some ?_);refine k3n (fun G=>Ok.some ?_) (fun G=>?_)
  .
   simp only[Xb,decide_eq_false_iff_not]at G;have:q71 g i=7:=by unfold q71;rw[if_neg G]
   rw[qi9 I hi (by rw[this];decide),this]
  simp only[Xc,decide_eq_true_eq]at G;rw[iw hi (by omega)];refine hr fun j W=>?_;rcases X0 (X6.1 W)with h2|rfl
  . exact I j h2
  unfold q71;rw[if_pos G]
 unfold qn6;rw[if_neg (by simp),j7h hw h8 hl hEl Z T];exact Ok.some (aX I).symm
theorem j5s(hN:∀n<g.ae.length,q3h g n=0)(hE:cy g):q66 g=some (phase (q71 g) g.ae.length (phase (q3q g) g.ae.length (0,0))):=by
 unfold q66;refine Ok.eq (k3s (l:=g.ae) (by omega) (fun i=>∀j<i,q71 g j=0) 0 (fun rec i hi _ hI hr=>?_) (fun rec hI=>?_) (by intro j G;omega) (Xe _))
 .
  unfold q69;rw[if_pos (by simpa using hi)];refine bK (l:=g.aw) (by omega) (fun j (c:Int)=>(c,j)) (fun p=>p.2) (fun _ _=>rfl) (fun j c=>c=(((g.aw.take j).filter fun e=>e.To==(i:Int)).length:Int)) 0 (fun T j G c _ W Z=>?_) (fun T c W=>?_) (by simp) (Xe _)
  .
   unfold q8i;dsimp only;rw[if_pos (by simpa using G)];refine Ok.bind (k3o G ?_);have a6:((g.aw.take j).filter fun e=>e.To==(i:Int)).length<=(g.aw.take j).length:=Xt _ _;rw[Xd]at a6;have hs:(g.aw.take (j+1)).filter (fun e=>e.To==(i:Int))=(g.aw.take j).filter (fun e=>e.To==(i:Int))++if (g.aw[j].To==(i:Int))=true then [g.aw[j]]else []:=by
    rw[Xa G,Yg,Ye,Zd]
   rw[iw G (by omega)];refine k3n (fun I=>?_) (fun I=>?_)
   . rw[wrap_i64 _ (by omega)];refine Z _ ?_;rw[hs,if_pos I,W];simp
   refine Z _ ?_;rw[hs,if_neg (by simp[I]),W];simp
  unfold q8i;dsimp only;rw[if_neg (by simp)];rw[Xf]at W;unfold q8g;refine Ok.bind (k3o hi ?_);rw[q6g hi,zw5];refine Ok.bind (Ok.some ?_);have aj:c=(z9i g i:Int):=W;rw[aj];refine k3n (fun I=>Ok.some ?_) (fun I=>?_)
  .
   simp only[decide_eq_true_eq]at I;have:q71 g i=7:=by unfold q71;rw[if_neg (by omega)]
   rw[qi9 hI hi (by rw[this];decide),this]
  simp only[decide_eq_false_iff_not]at I;rw[iw hi (by omega)];refine hr fun j G=>?_;rcases X0 (X6.1 G)with h2|rfl
  . exact hI j h2
  unfold q71;rw[if_pos (by omega)]
 unfold q69;rw[if_neg (by simp),j3i hw h8 hl hEl hN hE];exact Ok.some (aX hI).symm
theorem j9p(T:∀n<g.ae.length,q3h g n=0):qe9 g=some (phase (q9e g) g.aw.length (phase (q71 g) g.ae.length (phase (q3q g) g.ae.length (0,0)))):=by
 unfold qe9;refine Ok.eq (k3s (l:=g.aw) (by omega) (fun i=>∀j<i,q9e g j=0) 0 (fun rec i hi _ G Z=>?_) (fun rec G=>?_) (by intro j W;omega) (Xe _))
 .
  unfold qn5;rw[if_pos (by simpa using hi),jt1 T (by omega) hi];refine Ok.bind (Ok.some ?_);refine k3n (fun I=>Ok.some ?_) (fun I=>?_)
  . simp only[Xb,beq_eq_false_iff_ne,ne_eq]at I;rw[qi9 G hi I]
  simp only[Xc,beq_iff_eq]at I;rw[iw hi (by omega)];refine Z fun j W=>?_;rcases X0 (X6.1 W)with h2|rfl
  . exact G j h2
  exact I
 unfold qn5;rw[if_neg (by simp),j9e hw h8 hl hEl T G];exact Ok.some (aX G).symm
theorem j5u(T:∀n<g.ae.length,q3h g n=0):q67 g=some (phase (q9e g) g.aw.length (phase (q71 g) g.ae.length (phase (q3q g) g.ae.length (0,0)))):=by
 unfold q67;refine Ok.eq (k3s (l:=g.aw) (by omega) (fun i=>∀j<i,q9e g j=0) 0 (fun rec i hi _ G Z=>?_) (fun rec G=>?_) (by intro j W;omega) (Xe _))
 .
  unfold q8h;rw[if_pos (by simpa using hi),jd9 T (by omega) hi];refine Ok.bind (Ok.some ?_);refine k3n (fun I=>Ok.some ?_) (fun I=>?_)
  . simp only[Xb,beq_eq_false_iff_ne,ne_eq]at I;rw[qi9 G hi I]
  simp only[Xc,beq_iff_eq]at I;rw[iw hi (by omega)];refine Z fun j W=>?_;rcases X0 (X6.1 W)with h2|rfl
  . exact G j h2
  exact I
 unfold q8h;rw[if_neg (by simp),j5s hw h8 hl hEl T G];exact Ok.some (aX G).symm
end
section
variable {g:aa} (hw:WP g.af g.af.length) (h8:g.af.length<=8)
include hw h8
theorem j8r:qf0 g=some (if g.ae.length<1\/32<g.ae.length\/64<g.aw.length then (11,0)
 else phase (q3h g) g.ae.length (phase (q9e g) g.aw.length (phase (q71 g) g.ae.length (phase (q3q g) g.ae.length (0,0))))):=by
 unfold qf0;refine Ok.eq (k3n (fun h=>Ok.some ?_) (fun h=>?_))
 . simp only[Xu,decide_eq_true_eq]at h;rw[if_pos (by omega)]
 simp only[Xr,decide_eq_false_iff_not]at h;rw[if_neg (by omega)];refine k3s (l:=g.ae) (by omega) (fun i=>∀j<i,q3h g j=0) 0 (fun rec i hi _ G W=>?_) (fun rec G=>?_) (by intro j T;omega) (Xe _)
 .
  unfold qn4;rw[if_pos (by simpa using hi),jq3 hw h8 (by omega) hi (fun h0=>(q9j (G (i-1) (by omega))).2.1)];refine Ok.bind (Ok.some ?_);refine k3n (fun I=>Ok.some ?_) (fun I=>?_)
  . simp only[Xb,beq_eq_false_iff_ne,ne_eq]at I;rw[qi9 G hi I]
  simp only[Xc,beq_iff_eq]at I;rw[iw hi (by omega)];refine W fun j T=>?_;rcases X0 (X6.1 T)with Z|rfl
  . exact G j Z
  exact I
 unfold qn4;rw[if_neg (by simp),j9p hw h8 (by omega) (by omega) G];exact Ok.some (aX G).symm
theorem j5r(hp:∀x∈g.ae,x.Prog.length<1000000000):q68 g=some (if g.ae.length<1\/32<g.ae.length\/64<g.aw.length then (11,0)
 else phase (q3h g) g.ae.length (phase (q9e g) g.aw.length (phase (q71 g) g.ae.length (phase (q3q g) g.ae.length (0,0))))):=by
 unfold q68;refine Ok.eq (k3n (fun h=>Ok.some ?_) (fun h=>?_))
 . simp only[Xu,decide_eq_true_eq,beq_iff_eq]at h;rw[if_pos (by omega)]
 simp only[Xr,decide_eq_false_iff_not,beq_eq_false_iff_ne,ne_eq]at h;rw[if_neg (by omega)];refine k3s (l:=g.ae) (by omega) (fun i=>∀j<i,q3h g j=0) 0 (fun rec i hi _ G W=>?_) (fun rec G=>?_) (by intro j T;omega) (Xe _)
 .
  unfold q7y;rw[if_pos (by simpa using hi),jd6 hw h8 (by omega) hi (fun h0=>(q9j (G (i-1) (by omega))).2.1) (by rw[<-q6g hi];exact hp _ (Xj hi))];refine Ok.bind (Ok.some ?_);refine k3n (fun I=>Ok.some ?_) (fun I=>?_)
  . simp only[Xb,beq_eq_false_iff_ne,ne_eq]at I;rw[qi9 G hi I]
  simp only[Xc,beq_iff_eq]at I;rw[iw hi (by omega)];refine W fun j T=>?_;rcases X0 (X6.1 T)with Z|rfl
  . exact G j Z
  exact I
 unfold q7y;rw[if_neg (by simp),j5u hw h8 (by omega) (by omega) G];exact Ok.some (aX G).symm
end
theorem zk1(g:aa):q8r g=some (chk g):=by
 unfold q8r chk;refine Ok.eq (k3n (fun h=>Ok.some ?_) (fun h=>?_))
 . simp only[Xu,decide_eq_true_eq,Xb,beq_eq_false_iff_ne,ne_eq]at h;rw[if_pos (by omega)]
 simp only[Xr,decide_eq_false_iff_not,Xc,beq_iff_eq]at h;rw[if_neg (by omega)];refine k3s (l:=g.af) (by omega) (fun i=>∀j<i,q9a g j=0) 0 (fun rec i hi _ G Z=>?_) (fun rec G=>?_) (by intro j W;omega) (Xe _)
 .
  unfold qn3;rw[if_pos (by simpa using hi),jd5 (by omega) (by omega) hi (fun t T=>za0 (G t T))];refine Ok.bind (Ok.some ?_);refine k3n (fun I=>Ok.some ?_) (fun I=>?_)
  .
   rw[Xb]at I;have:q9a g i=6:=by unfold q9a;rw[I];rfl
   rw[qi9 G hi (by rw[this];decide),this]
  rw[Xc]at I;rw[iw hi (by omega)];refine Z fun j W=>?_;rcases X0 (X6.1 W)with h2|rfl
  . exact G j h2
  unfold q9a;rw[if_pos I]
 unfold qn3;rw[if_neg (by simp),j8r (WP.of (Yb _) fun t T=>za0 (G t T)) (by omega)];exact Ok.some (aX G).symm
theorem cL(g:aa)(hp:∀x∈g.ae,x.Prog.length<1000000000):q7s g=some (chk g):=by
 unfold q7s chk;refine Ok.eq (k3n (fun h=>Ok.some ?_) (fun h=>?_))
 . simp only[Xu,decide_eq_true_eq,beq_iff_eq,Xb,beq_eq_false_iff_ne,ne_eq]at h;rw[if_pos (by omega)]
 simp only[Xr,decide_eq_false_iff_not,Xc,beq_iff_eq,beq_eq_false_iff_ne,ne_eq]at h;rw[if_neg (by omega)];refine k3s (l:=g.af) (by omega) (fun i=>∀j<i,q9a g j=0) 0 (fun rec i hi _ hI hr=>?_) (fun rec hI=>?_) (by intro j hj;omega) (Xe _)
 .
  have hw:=WP.of (m:=i) (by omega) fun t ht=>za0 (hI t ht);unfold q3r;rw[if_pos (by simpa using hi)];have T:∀b:Bool,b=sOk g i->Ok (if (!b)=true then some (6,(i:Int))else rec (IntKind.i64.wrap ((i:Int)+1))) (fun r=>r=phase (q9a g) g.af.length (if g.ae.length<1\/32<g.ae.length\/64<g.aw.length then (11,0)
   else phase (q3h g) g.ae.length (phase (q9e g) g.aw.length (phase (q71 g) g.ae.length (phase (q3q g) g.ae.length (0,0)))))):=fun b hb=>by
   subst hb;refine k3n (fun G=>Ok.some ?_) (fun G=>?_)
   .
    rw[Xb]at G;have:q9a g i=6:=by unfold q9a;rw[G];rfl
    rw[qi9 hI hi (by rw[this];decide),this]
   rw[Xc]at G;rw[iw hi (by omega)];refine hr fun j hj=>?_;rcases X0 (X6.1 hj)with Z|rfl
   . exact hI j Z
   unfold q9a;rw[if_pos G]
  refine k3m (Ok.bM (i:=(i:Int)) (by omega) (by omega) (Q:=fun x=>x=g.af.getD i 0) fun x hx=>getD_some hx) ?_;rintro x rfl;have a6:∀{Q:Int->Prop},Q (g.aG.getD i 0)->Ok (idx g.aG (i:Int)) Q:=fun {Q} hq=>Ok.bM (by omega) (by omega) fun x hx=>by rw[show x=g.aG.getD i 0 from getD_some hx];exact hq
  by_cases hz:i=0
  .
   subst hz;have aj:sOk g 0=(g.af.getD 0 0==-1&&g.aG.getD 0 0==0):=rfl;refine k3n (fun G=>?_) (fun G=>?_)
   . refine Ok.bind (a6 ?_);rw[if_neg (by simp)];exact T _ (by rw[aj,G];rfl)
   rw[if_neg (by simp)];exact T _ (by rw[aj,G];rfl)
  have I:sOk g i=(decide (0<=g.af.getD i 0/\g.af.getD i 0<i/\1<=g.aG.getD i 0/\g.aG.getD i 0<=64)&&decide ((anc g.af i).length<=4)):=by unfold sOk;rw[if_neg hz]
  have W:decide (0<(i:Int))=true:=by rw[decide_eq_true_eq];omega
  refine k3n (fun G=>?_) (fun G=>?_)
  . rw[beq_iff_eq]at G;refine Ok.bind (a6 ?_);rw[if_pos W,if_neg (by rw[G];simp)];exact T _ (by rw[I,decide_eq_false (by omega)];rfl)
  rw[if_pos W];refine k3n (fun Z=>?_) (fun Z=>?_)
  .
   rw[decide_eq_true_eq]at Z;refine k3n (fun h3=>?_) (fun h3=>?_)
   .
    rw[decide_eq_true_eq]at h3;refine Ok.bind (a6 ?_);refine k3n (fun h4=>?_) (fun h4=>?_)
    .
     rw[decide_eq_true_eq]at h4;refine k3n (fun h5=>?_) (fun h5=>?_)
     .
      rw[decide_eq_true_eq]at h5;have hn:=hw.next hi (by omega) Z h3;rw[zk2 hn (by omega) (.inr ⟨by omega,by omega⟩)];refine Ok.bind (Ok.some ?_);refine T _ ?_;rw[I,decide_eq_true (show 0<=g.af.getD i 0/\g.af.getD i 0<i/\1<=g.aG.getD i 0/\g.aG.getD i 0<=64 from ⟨Z,h3,h4,h5⟩),Y5,Y0]
      congr 1;apply propext;omega
     rw[decide_eq_false_iff_not]at h5;exact T _ (by rw[I,decide_eq_false (by omega)];rfl)
    rw[decide_eq_false_iff_not]at h4;exact T _ (by rw[I,decide_eq_false (by omega)];rfl)
   rw[decide_eq_false_iff_not]at h3;exact T _ (by rw[I,decide_eq_false (by omega)];rfl)
  rw[decide_eq_false_iff_not]at Z;exact T _ (by rw[I,decide_eq_false (by omega)];rfl)
 unfold q3r;rw[if_neg (by simp),j5r (WP.of (Yb _) fun t ht=>za0 (hI t ht)) (by omega) hp];exact Ok.some (aX hI).symm
end VA
end
section
open Go Go.RowKit VA
namespace FU
inductive Us(g:aa)(l:List aC):Int->Prop
 |sink (n:Int) (h:inG g n) (hk:(ndI g n).Kind=15):Us g l n
 |step (e:aC) (he:e∈l) (h:Us g l e.To):Us g l e.aL
def InE(g:aa)(l:List aC):Prop:=∀e∈l,inG g e.aL/\inG g e.To
theorem z0h{b:List Bool}{i:Int}(G:0<=i)(I:i<b.length){Q:Bool->Prop}(T:Q (atB b i)):Ok (idx b i) Q:=Ok.bM G I fun x W=>by rw[show x=atB b i from getD_some W];exact T
section
variable {g:aa} {l:List aC} (hN:g.ae.length<1000000) (hl:l.length<1000000) (hE:InE g l)
include hN hl hE
theorem j7x{w:az}(hw:w.g.ae=g.ae)(aj:w.g.aw=l):Ok (qa2 w) fun b=>b.length=g.ae.length/\∀i,inG g i->(atB b i=true↔Us g l i):=by
 unfold qa2;rw[hw];refine Ok.guard (by omega) ?_;refine bK (l:=g.ae) (by omega) (fun i (b:List Bool)=>(i,b)) (fun p=>p.1) (fun _ _=>rfl) (fun i b=>b.length=g.ae.length/\∀j:Nat,j<i->atB b j=((nd g j).Kind==15)) 0 (fun rec i hi b _ hI hr=>?_) (fun rec b hI=>?_) ⟨by simp,fun j hj=>by omega⟩ (Xe _)
 .
  obtain⟨I1,I2⟩:=hI;unfold qa9;dsimp only;rw[hw,if_pos (by simpa using hi)];refine Ok.bind (k3o hi ?_);rw[q6g hi];refine Ok.bind (z0h (by omega) (by omega) ?_);rw[iw hi (by omega)];refine hr _ ⟨by simpa using I1,fun j hj=>?_⟩;unfold atB;rw[Xg,Xg,Xh,Wh]
  by_cases ak:i=j
  . subst ak;rw[if_pos rfl,if_pos (by omega)];rfl
  rw[if_neg ak];have:=I2 j (by omega);unfold atB at this;rw[Xg,Xh]at this;exact this
 obtain⟨I1,I2⟩:=hI;unfold qa9;dsimp only;rw[hw,if_neg (by simp)];unfold qa8;have an:∀i,inG g i->(ndI g i).Kind=15->atB b i=true:=fun i hi hk=>by
  have:=I2 i.toNat (by have:=hi.1;have:=hi.2;omega);rw[Ys hi.1]at this;rw[this];exact beq_iff_eq.2 hk
 have b2:∀i,inG g i->atB b i=true->Us g l i:=fun i hi h=>by
  have:=I2 i.toNat (by have:=hi.1;have:=hi.2;omega);rw[Ys hi.1,h]at this;exact .sink i hi (by unfold ndI;simpa using this.symm)
 refine k3p (fun p:Bool×List Bool=>Sub b p.2/\(∀i,inG g i->atB p.2 i=true->Us g l i)/\(p.1=false->∀e∈l,atB p.2 e.To=true->atB p.2 e.aL=true)) (fun p=>2*cf p.2+if p.1 then 1 else 0) ?_ ⟨Sub.refl b,b2,fun h=>by cases h⟩ (by
  have:cf b<=b.length:=Xt _ _;simp only[rounds,if_true];omega)
 rintro rec ⟨more,c⟩ ⟨J1,J2,J3⟩ hr;dsimp only at J1 J2 J3 hr;unfold ql4;dsimp only;refine k3n (fun T=>?_) (fun T=>?_)
 .
  subst T;refine bK (l:=l) (by omega) (fun i (p:Bool×List Bool)=>(p.1,i,p.2)) (fun p=>p.2.1) (fun _ _=>rfl) (fun i p=>Sub c p.2/\(∀i,inG g i->atB p.2 i=true->Us g l i)/\(p.1=false->p.2=c/\∀e∈l.take i,atB c e.To=true->atB c e.aL=true)/\(p.1=true->cf p.2<cf c)) (s0:=(false,c)) 0 (fun I i hi p _ W ao=>?_) (fun I p W=>?_) ⟨Sub.refl c,J2,fun _=>⟨rfl,by simp⟩,fun h=>by cases h⟩ (Xe _)
  .
   obtain⟨mo,d⟩:=p;obtain⟨K1,Z,K3,K4⟩:=W;dsimp only at K1 Z K3 K4;unfold qb0;dsimp only;rw[aj,if_pos (by simpa using hi)];refine Ok.bind (k3o hi ?_);have T:=Xj hi
   generalize b3:l[i]=e at T
   have G:=hE e T;have a6:d.length=g.ae.length:=by rw[<-K1.1,<-J1.1,I1]
   have b4:l.take (i+1)=l.take i++[e]:=by rw[Xa hi,b3]
   rw[iw hi (by omega)];refine Ok.bind (z0h G.2.1 (by rw[a6];exact G.2.2) ?_);have aq:(atB d e.To=true->atB d e.aL=true)->Ok (I (mo,((i+1:Nat):Int),d)) (fun b=>b.length=g.ae.length/\∀i,inG g i->(atB b i=true↔Us g l i)):=fun hn=>by
    refine ao (mo,d) ⟨K1,Z,fun hf=>?_,K4⟩;obtain⟨q1,q2⟩:=K3 hf;refine⟨q1,fun x hx=>?_⟩;rw[b4,Xl,Xk]at hx;rcases hx with hx|rfl
    . exact q2 x hx
    rw[<-q1];exact hn
   refine k3n (fun h1=>?_) (fun h1=>aq (fun h=>by rw[h1]at h;cases h));refine Ok.bind (z0h G.1.1 (by rw[a6];exact G.1.2) ?_);refine k3n (fun h2=>?_) (fun h2=>aq (fun _=>by simpa using h2));rw[Xb]at h2;have ar:e.aL<d.length:=by rw[a6];exact G.1.2
   have b1:d[e.aL.toNat]?=some false:=by
    unfold atB at h2;rw[Xh]at h2;have b5:e.aL.toNat<d.length:=by have:=G.1.1;omega
    rw[Xx b5]at h2⊢
    simpa using h2
   have bs:=zp8 b1;refine ao (true,d.set e.aL.toNat true) ⟨K1.trans (Sub.set G.1.1 ar),fun j hj h=>?_,(by intro h;cases h),fun _=>?_⟩
   .
    rw[z8i G.1.1 ar hj.1]at h
    split at h
    . rename_i b6;rw[b6];exact .step e T (Z _ G.2 h1)
    exact Z j hj h
   have:=K1.cf.1;dsimp only;omega
  obtain⟨mo,d⟩:=p;obtain⟨K1,Z,K3,K4⟩:=W;dsimp only at K1 Z K3 K4;unfold qb0;dsimp only;rw[aj,if_neg (by simp)]
  cases mo with
  |true=>exact hr (true,d) ⟨J1.trans K1,Z,fun h=>by cases h⟩ (by have:=K4 rfl;dsimp only;simp only[if_true];omega)
  |false=>
   obtain⟨q1,q2⟩:=K3 rfl;rw[Xf]at q2;subst q1;exact hr (false,d) ⟨J1,J2,fun _=>q2⟩ (by dsimp only;simp only[if_true,Xz,if_false];omega)
 refine Ok.some ⟨by rw[<-J1.1,I1],fun i hi=>⟨J2 i hi,fun hu=>?_⟩⟩;have bi:=J3 T
 induction hu with
 |sink n h hk=>exact J1.2 n h.1 (an n h hk)
 |step e he h ih=>exact bi e he (ih (hE e he).2)
end
end FU
end
section
open Go Go.RowKit VA
namespace FU
def bq:List Bool->Nat->List Int
 |[],_=>[]
 |true::r,k=>-1::bq r k
 |false::r,k=>(k:Int)::bq r (k+1)
def q2l:List aH->List Bool->List aH
 |x::xs,true::r=>q2l xs r
 |x::xs,false::r=>x::q2l xs r
 |_,_=>[]
def now(gone:List Bool)(i:Int):Int:=(bq gone 0).getD i.toNat 0
def q36(gone:List Bool)(e:aC):aC:=⟨now gone e.aL,now gone e.To,e.Port,e.aS⟩
def u6(g:aa)(l:List aC)(gone:List Bool):aa:=⟨g.af,g.aG,q2l g.ae gone,l.map (q36 gone)⟩
def built(g:aa)(l:List aC)(gone:List Bool):b7:=⟨u6 g l gone,bq gone 0⟩
theorem q3k(b:Bool)(r:List Bool):cf (b::r)=(if b then 0 else 1)+cf r:=by cases b<;>simp[cf];omega
theorem z2k:∀(a b:List Bool) (k:Nat),bq (a++b) k=bq a k++bq b (k+cf a)
 |[],b,k=>by simp[bq,cf]
 |true::a,b,k=>by simp only[Yr,bq,z2k a b k,q3k,if_true];rw[Wc]
 |false::a,b,k=>by
  simp only[Yr,bq,z2k a b (k+1),q3k,Xz,if_false];rw[show k+1+cf a=k+(1+cf a) by omega]
theorem z01:∀(a:List Bool) (k:Nat),(bq a k).length=a.length
 |[],_=>rfl
 |true::a,k=>by simp[bq,z01 a k]
 |false::a,k=>by simp[bq,z01 a (k+1)]
theorem z0y:∀(xs ys:List aH) (a b:List Bool),xs.length=a.length->q2l (xs++ys) (a++b)=q2l xs a++q2l ys b
 |[],ys,[],b,_=>by simp[q2l]
 |x::xs,ys,true::a,b,h=>by simp only[Yr,q2l];exact z0y xs ys a b (by simpa using h)
 |x::xs,ys,false::a,b,h=>by simp only[Yr,q2l];rw[z0y xs ys a b (by simpa using h)]
 |[],_,_::_,_,h=>by simp at h
 |_::_,_,[],_,h=>by simp at h
theorem z2u:∀(xs:List aH) (a:List Bool),xs.length=a.length->(q2l xs a).length=cf a
 |[],[],_=>rfl
 |x::xs,true::a,h=>by rw[q2l,q3k,z2u xs a (by simpa using h)];simp
 |x::xs,false::a,h=>by rw[q2l,q3k,X9,z2u xs a (by simpa using h)];simp;omega
 |[],_::_,h=>by simp at h
 |_::_,[],h=>by simp at h
theorem qh4{α:Type}{l:List α}{i:Nat}(h:i<l.length):l.take (i+1)=l.take i++[l[i]]:=Xa h
theorem jp2{A:List Int}{n:Nat}{x:Int}(G:0<n):(A++Xp n (0:Int)).set A.length x=A++x::Xp (n-1) 0:=by
 obtain⟨m,rfl⟩:∃m,n=m+1:=⟨n-1,by omega⟩;rw[Yy _ _ (Yb _),Y8,Wb];rfl
theorem bL{A B:List Int}{y x:Int}:(A++y::B).set A.length x=A++x::B:=by
 rw[Yy _ _ (Yb _),Y8];rfl
section
variable {g:aa} {l:List aC} {gone:List Bool} (hN:g.ae.length<1000000) (hl:l.length<1000000) (hE:InE g l) (hg:gone.length=g.ae.length)
include hN hg
theorem j4r{i:Int}(hi:inG g i){Q:Int->Prop}(h:Q (now gone i)):Ok (idx (bq gone 0) i) Q:=by
 refine Ok.bM hi.1 (by rw[z01,hg];exact hi.2) fun x G=>?_;rw[show x=now gone i from getD_some G];exact h
theorem j8q{i:Nat}(hi:i<gone.length):bq (gone.take (i+1)) 0=bq (gone.take i) 0++[if gone[i]then -1 else (cf (gone.take i):Int)]:=by
 rw[qh4 hi,z2k,Wc]
 congr 1
 cases gone[i]<;>simp[bq]
theorem j6s{i:Nat}(hi:i<g.ae.length):q2l (g.ae.take (i+1)) (gone.take (i+1))=q2l (g.ae.take i) (gone.take i)++if (gone[i]'(by rw[hg];exact hi))then []else [g.ae[i]]:=by
 rw[qh4 hi,qh4 (show i<gone.length by omega),z0y _ _ _ _ (by rw[Xd,Xd,hg])]
 congr 1
 cases gone[i]'(by rw[hg];exact hi)<;>simp[q2l]
theorem jg1(i:Nat):(q2l (g.ae.take i) (gone.take i)).length=cf (gone.take i):=z2u _ _ (by rw[Xd,Xd,hg])
theorem z4m{i:Nat}(hi:i<gone.length):atB gone (i:Int)=gone[i]:=by
 unfold atB;rw[Xg,Xh,Xx hi];rfl
include hl hE
theorem j55{w:az}(hp:g.af.length<1000000)(hb:g.aG.length<1000000)(an:∀x∈g.ae,x.Prog.length<1000000)(hw:w=⟨⟨g.af,g.aG,g.ae,l⟩,gone⟩):q9c w=some (built g l gone):=by
 subst hw;unfold q9c;have T:∀z:List Int,z.length<1000000->q62 z=some z:=fun z hz=>by
  unfold q62;refine Ok.eq (Ok.guard (by simp;omega) (Ok.some (by simp)))
 rw[T _ hp,T _ hb];refine Ok.eq (Ok.bind (Ok.some (Ok.bind (Ok.some (Ok.guard (by dsimp only;omega) ?_)))));dsimp only;refine bK (l:=g.ae) (by omega) (fun i (p:List aH×List Int)=>(i,p.1,p.2)) (fun p=>p.1) (fun _ _=>rfl) (fun i p=>p.1=q2l (g.ae.take i) (gone.take i)/\p.2=bq (gone.take i) 0++Xp (g.ae.length-i) 0) (s0:=([],Xp g.ae.length 0)) 0 (fun rec i hi p _ I hr=>?_) (fun rec p I=>?_) ⟨by simp[q2l],by simp[bq]⟩ (Xe _)
 .
  obtain⟨a,b⟩:=p;obtain⟨rfl,rfl⟩:=I;have W:i<gone.length:=by omega
  have hc:=jg1 hN hg i;have b1:cf (gone.take i)<=i:=by
   have:cf (gone.take i)<=(gone.take i).length:=Xt _ _;rw[Xd]at this;omega
  have G:(bq (gone.take i) 0).length=i:=by rw[z01,Xd];omega
  unfold q96;dsimp only;rw[if_pos (by simpa using hi)];refine Ok.bind (k3o hi ?_);have ao:(bq (gone.take i) 0++Xp (g.ae.length-i) (0:Int)).set i (-1)=bq (gone.take i) 0++-1::Xp (g.ae.length-i-1) 0:=by
   have:=jp2 (A:=bq (gone.take i) 0) (n:=g.ae.length-i) (x:=-1) (by omega);rw[G]at this;exact this
  have aq:∀x:Int,(bq (gone.take i) 0++-1::Xp (g.ae.length-i-1) (0:Int)).set i x=bq (gone.take i) 0++x::Xp (g.ae.length-i-1) 0:=fun x=>by
   have:=bL (A:=bq (gone.take i) 0) (B:=Xp (g.ae.length-i-1) (0:Int)) (y:=-1) (x:=x);rw[G]at this;exact this
  refine Ok.bind (k3o (show i<(bq (gone.take i) 0++Xp (g.ae.length-i) (0:Int)).length by rw[Y7,G,Yi];omega) ?_);refine Ok.bind (k3o W ?_);rw[iw hi (by omega),Xg,ao];have hn:=j8q hN hg W;have hk:=j6s hN hg hi;refine k3n (fun Z=>?_) (fun Z=>?_)
  .
   rw[Xb]at Z;rw[Z]at hn hk;refine Ok.bind (k3o (show i<(bq (gone.take i) 0++-1::Xp (g.ae.length-i-1) (0:Int)).length by simp[G]) ?_);have b2:=an _ (Xj hi);have a6:q9z g.ae[i].Prog=some g.ae[i].Prog:=by
    unfold q9z;exact Ok.eq (Ok.guard (by simp;omega) (Ok.some (by simp)))
   rw[a6];refine Ok.bind (Ok.some ?_);refine Ok.guard (by rw[hc];simp;omega) ?_;rw[aq];refine hr (_,_) ⟨by rw[hk];simp,?_⟩;dsimp only;rw[hn,hc,show g.ae.length-(i+1)=g.ae.length-i-1 by omega];simp
  rw[Xc]at Z;rw[Z]at hn hk;refine hr (_,_) ⟨by rw[hk];simp,?_⟩;dsimp only;rw[hn,show g.ae.length-(i+1)=g.ae.length-i-1 by omega];simp
 obtain⟨a,b⟩:=p;obtain⟨rfl,rfl⟩:=I;unfold q96;dsimp only;rw[if_neg (by simp),Y9 (by omega),Y9 (by omega),Y8,List.replicate_zero,X3];unfold qg0;refine bK (l:=l) (by omega) (fun i (c:List aC)=>(i,c)) (fun p=>p.1) (fun _ _=>rfl) (fun i c=>c=(l.take i).map (q36 gone)) 0 (fun aj i hi c _ I ar=>?_) (fun aj c I=>?_) (by simp) (Xe _)
 . subst I;unfold q97;dsimp only;rw[if_pos (by simpa using hi)];refine Ok.bind (k3o hi ?_);have ak:=hE _ (Xj hi);refine Ok.bind (j4r hN hg ak.1 ?_);refine Ok.bind (j4r hN hg ak.2 ?_);refine Ok.guard (by simp;omega) ?_;rw[iw hi (by omega)];refine ar _ ?_;rw[qh4 hi,Ze];rfl
 subst I;unfold q97;dsimp only;rw[if_neg (by simp),Xf];exact Ok.some rfl
end
end FU
end
section
open Go Go.RowKit VA
namespace FU
open Classical
noncomputable def q5y(g:aa)(l:List aC)(gone:List Bool)(n:Nat):Bool:=!atB gone n&&(decide (¬Us g l n)&&!((nd g n).Kind==1))
noncomputable def idl(g:aa)(l:List aC)(gone:List Bool):List Bool:=(X7 g.ae.length).map fun (n:Nat)=>atB gone n||q5y g l gone n
noncomputable def z0r(g:aa)(l:List aC)(gone:List Bool):Bool:=(X7 g.ae.length).any (q5y g l gone)
def q1t(gone:List Bool)(e:aC):Bool:=!atB gone e.aL&&!atB gone e.To
noncomputable def qe2(g:aa)(l:List aC)(gone:List Bool):Bool:=decide ((chk (u6 g l gone)).1=0)
def src(l:List aC)(n:Nat):Option aC:=l.find? fun e=>e.To==(n:Int)
def cr(g:aa)(l:List aC)(n:Nat):Bool:=
 if (nd g n).Kind=13 then true else if (nd g n).Kind=3 then (nd g n).Arg==0 else if (nd g n).Kind=4 then (nd g n).Arg==1
 else if (nd g n).Kind=6\/(nd g n).Kind=8 then match src l n with
  |some e=>((ndI g e.aL).Kind==6||(ndI g e.aL).Kind==7||(ndI g e.aL).Kind==14)||((nd g n).Kind==8&&(ndI g e.aL).Kind==8)
  |none=>false
 else false
def q57(n:Nat)(own e:aC):aC:=if e.aL=n then⟨own.aL,e.To,e.Port,e.aS||own.aS⟩else e
def bz(l:List aC)(n:Nat)(own:aC):List aC:=(l.filter fun e=>!(e.To==(n:Int))).map (q57 n own)
def q33(l:List aC)(n:Nat):aC:=(src l n).getD ⟨0,0,0,false⟩
noncomputable def q7m(g:aa)(l:List aC)(gone:List Bool)(n:Nat):Bool:=!atB gone n&&(cr g l n&&qe2 g (bz l n (q33 l n)) (gone.set n true))
noncomputable def qy8(g:aa)(l:List aC)(gone:List Bool):Option (List aC×List Bool):=
 if (z0r g l gone&&qe2 g (l.filter (q1t (idl g l gone))) (idl g l gone))=true then some (l.filter (q1t (idl g l gone)),idl g l gone)
 else match (X7 g.ae.length).find? (q7m g l gone)with
  |some n=>some (bz l n (q33 l n),gone.set n true)
  |none=>none
theorem z6j:∀(xs:List aH) (a:List Bool),∀x∈q2l xs a,x∈xs
 |[],_,x,h=>by simp[q2l]at h
 |y::xs,true::a,x,h=>by simp only[q2l]at h;exact Zf _ (z6j xs a x h)
 |y::xs,false::a,x,h=>by
  simp only[q2l]at h;rcases Yk.1 h with rfl|h
  . exact Yf
  exact Zf _ (z6j xs a x h)
 |y::xs,[],x,h=>by simp[q2l]at h
theorem jg7{l:List aC}(p:aC->Bool):(∃i,∃h:i<l.length,qs9 p l=(i:Int)/\l.find? p=some l[i])\/qs9 p l=-1/\l.find? p=none:=by
 unfold qs9
 cases h:l.findIdx? p with
 |none=>
  right
  refine⟨rfl,Yv.2 fun x I=>?_⟩;have:=List.findIdx?_eq_none_iff.1 h x I;simp[this]
 |some i=>
  left
  obtain⟨hi,hp,G⟩:=List.findIdx?_eq_some_iff_getElem.1 h;refine⟨i,hi,rfl,?_⟩;rw[List.find?_eq_some_iff_getElem];exact⟨hp,i,hi,rfl,fun j T=>by simpa using G j T⟩
section
variable {g:aa} {l:List aC} {gone:List Bool} (hG:VA.Good g) (hpr:∀x∈g.ae,x.Prog.length<1000000) (hl:l.length<=64) (hE:InE g l) (hg:gone.length=g.ae.length)
include hG hpr hl hE hg
theorem bX:q3b ⟨⟨g.af,g.aG,g.ae,l⟩,gone⟩=some (qe2 g l gone):=by
 have hp:=hG.pl;have hb:=hG.bl;have G:=hG.nl;unfold q3b qe2;rw[j55 (w:=⟨⟨g.af,g.aG,g.ae,l⟩,gone⟩) (by omega) (by omega) hE hg (by omega) (by omega) hpr rfl];refine Ok.eq (Ok.bind (Ok.some ?_))
 show Ok (q9 (q8r (u6 g l gone)) _) _
 rw[zk1];refine Ok.bind (Ok.some (Ok.some ?_));rw[Yh];simp
omit hpr hE hl in
theorem z4k:(idl g l gone).length=g.ae.length:=by unfold idl;simp
omit hpr hE hl in
theorem j4z{i:Nat}(hi:i<g.ae.length):(idl g l gone)[i]'(by rw[z4k hG hg];exact hi)=(atB gone i||q5y g l gone i):=by simp[idl]
omit hpr hE hl in
theorem jg5{i:Nat}(hi:i<g.ae.length):(idl g l gone).take (i+1)++gone.drop (i+1)=((idl g l gone).take i++gone.drop i).set i (atB gone i||q5y g l gone i):=by
 have G:i<(idl g l gone).length:=by rw[z4k hG hg];exact hi
 rw[qh4 G,j4z hG hg hi];have I:((idl g l gone).take i).length=i:=by rw[Xd];omega
 rw[Yy _ _ (by omega),I,Y8,Xw (show i<gone.length by omega),List.set_cons_zero,X5];rfl
theorem j9r{G:Bool}{a2:List Bool}(a6:a2.length=g.ae.length){i0:Nat}(ao:i0<l.length)(aq:q1t a2 l[i0]=false)(ar:∀x∈l.take i0,q1t a2 x=true){w:az}(hw:w.g.af=g.af/\w.g.aG=g.aG/\w.g.ae=g.ae):
 Ok (d9 (q4x w G a2) rounds ((i0:Int),((i0+1:Nat):Int),l)) fun r=>r=if (G&&qe2 g (l.filter (q1t a2)) a2)=true then (true,⟨⟨g.af,g.aG,g.ae,l.filter (q1t a2)⟩,a2⟩)else (false,w):=by
 have b1:(l.take i0).filter (q1t a2)=l.take i0:=Y6.2 ar;refine bK (l:=l) (by omega) (fun j (p:Nat×List aC)=>((p.1:Int),j,p.2)) (fun p=>p.2.1) (fun _ _=>rfl) (fun j p=>p.1<j/\p.2.length=l.length/\p.2.take p.1=(l.take j).filter (q1t a2)/\p.2.drop j=l.drop j) (s0:=(i0,l)) (i0+1) (fun rec j hj p _ hI hr=>?_) (fun rec p hI=>?_) ⟨by dsimp only;omega,rfl,?_,rfl⟩ ao
 .
  obtain⟨i,a⟩:=p;obtain⟨I1,I2,Z,I4⟩:=hI;dsimp only at I1 I2 Z I4;have aj:j<a.length:=by omega
  have b2:a[j]=l[j]:=by
   have T:=Xw aj;have I:=Xw hj;rw[I4,I]at T;exact (List.cons.inj T).1.symm
  have ak:a.drop (j+1)=l.drop (j+1):=by rw[<-Zm,<-Zm,I4]
  unfold q4x;dsimp only;rw[if_pos (by simpa using aj)];refine Ok.bind (k3o aj ?_);rw[b2];have hm:=Xj hj;have W:=hE _ hm;have an:(l.take (j+1)).filter (q1t a2)=(l.take j).filter (q1t a2)++if q1t a2 l[j]=true then [l[j]]else []:=by rw[qh4 hj,Yg,Ye,Zd]
  rw[iw hj (by omega)];refine Ok.bind (z0h W.1.1 (by rw[a6];exact W.1.2) ?_);refine k3n (fun T=>hr (i,a) ⟨by dsimp only;omega,I2,by rw[an,if_neg (by unfold q1t;rw[T];simp),X3];exact Z,ak⟩) (fun T=>?_);refine Ok.bind (z0h W.2.1 (by rw[a6];exact W.2.2) ?_);refine k3n (fun I=>?_) (fun I=>?_)
  .
   rw[Xb]at I;refine Ok.bind (k3o (show i<a.length by omega) ?_);have b3:q1t a2 l[j]=true:=by unfold q1t;rw[T,I];rfl
   have b4:IntKind.i64.wrap ((i:Int)+1)=((i+1:Nat):Int):=iw (show i<a.length by omega) (by omega);rw[b4,Xg];refine hr (i+1,a.set i l[j]) ⟨by dsimp only;omega,by simpa using I2,?_,?_⟩
   . dsimp only;rw[an,if_pos b3,qh4 (show i<(a.set i l[j]).length by simp;omega),List.getElem_set_self,List.take_set_of_le (Yb i),Z]
   dsimp only;rw[List.drop_set_of_lt (by omega)];exact ak
  rw[Xc]at I;exact hr (i,a) ⟨by dsimp only;omega,I2,by rw[an,if_neg (by unfold q1t;rw[I];simp),X3];exact Z,ak⟩
 .
  obtain⟨i,a⟩:=p;obtain⟨I1,I2,Z,I4⟩:=hI;dsimp only at I1 I2 Z I4;rw[Xf]at Z;unfold q4x;dsimp only;rw[if_neg (by simp;omega)];refine Ok.guard (by omega) (Ok.guard (by simp;omega) (Ok.guard (by omega) ?_));rw[Xg];have ht:∀(b c:List aC),Wd i (Wd i a++b++c)=l.filter (q1t a2):=fun b c=>by
   rw[X5,Zi (by rw[Xd];omega),Yq,Nat.min_self,Z]
  rw[ht,hw.1,hw.2.1,hw.2.2];have b5:(l.filter (q1t a2)).length<=64:=Zg (Xt _ _) hl;refine k3n (fun T=>?_) (fun T=>Ok.some (by rw[T];rfl));rw[bX hG hpr b5 (fun e he=>hE e (Xs.1 he).1) a6];refine Ok.bind (Ok.some ?_);refine k3n (fun I=>Ok.some ?_) (fun I=>Ok.some ?_)
  . rw[Xb]at I;rw[T,I];rfl
  rw[Xc]at I;rw[T,I];rfl
 dsimp only;rw[qh4 ao,Yg,b1,Ye,Zd,if_neg (by simp[aq]),X3]
theorem jr7{w:az}(hw:w=⟨⟨g.af,g.aG,g.ae,l⟩,gone⟩):q95 w=some (if (z0r g l gone&&qe2 g (l.filter (q1t (idl g l gone))) (idl g l gone))=true then (true,⟨⟨g.af,g.aG,g.ae,l.filter (q1t (idl g l gone))⟩,idl g l gone⟩)else (false,w)):=by
 have hn:=hG.nl;unfold q95;have b1:q3w w.gone=some gone:=by
  rw[hw];unfold q3w;exact Ok.eq (Ok.guard (by simp;omega) (Ok.some (by simp)))
 rw[b1];refine Ok.eq (Ok.bind (Ok.some ?_));refine k3m (j7x (g:=g) (l:=l) (by omega) (by omega) hE (w:=w) (by rw[hw]) (by rw[hw])) ?_;intro u hu;refine bK (l:=u) (by omega) (fun i (p:Bool×List Bool)=>(p.1,i,p.2)) (fun p=>p.2.1) (fun _ _=>rfl) (fun i p=>p.1=((X7 i).any (q5y g l gone))/\p.2=(idl g l gone).take i++gone.drop i) (s0:=(false,gone)) 0 (fun rec i hi p _ hI hr=>?_) (fun rec p hI=>?_) ⟨by simp,by simp⟩ (Xe _)
 .
  obtain⟨so,a⟩:=p;obtain⟨I1,I2⟩:=hI;dsimp only at I1 I2;have ak:i<g.ae.length:=by omega
  have b6:a.length=g.ae.length:=by
   have:=z4k (l:=l) hG hg;rw[I2,Y7,Xd,Yz,this];omega
  unfold q9q;dsimp only;rw[if_pos (by simpa using hi),iw hi (by omega)];have ao:=hu.2 (i:Int) ⟨by omega,by omega⟩;refine Ok.bind (z0h (b:=u) (i:=(i:Int)) (by omega) (by omega) ?_);have aj:(X7 (i+1)).any (q5y g l gone)=(so||q5y g l gone i):=by rw[List.range_succ,List.any_append,I1];simp
  have aq:=jg5 (l:=l) hG hg ak;have an:atB gone (i:Int)=gone[i]'(by omega):=z4m (g:=g) (by omega) hg (by omega);have G:q5y g l gone i=false->Ok (rec (so,((i+1:Nat):Int),a)) (fun r=>r=if (z0r g l gone&&qe2 g (l.filter (q1t (idl g l gone))) (idl g l gone))=true then (true,⟨⟨g.af,g.aG,g.ae,l.filter (q1t (idl g l gone))⟩,idl g l gone⟩)else (false,w)):=fun h0=>by
   refine hr (so,a) ⟨by dsimp only;rw[aj,h0,Z8],?_⟩;dsimp only;rw[aq,h0,Z8,<-I2];have:a[i]'(by omega)=gone[i]'(by omega):=by
    have I:((idl g l gone).take i).length=i:=by rw[Xd,z4k hG hg];omega
    simp only[I2];rw[List.getElem_append_right (by omega)];simp[I]
   rw[an,<-this,List.set_getElem_self]
  refine k3n (fun I=>G (by unfold q5y;rw[decide_eq_false (not_not.2 (ao.1 I))];simp)) (fun I=>?_);have b2:¬Us g l i:=fun hh=>by rw[ao.2 hh]at I;cases I
  rw[show w.gone=gone by rw[hw],show w.g.ae=g.ae by rw[hw]];refine Ok.bind (k3o (l:=gone) (show i<gone.length by omega) ?_);refine k3n (fun T=>G (by unfold q5y;rw[an,T];rfl)) (fun T=>?_);refine Ok.bind (k3o (l:=g.ae) ak ?_);rw[q6g ak];refine k3n (fun h3=>?_) (fun h3=>G (by unfold q5y;rw[h3];simp));have hid:q5y g l gone i=true:=by unfold q5y;rw[an,T,decide_eq_true b2,h3];rfl
  refine Ok.bind (k3o (l:=a) (show i<a.length by omega) ?_);rw[Xg];refine hr (true,a.set i true) ⟨by dsimp only;rw[aj,hid,We],?_⟩;dsimp only;rw[aq,hid,We,<-I2]
 obtain⟨so,a⟩:=p;obtain⟨I1,I2⟩:=hI;dsimp only at I1 I2;have W:=z4k (l:=l) hG hg;rw[Y9 (by omega),Zz (by omega),X3]at I2;have b3:so=z0r g l gone:=by rw[I1];unfold z0r;rw[hu.1]
 subst I2;unfold q9q;dsimp only;rw[if_neg (by simp)];unfold q9p;have b4:q92 w.g.aw=some l:=by
  rw[hw];unfold q92;exact Ok.eq (Ok.guard (by simp;omega) (Ok.some (by simp)))
 rw[b4];refine Ok.bind (Ok.some ?_);rw[<-b3];have Z:w.g.af=g.af/\w.g.aG=g.aG/\w.g.ae=g.ae:=by rw[hw];exact⟨rfl,rfl,rfl⟩
 have b5:@qj7=@q4x:=rfl;refine k3s (l:=l) (by omega) (fun i=>∀x∈l.take i,q1t (idl g l gone) x=true) 0 (fun ar i hi _ hI hr=>?_) (fun ar hI=>?_) (by simp) (Xe _)
 .
  unfold q9r;rw[if_pos (by simpa using hi)];refine Ok.bind (k3o hi ?_);have a6:=hE _ (Xj hi);rw[iw hi (by omega)];refine Ok.bind (z0h a6.1.1 (by rw[W];exact a6.1.2) ?_);refine k3n (fun I=>?_) (fun I=>?_)
  . rw[if_neg (by simp),b5];exact j9r hG hpr hl hE hg W hi (by unfold q1t;rw[I];rfl) hI Z
  refine Ok.bind (z0h a6.2.1 (by rw[W];exact a6.2.2) ?_);refine k3n (fun T=>?_) (fun T=>?_)
  . rw[if_neg (by simp)];exact j9r hG hpr hl hE hg W hi (by unfold q1t;rw[T];simp) hI Z
  exact hr ((q7i hi).2 ⟨hI,by unfold q1t;rw[I,T];rfl⟩)
 unfold q9r;rw[if_neg (by simp)];rw[Xf]at hI;have hf:l.filter (q1t (idl g l gone))=l:=Y6.2 hI;rw[hf,Z.1,Z.2.1,Z.2.2];refine k3n (fun I=>?_) (fun I=>Ok.some (by rw[I];rfl));rw[bX hG hpr hl hE W];refine Ok.bind (Ok.some ?_);refine k3n (fun T=>Ok.some ?_) (fun T=>Ok.some ?_)
 . rw[Xb]at T;rw[I,T];rfl
 rw[Xc]at T;rw[I,T];rfl
end
end FU
end
section
open Go Go.RowKit VA
namespace FU
open Classical
theorem zc1(a b:List Bool):cf (a++b)=cf a+cf b:=by simp[cf]
theorem j09{gone:List Bool}{i j:Nat}(hi:i<gone.length)(G:i<j)(h:gone[i]=false):cf (gone.take i)<cf (gone.take j):=by
 have I:gone.take j=gone.take i++(gone.take j).drop i:=by
  have:(gone.take j).take i=gone.take i:=by rw[Yq,Yj (by omega)]
  rw[<-this,Xm]
 have T:i<(gone.take j).length:=by rw[Xd];omega
 rw[I,zc1,Xw T,q3k];have:(gone.take j)[i]=false:=by rw[Yl];exact h
 rw[this];simp;omega
def alive(gone:List Bool)(i:Int):Prop:=0<=i/\i<gone.length/\atB gone i=false
theorem alive.get{gone:List Bool}{i:Int}(h:alive gone i):∃k:Nat,∃I:k<gone.length,i=(k:Int)/\gone[k]=false:=by
 obtain⟨T,W,G⟩:=h;refine⟨i.toNat,by omega,by omega,?_⟩;unfold atB at G;rw[Xh,Xx (by omega)]at G;exact G
theorem z0b{gone:List Bool}{k:Nat}(G:k<gone.length)(h:gone[k]=false):now gone (k:Int)=(cf (gone.take k):Int):=by
 unfold now;rw[Xg];have I:gone=gone.take k++gone[k]::gone.drop (k+1):=by rw[<-Xw G,Xm]
 have T:bq gone 0=bq (gone.take k) 0++(cf (gone.take k):Int)::bq (gone.drop (k+1)) (cf (gone.take k)+1):=by
  conv=>lhs;rw[I]
  rw[z2k,h,bq,Wc]
 have W:(bq (gone.take k) 0).length=k:=by rw[z01,Xd];omega
 rw[T,Xh,Zn (by omega),W,Y8];rfl
theorem z4j{gone:List Bool}{i j:Int}(hi:alive gone i)(Z:alive gone j)(h:now gone i=now gone j):i=j:=by
 obtain⟨a,I,rfl,T⟩:=hi.get;obtain⟨b,hb,rfl,W⟩:=Z.get;rw[z0b I T,z0b hb W]at h;rcases Wi a b with G|rfl|G
 . have:=j09 I G T;omega
 . rfl
 have:=j09 hb G W;omega
theorem j95{xs:List aH}{gone:List Bool}(G:xs.length=gone.length){k:Nat}(I:k<gone.length)(h:gone[k]=false):(q2l xs gone)[cf (gone.take k)]?=some (xs[k]'(by omega)):=by
 have T:gone=gone.take k++gone[k]::gone.drop (k+1):=by rw[<-Xw I,Xm]
 have W:xs=xs.take k++xs[k]'(by omega)::xs.drop (k+1):=by rw[<-Xw (by omega),Xm]
 have Z:q2l xs gone=q2l (xs.take k) (gone.take k)++(xs[k]'(by omega))::q2l (xs.drop (k+1)) (gone.drop (k+1)):=by
  conv=>lhs;rw[T,W]
  rw[z0y _ _ _ _ (by rw[Xd,Xd,G]),h,q2l]
 have h4:(q2l (xs.take k) (gone.take k)).length=cf (gone.take k):=z2u _ _ (by rw[Xd,Xd,G]);rw[Z,Zn (by omega),h4,Y8];rfl
structure Inv(g:aa)(l:List aC)(gone:List Bool):Prop where
 G:VA.Good g
 pr:∀x∈g.ae,x.Prog.length<1000000
 ll:l.length<=64
 gl:gone.length=g.ae.length
 al:∀e∈l,alive gone e.aL/\alive gone e.To
 rt:VA.Good (u6 g l gone)
 kd:∀n:Nat,n<g.ae.length->atB gone n=true->(nd g n).Kind≠1/\(nd g n).Kind≠15
theorem Inv.inE{g:aa}{l:List aC}{gone:List Bool}(h:Inv g l gone):InE g l:=fun e T=>by
 obtain⟨G,I⟩:=h.al e T;have:=h.gl;exact⟨⟨G.1,by have:=G.2.1;omega⟩,⟨I.1,by have:=I.2.1;omega⟩⟩
theorem z8r{g:aa}{l:List aC}{gone:List Bool}:qe2 g l gone=true↔VA.Good (u6 g l gone):=by unfold qe2;rw[decide_eq_true_eq,z2e]
section
variable {g:aa} {l:List aC} {gone:List Bool} (I:Inv g l gone)
include I
theorem q3g{n:Nat}(hn:n<g.ae.length)(ha:atB gone n=false):cf (gone.take n)<(u6 g l gone).ae.length/\nd (u6 g l gone) (cf (gone.take n))=nd g n/\now gone (n:Int)=(cf (gone.take n):Int):=by
 have T:=I.gl;have Z:n<gone.length:=by omega
 have W:gone[n]=false:=by rw[<-z4m (g:=g) (by have:=I.G.nl;omega) T Z];exact ha
 have h1:=j95 (xs:=g.ae) T.symm Z W;have h2:nd (u6 g l gone) (cf (gone.take n))=nd g n:=by
  show (q2l g.ae gone).getD (cf (gone.take n)) ⟨0,0,0,[]⟩=nd g n
  rw[Xh,h1,<-q6g hn];rfl
 exact⟨(List.getElem?_eq_some_iff.1 h1).1,h2,z0b Z W⟩
theorem z8p{n:Nat}(hn:n<g.ae.length)(ha:atB gone n=false)(hp:1<=aY (nd g n).Kind):∃e,src l n=some e/\e∈l/\e.To=n:=by
 obtain⟨h1,h2,h3⟩:=q3g I hn ha;have hf:=I.rt.fu _ h1;rw[h2]at hf;have G:0<z9i (u6 g l gone) (cf (gone.take n)):=by omega
 obtain⟨e',T⟩:=List.exists_mem_of_length_pos G;have hm:=Xs.1 T;obtain⟨e,he,rfl⟩:=Ya.1 (show e'∈l.map (q36 gone)from hm.1);have ht:now gone e.To=(cf (gone.take n):Int):=by simpa [q36]using hm.2
 have W:e.To=n:=z4j (I.al e he).2 ⟨by omega,by have:=I.gl;omega,ha⟩ (ht.trans h3.symm)
 cases Z:src l n with
 |none=>
  have:=Yv.1 Z e he;simp[W]at this
 |some x=>
  have h4:=Zx Z;exact⟨x,rfl,Ym Z,by simpa using h4⟩
omit I in
theorem qm7{n:Nat}(h:cr g l n=true):aY (nd g n).Kind=1/\(nd g n).Kind≠12/\(nd g n).Kind≠1/\(nd g n).Kind≠15:=by
 unfold cr at h;have:(nd g n).Kind=13\/(nd g n).Kind=3\/(nd g n).Kind=4\/(nd g n).Kind=6\/(nd g n).Kind=8:=by
  split at h
  . omega
  split at h
  . omega
  split at h
  . omega
  split at h
  . omega
  cases h
 rcases this with h|h|h|h|h<;>rw[h]<;>decide
theorem j19{n:Nat}(T:n<g.ae.length)(W:atB gone n=false)(G:cr g l n=true):q33 l n∈l/\(q33 l n).To=n/\(q33 l n).aL≠n:=by
 obtain⟨e,h1,Z,h3⟩:=z8p I T W (by rw[(qm7 G).1];omega);have ho:q33 l n=e:=by unfold q33;rw[h1];rfl
 rw[ho];refine⟨Z,h3,fun hf=>?_⟩;have hm:q36 gone e∈(u6 g l gone).aw:=Ya.2 ⟨e,Z,rfl⟩;have hk:=(I.rt.ed.at hm).2.2.2.2.2.1 (by simp only[q36,hf,h3];omega);obtain⟨k1,k2,k3⟩:=q3g I T W;have:ndI (u6 g l gone) (q36 gone e).aL=nd g n:=by
  unfold ndI;simp only[q36,hf];rw[k3,Xg,k2]
 rw[this]at hk;exact (qm7 G).2.1 hk
omit I in
theorem zr3{n:Nat}(T:n<gone.length){j:Int}(G:0<=j):atB (gone.set n true) j=if j=n then true else atB gone j:=by
 have:=z8i (l:=gone) (i:=(n:Int)) (j:=j) (by omega) (by omega) G
 simpa using this
theorem Inv.leave{n:Nat}(hn:n<g.ae.length)(h:q7m g l gone n=true):Inv g (bz l n (q33 l n)) (gone.set n true)/\cf (gone.set n true)<cf gone:=by
 unfold q7m at h;simp only[Xi,Xb]at h;obtain⟨ha,a6,hr⟩:=h;obtain⟨o1,o2,o3⟩:=j19 I hn ha a6;have aj:=I.gl;have W:n<gone.length:=by omega
 have an:=qm7 a6;refine⟨⟨I.G,I.pr,?_,by simpa using aj,fun e he=>?_,z8r.1 hr,fun m hm h=>?_⟩,?_⟩
 . unfold bz;rw[Zw];exact Zg (Xt _ _) I.ll
 .
  obtain⟨x,hx,rfl⟩:=Ya.1 he;obtain⟨ao,aq⟩:=Xs.1 hx;have Z:x.To≠n:=by simpa using aq
  obtain⟨a1,a2⟩:=I.al x ao;obtain⟨b1,_⟩:=I.al _ o1;have T:∀j,alive gone j->j≠n->alive (gone.set n true) j:=fun j hj ar=>⟨hj.1,by rw[List.length_set];exact hj.2.1,by rw[zr3 W hj.1,if_neg ar];exact hj.2.2⟩;unfold q57
  split
  . exact⟨T _ b1 o3,T _ a2 Z⟩
  rename_i hf;exact⟨T _ a1 hf,T _ a2 Z⟩
 .
  rw[zr3 W (by omega)]at h
  split at h
  .
   rename_i b2
   have:m=n:=by omega
   subst this;exact an.2.2
  exact I.kd m hm h
 have ak:gone[n]?=some false:=by
  rw[Xx W,<-z4m (g:=g) (by have:=I.G.nl;omega) aj W,ha]
 have:=zp8 ak;omega
theorem Inv.idle(hs:z0r g l gone=true)(hr:qe2 g (l.filter (q1t (idl g l gone))) (idl g l gone)=true):Inv g (l.filter (q1t (idl g l gone))) (idl g l gone)/\cf (idl g l gone)<cf gone:=by
 have T:=I.gl;have W:=z4k (l:=l) I.G T;have Z:∀i:Nat,i<g.ae.length->atB (idl g l gone) i=(atB gone i||q5y g l gone i):=fun i hi=>by
  rw[z4m (g:=g) (by have:=I.G.nl;omega) W (by omega),j4z I.G T hi]
 have a6:Sub gone (idl g l gone):=⟨by omega,fun i hi h=>by
  by_cases hb:i<g.ae.length
  . have:=Z i.toNat (by omega);rw[Ys hi]at this;rw[this,h];rfl
  unfold atB at h;rw[Xh,Z4 (by omega)]at h
  cases h⟩
 refine⟨⟨I.G,I.pr,Zg (Xt _ _) I.ll,W,fun e he=>?_,z8r.1 hr,fun m hm h=>?_⟩,?_⟩
 . obtain⟨aj,hk⟩:=Xs.1 he;obtain⟨a1,a2⟩:=I.al e aj;unfold q1t at hk;simp only[Xi,Xb]at hk;exact⟨⟨a1.1,by rw[W,<-T];exact a1.2.1,hk.1⟩,⟨a2.1,by rw[W,<-T];exact a2.2.1,hk.2⟩⟩
 .
  rw[Z m hm,Xu]at h;rcases h with h|h
  . exact I.kd m hm h
  unfold q5y at h;simp only[Xi,decide_eq_true_eq,Xb,beq_eq_false_iff_ne,ne_eq]at h;refine⟨h.2.2,fun ak=>h.2.1 (.sink m ⟨by omega,by omega⟩ ?_)⟩;unfold ndI;rw[Xg];exact ak
 obtain⟨g1,g2⟩:=a6.cf;refine Nat.lt_of_le_of_ne g1 fun he=>?_;have hh:=g2 he;obtain⟨n,hn,hi⟩:=Za.1 hs;have an:=Yp.1 hn;have h1:=Z n an;rw[<-hh,hi,We]at h1;unfold q5y at hi;rw[h1]at hi;cases hi
theorem Inv.step{l':List aC}{gone':List Bool}(h:qy8 g l gone=some (l',gone')):Inv g l' gone'/\cf gone'<cf gone:=by
 unfold qy8 at h
 split at h
 .
  rename_i G
  rw[Xi]at G;simp only[Yw,Prod.mk.injEq]at h;obtain⟨rfl,rfl⟩:=h;exact I.idle G.1 G.2
 split at h
 .
  rename_i n T
  simp only[Yw,Prod.mk.injEq]at h;obtain⟨rfl,rfl⟩:=h;exact I.leave (Yp.1 (Ym T)) (Zx T)
 cases h
end
noncomputable def qb4(g:aa):Nat->List aC->List Bool->List aC×List Bool
 |0,l,gone=>(l,gone)
 |k+1,l,gone=>match qy8 g l gone with
  |none=>(l,gone)
  |some (l',gone')=>qb4 g k l' gone'
theorem za1{g:aa}:∀(k:Nat) {l:List aC} {gone:List Bool},Inv g l gone->cf gone<=k->∀j,cf gone<=j->qb4 g k l gone=qb4 g j l gone
 |0,l,gone,I,T,j,W=>by
  cases j with
  |zero=>rfl
  |succ j=>
   rw[qb4,qb4]
   cases G:qy8 g l gone with
   |none=>rfl
   |some p=>have:=(I.step (l':=p.1) (gone':=p.2) G).2;omega
 |k+1,l,gone,I,T,j,W=>by
  rw[qb4]
  cases G:qy8 g l gone with
  |none=>
   cases j with
   |zero=>rfl
   |succ j=>rw[qb4,G]
  |some p=>
   obtain⟨Z,a6⟩:=I.step (l':=p.1) (gone':=p.2) G
   cases j with
   |zero=>omega
   |succ j=>
    rw[qb4,G];exact za1 k Z (by omega) j (by omega)
end FU
end
section
open Go Go.RowKit VA
namespace FU
open Classical
theorem je0{p:Nat->Bool}{N i:Nat}(h:∀j<i,p j=false)(hi:i<N)(hp:p i=true):(X7 N).find? p=some i:=by
 rw[Zs];exact⟨hp,Yp.2 hi,fun j G=>by simp[h j G]⟩
theorem j8g{p:Nat->Bool}{N:Nat}(h:∀j<N,p j=false):(X7 N).find? p=none:=by
 rw[Yv];intro x G;simp[h x (Yp.1 G)]
theorem jo9(l:List aC)(n:Nat):(∃i,∃h:i<l.length,qs9 (fun e:aC=>e.To==(n:Int)) l=(i:Int)/\src l n=some l[i])\/qs9 (fun e:aC=>e.To==(n:Int)) l=-1/\src l n=none:=jg7 _
theorem jj4{s:List aC}{f:aC->Option Bool}{p:aC->Bool}(G:s.length<9223372036854775808)(I:∀x∈s,f x=some (p x)):q6h s f=some (qs9 p s):=z9p G I
section
variable {g:aa} {l:List aC} {gone:List Bool} (I:Inv g l gone)
include I
theorem zv1{w:az}(Z:w.g.aw=l)(n:Nat):q7r w n=some (q33 l n,(src l n).isSome):=by
 have hl:=I.ll;unfold q7r;rw[Z,jj4 (f:=fun G=>q89 G (n:Int)) (p:=fun e=>e.To==(n:Int)) (by omega) (fun x _=>rfl)];refine Ok.eq (Ok.bind (Ok.some ?_));unfold q33;rcases jo9 l n with⟨i,hi,T,W⟩|⟨T,W⟩
 . rw[T,W,if_neg (by simp)];exact Ok.bind (k3o hi (Ok.some rfl))
 rw[T,W,if_pos (by decide)];exact Ok.some rfl
theorem j69{w:az}(T:w.g.ae=g.ae)(hw:w.g.aw=l){n:Nat}(hn:n<g.ae.length):q94 w n=some (cr g l n):=by
 have hJ:Ok (q4w w n (nd g n) true) (fun r=>r=match src l n with
  |some e=>((ndI g e.aL).Kind==6||(ndI g e.aL).Kind==7||(ndI g e.aL).Kind==14)||((nd g n).Kind==8&&(ndI g e.aL).Kind==8)
  |none=>false):=by
  unfold q4w;rw[if_pos rfl,zv1 I hw,T];refine Ok.bind (Ok.some ?_);have a6:inG g (q33 l n).aL:=by
   unfold q33
   cases hs:src l n with
   |none=>have:=I.G.nl;exact⟨by simp,by simp;omega⟩
   |some e=>exact (I.inE e (Ym hs)).1
  rw[z2v a6];refine Ok.bind (Ok.some ?_);unfold q33
  cases hs:src l n with
  |none=>exact Ok.some rfl
  |some e=>exact Ok.bind (Ok.some (Ok.some rfl))
 unfold q94;rw[T];refine Ok.eq (Ok.bind (k3o hn ?_));rw[q6g hn];unfold cr
 by_cases W:(nd g n).Kind=13
 . rw[if_pos W];rw[if_pos (by simpa using W)];exact Ok.some rfl
 rw[if_neg W,if_neg (by simpa using W)]
 by_cases Z:(nd g n).Kind=3
 . rw[if_pos Z,if_pos (by simpa using Z)];exact Ok.some rfl
 rw[if_neg Z,if_neg (by simpa using Z)]
 by_cases h3:(nd g n).Kind=4
 . rw[if_pos h3,if_pos (by simpa using h3)];exact Ok.some rfl
 rw[if_neg h3,if_neg (by simpa using h3)]
 by_cases h4:(nd g n).Kind=6
 . rw[if_pos (show (nd g n).Kind=6\/(nd g n).Kind=8 from .inl h4),if_pos (show ((nd g n).Kind==6)=true from beq_iff_eq.2 h4),beq_iff_eq.2 h4];exact hJ
 rw[if_neg (by simpa using h4)]
 by_cases h5:(nd g n).Kind=8
 . rw[if_pos (show (nd g n).Kind=6\/(nd g n).Kind=8 from .inr h5),beq_iff_eq.2 h5];have:((nd g n).Kind==8)=true:=beq_iff_eq.2 h5;rw[this]at hJ;exact hJ
 rw[if_neg (by omega),beq_eq_false_iff_ne.2 h5];exact Ok.some rfl
omit I in
theorem j7m{n:Nat}{own:aC}{i:Nat}(hi:i<l.length):bz (l.take (i+1)) n own=bz (l.take i) n own++if (l[i].To==(n:Int))=true then []else [q57 n own l[i]]:=by
 unfold bz;rw[qh4 hi,Yg,Ze,Ye,Zd]
 cases l[i].To==(n:Int)<;>simp
omit I in
theorem j0f(l:List aC)(n:Nat)(own:aC):(bz l n own).length<=l.length:=by
 unfold bz;rw[Zw];exact Xt _ _
theorem j5g{n:Nat}(hn:n<g.ae.length):q93 ⟨⟨g.af,g.aG,g.ae,l⟩,gone⟩ n=some ⟨⟨g.af,g.aG,g.ae,bz l n (q33 l n)⟩,gone.set n true⟩:=by
 have hl:=I.ll;have aj:=I.gl;have ak:=I.G.nl;unfold q93;rw[zv1 I rfl];have W:q3w gone=some gone:=by
  unfold q3w;exact Ok.eq (Ok.guard (by simp;omega) (Ok.some (by simp)))
 refine Ok.eq (Ok.bind (Ok.some ?_));dsimp only;rw[W];refine Ok.bind (Ok.some ?_);refine bK (l:=l) (by omega) (fun i (c:List aC)=>(i,c)) (fun p=>p.1) (fun _ _=>rfl) (fun i c=>c=bz (l.take i) n (q33 l n)) 0 (fun rec i hi c _ Z hr=>?_) (fun rec c Z=>?_) (by simp[bz]) (Xe _)
 .
  subst Z;have a6:=j0f (l.take i) n (q33 l n);rw[Xd]at a6;unfold q79;dsimp only;rw[if_pos (by simpa using hi)];refine Ok.bind (k3o hi ?_);have T:=j7m (n:=n) (own:=q33 l n) hi;refine k3n (fun h1=>?_) (fun h1=>?_)
  . rw[iw hi (by omega)];exact hr _ (by rw[T,if_pos h1,X3])
  rw[if_neg (by simp[h1])]at T;have hJ:∀e,e=q57 n (q33 l n) l[i]->Ok (q4v (i:Int) (bz (l.take i) n (q33 l n)) rec e) _:=fun e he=>by
   subst he;unfold q4v;refine Ok.guard (by simp;omega) ?_;rw[iw hi (by omega)];exact hr _ T.symm
  refine k3n (fun h2=>hJ _ ?_) (fun h2=>hJ _ ?_)
  . unfold q57;rw[if_pos (by simpa using h2)]
  unfold q57;rw[if_neg (by simpa using h2)]
 subst Z;unfold q79;dsimp only;rw[if_neg (by simp),Xf];exact Ok.bind (k3o (l:=gone) (show n<gone.length by omega) (Ok.some (by rw[Xg])))
theorem jn0{n:Nat}(hn:n<g.ae.length):InE g (bz l n (q33 l n)):=fun e Z=>by
 obtain⟨x,hx,rfl⟩:=Ya.1 Z;have T:=I.inE x (Xs.1 hx).1;have W:inG g (q33 l n).aL:=by
  unfold q33
  cases hs:src l n with
  |none=>have:=I.G.nl;exact⟨by simp,by simp;omega⟩
  |some e=>exact (I.inE e (Ym hs)).1
 unfold q57
 split
 . exact⟨W,T.2⟩
 exact T
theorem jf8:q8a ⟨⟨g.af,g.aG,g.ae,l⟩,gone⟩=some (match (X7 g.ae.length).find? (q7m g l gone)with
 |some n=>(true,⟨⟨g.af,g.aG,g.ae,bz l n (q33 l n)⟩,gone.set n true⟩)
 |none=>(false,⟨⟨g.af,g.aG,g.ae,l⟩,gone⟩)):=by
 have hl:=I.ll;have Z:=I.gl;have a6:=I.G.nl;unfold q8a;refine Ok.eq (k3s (l:=g.ae) (by omega) (fun i=>∀j<i,q7m g l gone j=false) 0 (fun rec i hi _ hI hr=>?_) (fun rec hI=>?_) (by intro j hj;omega) (Xe _))
 .
  have hc:q7m g l gone i=(!atB gone i&&(cr g l i&&qe2 g (bz l i (q33 l i)) (gone.set i true))):=rfl;have T:q7m g l gone i=false->Ok (rec (IntKind.i64.wrap ((i:Int)+1))) _:=fun h0=>by
   rw[iw hi (by omega)];refine hr fun j hj=>?_;rcases X0 (X6.1 hj)with W|rfl
   . exact hI j W
   exact h0
  unfold q8x;dsimp only;rw[if_pos (by simpa using hi)];refine Ok.bind (k3o (show i<gone.length by omega) ?_);rw[<-z4m (g:=g) (by omega) Z];refine k3n (fun h1=>T (by rw[hc,h1];rfl)) (fun h1=>?_);rw[j69 I rfl rfl hi];refine Ok.bind (Ok.some ?_);refine k3n (fun W=>T (by rw[Xb]at W;rw[hc,W];simp)) (fun W=>?_);rw[Xc]at W;rw[j5g I hi];refine Ok.bind (Ok.some ?_);rw[bX I.G I.pr (Zg (j0f _ _ _) hl) (jn0 I hi) (by simpa using Z)];refine Ok.bind (Ok.some ?_);refine k3n (fun h3=>Ok.some ?_) (fun h3=>T (by rw[hc,h3];simp));rw[je0 hI hi (by rw[hc,h1,W,h3];rfl)]
 unfold q8x;dsimp only;rw[if_neg (by simp)];refine Ok.some ?_;rw[j8g hI]
end
noncomputable def fin(g:aa):List aC×List Bool:=qb4 g g.ae.length g.aw (Xp g.ae.length false)
theorem j9t(n:Nat):cf (Xp n false)=n:=by simp[cf]
theorem zn7:∀(xs:List aH),q2l xs (Xp xs.length false)=xs
 |[]=>rfl
 |x::xs=>by rw[X9,Wb,q2l,zn7 xs]
theorem z8y{n:Nat}{i:Int}(G:0<=i)(I:i<n):now (Xp n false) i=i:=by
 have:=z0b (gone:=Xp n false) (k:=i.toNat) (by simp;omega) (by simp);rw[Ys G]at this;rw[this,Zk,j9t,Yj (by omega)];omega
theorem zp9{g:aa}(T:InE g g.aw):u6 g g.aw (Xp g.ae.length false)=g:=by
 unfold u6;rw[zn7];have:g.aw.map (q36 (Xp g.ae.length false))=g.aw:=by
  conv=>rhs;rw[<-List.map_id g.aw]
  refine List.map_congr_left fun e W=>?_;obtain⟨G,I⟩:=T e W;unfold q36;rw[z8y G.1 G.2,z8y I.1 I.2];rfl
 rw[this]
theorem Inv.start{g:aa}(G:VA.Good g)(T:∀x∈g.ae,x.Prog.length<1000000):Inv g g.aw (Xp g.ae.length false):=by
 have W:InE g g.aw:=fun e I=>⟨(G.ed.at I).1,(G.ed.at I).2.1⟩;refine⟨G,T,G.el,by simp,fun e I=>?_,by rw[zp9 W];exact G,fun n _ h=>by rw[qe0]at h;cases h⟩;obtain⟨Z,h2⟩:=W e I;exact⟨⟨Z.1,by simpa using Z.2,qe0 _ _⟩,⟨h2.1,by simpa using h2.2,qe0 _ _⟩⟩
theorem k1f(b:List Bool):cf b<=b.length:=Xt _ _
theorem cO{g:aa}(W:VA.Good g)(Z:∀x∈g.ae,x.Prog.length<1000000):qq7 g=some (built g (fin g).1 (fin g).2,0):=by
 have hn:=W.nl;unfold qq7;rw[zk1,z2e.2 W |> fun h=>show some (chk g)=some (chk g)from rfl];refine Ok.eq (Ok.bind (Ok.some ?_));rw[z2e.2 W,if_neg (by simp)];refine Ok.guard (by omega) ?_;have I0:=Inv.start W Z;refine k3p (fun p:List Int×List Int×List aH×List aC×List Bool=>p.1=g.af/\p.2.1=g.aG/\p.2.2.1=g.ae/\Inv g p.2.2.2.1 p.2.2.2.2/\qb4 g g.ae.length p.2.2.2.1 p.2.2.2.2=fin g) (fun p=>cf p.2.2.2.2) ?_ ⟨rfl,rfl,rfl,I0,rfl⟩ (by
  dsimp only;rw[j9t];simp only[rounds];omega)
 rintro rec ⟨P,B,N,l,gone⟩ ⟨e1,e2,e3,I,hR⟩ hr;dsimp only at e1 e2 e3 I hR hr;subst e1 e2 e3;have aj:cf gone<=g.ae.length:=by have:=k1f gone;have:=I.gl;omega
 unfold z1x;dsimp only;rw[jr7 I.G I.pr I.ll I.inE I.gl rfl];refine Ok.bind (Ok.some ?_);have T:∀l' gone',qy8 g l gone=some (l',gone')->Ok (rec (g.af,g.aG,g.ae,l',gone')) (fun r=>r=(built g (fin g).1 (fin g).2,0)):=fun l' gone' hs=>by
  obtain⟨I',ak⟩:=I.step hs;refine hr _ ⟨rfl,rfl,rfl,I',?_⟩ ak;rw[<-hR];dsimp only;have h1:qb4 g (cf gone) l gone=qb4 g g.ae.length l gone:=za1 _ I (Yb _) _ aj;rw[<-h1];obtain⟨k,hk⟩:∃k,cf gone=k+1:=⟨cf gone-1,by omega⟩;rw[hk,qb4,hs];dsimp only;exact za1 _ I' (by omega) _ (by omega)
 by_cases hc:(z0r g l gone&&qe2 g (l.filter (q1t (idl g l gone))) (idl g l gone))=true
 . rw[if_pos hc];dsimp only;rw[if_pos rfl];exact T _ _ (by unfold qy8;rw[if_pos hc])
 rw[if_neg hc];dsimp only;rw[if_neg (by simp),jf8 I];refine Ok.bind (Ok.some ?_)
 cases hf:(X7 g.ae.length).find? (q7m g l gone)with
 |some n=>
  dsimp only;rw[if_pos rfl];exact T _ _ (by unfold qy8;rw[if_neg hc,hf])
 |none=>
  dsimp only;rw[if_neg (by simp)];have hs:qy8 g l gone=none:=by unfold qy8;rw[if_neg hc,hf]
  have a6:fin g=(l,gone):=by
   rw[<-hR];have:0<g.ae.length:=by omega
   obtain⟨k,hk⟩:∃k,g.ae.length=k+1:=⟨g.ae.length-1,by omega⟩;rw[hk,qb4,hs]
  unfold qw6;have an:=W.bl;have ao:=W.pl;rw[j55 (l:=l) (gone:=gone) (w:=⟨⟨g.af,g.aG,g.ae,l⟩,gone⟩) (by omega) (by have:=I.ll;omega) I.inE I.gl (by omega) (by omega) Z rfl,a6];exact Ok.bind (Ok.some (Ok.some rfl))
end FU
end
section
open Go Go.RowKit VA
namespace FU
theorem cQ:qb1=some true:=by kernel_rfl
theorem cT(g:aa):Ok (q7t g) fun r=>r=true->(g.af.length<=20/\g.aG.length<=20/\g.ae.length<=60/\g.aw.length<=100)/\∀x∈g.ae,x.Prog.length<=100:=by
 unfold q7t;refine k3n (fun _=>Ok.some fun h=>by cases h) (fun I=>?_);simp only[Xr,decide_eq_false_iff_not]at I;refine k3s (l:=g.ae) (by omega) (fun i=>∀x∈g.ae.take i,x.Prog.length<=100) 0 (fun rec i hi _ G T=>?_) (fun rec G=>?_) (by simp) (Xe _)
 . unfold q8m;rw[if_pos (by simpa using hi)];refine Ok.bind (k3o hi ?_);refine k3n (fun _=>Ok.some fun h=>by cases h) (fun W=>?_);rw[iw hi (by omega)];exact T ((q7i hi).2 ⟨G,by simp at W;omega⟩)
 unfold q8m;rw[if_neg (by simp)];rw[Xf]at G;exact Ok.some fun _=>⟨by omega,G⟩
end FU
end
section
open Go Go.RowKit
namespace BG
def zc0(a b:Int):Int:=if a<b then -1 else if b<a then 1 else 0
theorem k1e(a b:Int):q73 a b=some (zc0 a b):=by
 simp only[q73,qb8,q9,Xo,beq_self_eq_true,Z7,Xz,if_false,decide_eq_true_eq,zc0]
 split<;>(try rfl)
 split<;>rfl
theorem or2(a b:Int):qu1 [a,b]=some (if a=0 then b else a):=by
 refine Ok.eq ?_;unfold qu1;refine k3s (l:=[a,b]) (by simp) (fun i=>∀x∈[a,b].take i,x=0) 0 (fun rec i hi _ I T=>?_) (fun rec I=>?_) (by simp) (Xe _)
 .
  unfold qr3;refine k3n (fun _=>Ok.bind (k3o hi (k3n (fun G=>Ok.some ?_) (fun G=>?_)))) (fun G=>by simp only[decide_eq_false_iff_not]at G;omega)
  .
   simp only[Xb,beq_eq_false_iff_ne,ne_eq]at G
   match i,hi with
   |0,_=>simp only[Z0]at G⊢;rw[if_neg G]
   |1,_=>
    have:=I a (by simp);simp only[List.getElem_cons_succ,Z0];rw[if_pos this]
  simp only[Xc,beq_iff_eq]at G;rw[wrap_i64 ((i:Int)+1) (by simp at hi;omega)];exact T ((q7i hi).2 ⟨I,G⟩)
 unfold qr3;refine k3n (fun G=>by simp only[decide_eq_true_eq]at G;omega) (fun _=>Ok.some ?_);have W:=I a (by simp);have Z:=I b (by simp);rw[W,Z];rfl
def lt(x y:aP):Prop:=x.K<y.K\/x.K=y.K/\x.V<y.V
instance (x y:aP):Decidable (lt x y):=by unfold lt;infer_instance
instance:DecidableEq aP:=fun a b=>
 if h:a.K=b.K/\a.V=b.V then isTrue (by cases a;cases b;simp only at h;rw[h.1,h.2])else isFalse (fun e=>h (by rw[e];exact⟨rfl,rfl⟩))
def ord(x y:aP):Int:=if zc0 x.K y.K=0 then zc0 x.V y.V else zc0 x.K y.K
theorem j1c(x y:aP):qq8 x y=some (ord x y):=by
 simp only[qq8,k1e,or2,q9,Xo,ord]
theorem zr9(x y:aP):ord x y<0↔lt x y:=by
 unfold ord zc0 lt
 split<;>split at*<;>(try split at*)<;>(try split)<;>(try split)<;>omega
theorem j0y{x y:aP}(G:x.K=y.K)(I:x.V=y.V):x=y:=by
 cases x;cases y;simp only at G I;rw[G,I]
theorem je5(x y:aP):ord x y=0↔x=y:=by
 constructor
 . intro h;unfold ord zc0 at h;apply j0y<;>(split at h<;>split at*<;>(try split at*)<;>(try split at*)<;>omega)
 rintro rfl;simp[ord,zc0]
theorem jr2(x y:aP):z1a x y=some (decide (lt x y)):=by
 simp only[z1a,j1c,q9,Xo,zr9]
theorem z2t(x:aP):¬lt x x:=by unfold lt;omega
theorem zn4{x y z:aP}(G:lt x y)(I:lt y z):lt x z:=by unfold lt at*;omega
theorem jz0(x y:aP):lt x y\/x=y\/lt y x:=by
 by_cases G:lt x y
 . exact .inl G
 by_cases I:lt y x
 . exact .inr (.inr I)
 unfold lt at G I;exact .inr (.inl (j0y (by omega) (by omega)))
def cnt:List a8->aP->Int
 |[],_=>0
 |x::b,r=>(if x.Rec=r then x.N else 0)+cnt b r
def tot(b:List a8):Int:=(b.map (·.N)).sum
def big:List a8->Int
 |[]=>0
 |x::b=>(x.N.natAbs:Int)+big b
theorem z4a(a b:List a8)(r:aP):cnt (a++b) r=cnt a r+cnt b r:=by
 induction a with
 |nil=>simp[cnt]
 |cons x a G=>simp only[Yr,cnt,G];omega
theorem q6d(a b:List a8):tot (a++b)=tot a+tot b:=by simp[tot]
theorem qo1(a b:List a8):big (a++b)=big a+big b:=by
 induction a with
 |nil=>simp[big]
 |cons x a G=>simp only[Yr,big,G];omega
theorem z4b:∀b:List a8,0<=big b
 |[]=>by simp[big]
 |x::b=>by have:=z4b b;simp only[big];omega
theorem zp7:∀(b:List a8) (r:aP),-big b<=cnt b r/\cnt b r<=big b
 |[],_=>by simp[cnt,big]
 |x::b,r=>by
  have:=zp7 b r;simp only[cnt,big]
  split<;>omega
theorem z2d{b:List a8}{r:aP}(h:∀x∈b,x.Rec≠r):cnt b r=0:=by
 induction b with
 |nil=>rfl
 |cons x b G=>
  simp only[cnt];rw[if_neg (h x (by simp)),G fun y I=>h y (by simp[I])];rfl
theorem z9h{b:List a8}{r:aP}(h:cnt b r≠0):∃x∈b,x.Rec=r:=by
 refine Decidable.byContradiction fun G=>h (z2d fun x I e=>G ⟨x,I,e⟩)
structure Rt(b:List a8):Prop where
 inc:b.Pairwise (fun p q=>lt p.Rec q.Rec)
 num:∀x∈b,x.N≠0/\-2147483648<=x.N/\x.N<=2147483648
theorem Rt.nil:Rt []:=⟨List.Pairwise.nil,by simp⟩
theorem qy7{b:List a8}(h:b.Pairwise (fun p q=>lt p.Rec q.Rec)){x:a8}(G:x∈b):cnt b x.Rec=x.N:=by
 induction b with
 |nil=>cases G
 |cons y b I=>
  rw[Yu]at h;simp only[cnt];rcases Yk.1 G with rfl|G
  . rw[if_pos rfl,z2d fun z T e=>z2t z.Rec (by have:=h.1 z T;rwa [<-e]at this)];omega
  rw[if_neg (fun e=>z2t x.Rec (by have:=h.1 x G;rwa [e]at this)),I h.2 G];omega
theorem j4w{x y:a8}(G:x.Rec=y.Rec)(I:x.N=y.N):x=y:=by
 cases x;cases y;simp only at G I;rw[G,I]
theorem Rt.sub{a b:List a8}(G:Rt a)(hb:Rt b)(h:∀r,cnt a r=cnt b r):∀x∈a,x∈b:=by
 intro x I;have T:=qy7 G.inc I;have h2:=(G.num x I).1;obtain⟨y,W,e⟩:=z9h (b:=b) (r:=x.Rec) (by rw[<-h,T];exact h2);have Z:=qy7 hb.inc W;rw[e,<-h,T]at Z;rw[j4w e.symm Z];exact W
theorem Rt.unique{a b:List a8}(I:Rt a)(hb:Rt b)(h:∀r,cnt a r=cnt b r):a=b:=by
 have nd:∀{l:List a8},l.Pairwise (fun p q=>lt p.Rec q.Rec)->l.Nodup:=fun h=>h.imp (fun {p q} (G:lt p.Rec q.Rec) (e:p=q)=>z2t q.Rec (by rw[e]at G;exact G));have p:a.Perm b:=(List.perm_ext_iff_of_nodup (nd I.inc) (nd hb.inc)).2 fun r=>⟨I.sub hb h r,hb.sub I (fun r=>(h r).symm) r⟩;exact List.Perm.eq_of_pairwise (le:=fun (p q:a8)=>lt p.Rec q.Rec) (fun x y _ _ T W=>absurd (zn4 T W) (z2t _)) I.inc hb.inc p
theorem j1j(n:Int):qu2 n=some (decide (-2147483648<=n/\n<=2147483648)):=by
 simp only[qu2];congr 1;simp
theorem j31{b:List a8}(W:b.length<1000000000):Ok (q9s b) (fun r=>r=true↔Rt b):=by
 unfold q9s;refine k3s (l:=b) (by omega) (fun i=>Rt (b.take i)) 0 (fun rec i hi _ hI hr=>?_) (fun rec hI=>?_) (by simpa using Rt.nil) (Xe _)
 .
  unfold qw9;have a6:Rt b->Rt (b.take (i+1)):=fun h=>⟨h.inc.sublist (List.take_sublist _ _),fun x G=>h.num x (X4 G)⟩;have I:b[i]∈b:=Xj hi;refine k3n (fun _=>Ok.bind (k3o hi ?_)) (fun G=>by simp only[decide_eq_false_iff_not]at G;omega);have T:b[i].N≠0->(-2147483648<=b[i].N/\b[i].N<=2147483648)->(∀x∈b.take i,lt x.Rec b[i].Rec)->Rt (b.take (i+1)):=fun h1 h2 h3=>by
   rw[Xa hi];refine⟨Yn.2 ⟨hI.inc,by simp,fun x G y hy=>?_⟩,fun x G=>?_⟩
   . rw[Xk]at hy;rw[hy];exact h3 x G
   rcases Xl.1 G with G|G
   . exact hI.num x G
   rw[Xk]at G;rw[G];exact⟨h1,h2⟩
  rw[j1j,wrap_i64 ((i:Int)+1) (by omega)];refine k3n (fun G=>Ok.some ⟨fun h=>(by cases h),fun h=>?_⟩) (fun G=>Ok.bind (Ok.some (k3n (fun Z=>k3n (fun h0=>?_) (fun h0=>?_)) (fun Z=>Ok.some ⟨fun h=>(by cases h),fun h=>?_⟩))))
  . simp only[beq_iff_eq]at G;exact absurd G (h.num _ I).1
  .
   simp only[decide_eq_true_eq]at h0 Z;simp only[beq_eq_false_iff_ne,ne_eq]at G;rw[wrap_i64 ((i:Int)-1) (by omega),show (i:Int)-1=((i-1:Nat):Int) by omega];refine Ok.bind (k3o (by omega) (Ok.bind (k3q (jr2 _ _) (k3n (fun W=>Ok.some ⟨fun h=>(by cases h),fun h=>?_⟩) (fun W=>hr (T G Z fun x G=>?_))))))
   . simp only[Xb,decide_eq_false_iff_not]at W;exact absurd ((X8.1 h.inc) (i-1) i (by omega) hi (by omega)) W
   simp only[Xc,decide_eq_true_eq]at W;obtain⟨j,hj,rfl⟩:=Xy.1 G;rw[Xd]at hj;rw[Yl];rcases Yx j (i-1)with h|h
   . have:=(X8.1 hI.inc) j (i-1) (by rw[Xd];omega) (by rw[Xd];omega) h;rw[Yl,Yl]at this;exact zn4 this W
   have:j=i-1:=by omega
   subst this;exact W
  .
   simp only[decide_eq_false_iff_not]at h0;simp only[decide_eq_true_eq]at Z;simp only[beq_eq_false_iff_ne,ne_eq]at G;have:i=0:=by omega
   subst this;exact hr (T G Z (by simp))
  simp only[decide_eq_false_iff_not]at Z;exact absurd (h.num _ I).2 Z
 unfold qw9;refine k3n (fun G=>by simp only[decide_eq_true_eq]at G;omega) (fun _=>Ok.some ?_);rw[Xf]at hI;exact⟨fun _=>hI,fun _=>rfl⟩
theorem half(i j:Nat)(h:i+j<4611686018427387904):IntKind.i64.wrap (q2e .u64 (IntKind.u64.wrap (IntKind.i64.wrap ((i:Int)+(j:Int)))) 1)=(((i+j)/2:Nat):Int):=by
 rw[wrap_i64 ((i:Int)+(j:Int)) (by omega)];have G:IntKind.u64.wrap ((i:Int)+(j:Int))=((i+j:Nat):Int):=by simp[IntKind.wrap,IntKind.bits,IntKind.signed];omega
 rw[G];have I:q2e .u64 ((i+j:Nat):Int) 1=(((i+j)/2:Nat):Int):=by
  show Wm _ 2=_
  rw[Y3 _ (by omega)];omega
 rw[I,wrap_i64 _ (by omega)]
theorem j89{b:List a8}{r:aP}(h:b.Pairwise (fun p q=>lt p.Rec q.Rec))(hl:b.length<1000000000):
 Ok (q3s b r (fun aj ak=>qj8 aj ak)) (fun v=>∃A B,b=A++B/\(∀x∈A,lt x.Rec r)/\(∀x∈B,¬lt x.Rec r)/\v.1=(A.length:Int)/\v.2=(match B with|[]=>false|x::_=>decide (x.Rec=r))):=by
 have hp:=X8.1 h;have hc:∀x:a8,qj8 x r=some (ord x.Rec r):=fun x=>by simp only[qj8,j1c,q9,Xo]
 unfold q3s;refine k3p (fun s=>∃i j:Nat,s=((i:Int),(j:Int))/\i<=j/\j<=b.length/\(∀q (_:q<b.length),q<i->lt b[q].Rec r)/\(∀q (_:q<b.length),j<=q->¬lt b[q].Rec r)) (fun s=>(s.2-s.1).toNat) ?_ ⟨0,b.length,rfl,Xe _,Yb _,fun q _ h=>by omega,fun q _ h=>by omega⟩ (by simp only[rounds];omega);rintro rec _ ⟨i,j,rfl,h1,h2,h3,h4⟩ hr;unfold q7l;simp only;refine k3n (fun T=>?_) (fun T=>?_)
 .
  simp only[decide_eq_true_eq]at T;have an:i<j:=by omega
  rw[half i j (by omega)];have hm:(i+j)/2<b.length:=by omega
  refine Ok.bind (k3o hm (Ok.bind (k3q (hc _) (k3n (fun hn=>?_) (fun hn=>?_)))))
  .
   simp only[decide_eq_true_eq]at hn;rw[wrap_i64 _ (by omega)];refine hr _ ⟨(i+j)/2+1,j,rfl,by omega,h2,fun q W Z=>?_,h4⟩ (by simp only;omega);have G:=(zr9 _ _).1 hn;rcases Yx q ((i+j)/2)with h|h
   . exact zn4 (hp q _ W hm h) G
   have:q=(i+j)/2:=by omega
   subst this;exact G
  simp only[decide_eq_false_iff_not]at hn;refine hr _ ⟨i,(i+j)/2,rfl,by omega,by omega,h3,fun q W ao Z=>?_⟩ (by simp only;omega);have G:=mt (zr9 _ _).2 hn;rcases Yx ((i+j)/2) q with h|h
  . exact G (zn4 (hp _ q hm W h) Z)
  have:q=(i+j)/2:=by omega
  subst this;exact G Z
 simp only[decide_eq_false_iff_not]at T;have:i=j:=by omega
 subst this;unfold q4j;have hA:∀x∈b.take i,lt x.Rec r:=fun x T=>by
  obtain⟨q,W,rfl⟩:=Xy.1 T;rw[Xd]at W;rw[Yl];exact h3 q (by omega) (by omega)
 have hB:∀x∈b.drop i,¬lt x.Rec r:=fun x T=>by
  obtain⟨q,W,rfl⟩:=Xy.1 T;rw[Yz]at W;rw[Zq];exact h4 _ (by omega) (by omega)
 have I:(b.take i).length=i:=by rw[Xd];omega
 refine k3n (fun a6=>?_) (fun a6=>Ok.some ⟨b.take i,b.drop i,(Xm _ _).symm,hA,hB,by rw[I],?_⟩)
 .
  simp only[decide_eq_true_eq]at a6;have hi:i<b.length:=by omega
  refine Ok.bind (k3o hi (Ok.bind (k3q (hc _) (Ok.some ⟨b.take i,b.drop i,(Xm _ _).symm,hA,hB,by rw[I],?_⟩))));rw[Xw hi]
  show (ord _ _==0)=decide _
  rw[Yh,beq_iff_eq,decide_eq_true_eq];exact je5 _ _
 simp only[decide_eq_false_iff_not]at a6;rw[Zz (by omega)]
end BG
end
section
open Go Go.RowKit
namespace BG
structure Put(b c:List a8)(r:aP)(n:Int):Prop where
 rt:Rt c
 cnt:∀s,cnt c s=cnt b s+if r=s then n else 0
 tot:tot c=tot b+n
 big:big c<=big b+(n.natAbs:Int)
 len:c.length<=b.length+1
theorem Rt.mid{A B:List a8}(h:Rt (A++B)){x:a8}(W:∀y∈A,lt y.Rec x.Rec)(Z:∀y∈B,lt x.Rec y.Rec)(hn:x.N≠0/\-2147483648<=x.N/\x.N<=2147483648):Rt (A++x::B):=by
 have I:=Yn.1 h.inc;refine⟨Yn.2 ⟨I.1,Yu.2 ⟨Z,I.2.1⟩,fun a T b hb=>?_⟩,fun y G=>?_⟩
 .
  rcases Yk.1 hb with rfl|hb
  . exact W a T
  exact I.2.2 a T b hb
 rcases Xl.1 G with G|G
 . exact h.num y (Yd _ G)
 rcases Yk.1 G with rfl|G
 . exact hn
 exact h.num y (Zc _ G)
theorem j8i{b:List a8}{r:aP}{n:Int}(h:Rt b)(hl:b.length<100000000)(hn:-2147483648<=n/\n<=2147483648)(hs:-2147483648<=cnt b r+n/\cnt b r+n<=2147483648):
 Ok (q9d b r n) (fun c=>Put b c r n):=by
 unfold q9d;refine k3m (j89 h.inc (by omega)) fun v ⟨A,B,he,hA,hB,h1,h2⟩=>?_;refine k3n (fun Z=>Ok.some ?_) (fun Z=>Ok.bind (k3q (j1j n) (k3n (fun I=>by simp only[Xb,decide_eq_false_iff_not]at I;omega) (fun _=>?_))))
 . simp only[beq_iff_eq]at Z;subst Z;exact⟨h,fun s=>by split<;>omega,by omega,by simp,by omega⟩
 simp only[beq_eq_false_iff_ne,ne_eq]at Z;subst he;have ar:(A++B).length=A.length+B.length:=by simp
 have a6:=Yn.1 h.inc;rw[h1,h2];have T:(∀y∈B,lt r y.Rec)->Ok (q9 (q5a (A++B) (A.length:Int) ([(⟨r,n⟩:a8)]:List a8)) (fun (an:List a8)=>some an)) (fun c=>Put (A++B) c r n):=fun ao=>by
  unfold q5a zs6;refine Ok.bind (Ok.guard ⟨by omega,by omega,by simp,by simp;omega,by unfold maxLen;simp;omega⟩ (Ok.some (Ok.some ?_)));have e:Wd (A.length:Int).toNat (A++B)++[(⟨r,n⟩:a8)]++List.drop (A.length:Int).toNat (A++B)=A++⟨r,n⟩::B:=by
   rw[Xg,List.take_left,List.drop_left];simp
  rw[e];refine⟨h.mid hA ao ⟨Z,hn⟩,fun s=>?_,?_,?_,by simp;omega⟩
  . simp only[z4a,BG.cnt];omega
  . simp only[q6d];simp[BG.tot];omega
  simp only[qo1,BG.big];omega
 cases B with
 |nil=>exact k3n (fun _=>T (by simp)) (fun I=>by simp at I)
 |cons x B=>
  simp only;refine k3n (fun I=>T ?_) (fun I=>?_)
  .
   simp only[Xb,decide_eq_false_iff_not]at I;have aj:lt r x.Rec:=by
    rcases jz0 x.Rec r with h|h|h
    . exact absurd h (hB x (by simp))
    . exact absurd h I
    exact h
   intro y G;rcases Yk.1 G with rfl|G
   . exact aj
   exact zn4 aj ((Yu.1 a6.2.1).1 y G)
  simp only[Xc,decide_eq_true_eq]at I;subst I;have hg:(A++x::B)[A.length]'(by simp)=x:=by simp
  have aq:cnt (A++x::B) x.Rec=x.N:=qy7 h.inc (by simp);rw[aq]at hs;have hw:IntKind.i64.wrap (x.N+n)=x.N+n:=wrap_i64 _ (by omega);have b1:=h.num x (by simp);have b2:∀y∈A,y.Rec≠x.Rec:=fun y G e=>z2t x.Rec (by have:=hA y G;rwa [e]at this);have ak:=(Yu.1 a6.2.1).1;have b3:∀y∈B,y.Rec≠x.Rec:=fun y G e=>z2t x.Rec (by have:=ak y G;rwa [e]at this);have W:Rt (A++B):=by
   refine⟨h.inc.sublist (by simp),fun y G=>h.num y ?_⟩;rcases Xl.1 G with G|G
   . exact Yd _ G
   exact Zc _ (Zf _ G)
  refine Ok.bind (k3o (by simp) ?_);rw[hg,hw];refine k3n (fun hz=>?_) (fun hz=>Ok.bind (k3q (j1j _) (k3n (fun _=>Ok.some ?_) (fun hm=>by simp only[decide_eq_false_iff_not]at hm;omega))))
  .
   simp only[beq_iff_eq]at hz;unfold qc9 zt9;rw[wrap_i64 _ (by omega)];refine Ok.bind (Ok.guard ⟨by omega,by omega,by simp;omega⟩ (Ok.some (Ok.some ?_)));have e:Wd (A.length:Int).toNat (A++x::B)++List.drop ((A.length:Int)+1).toNat (A++x::B)=A++B:=by
    rw[Xg,show ((A.length:Int)+1).toNat=A.length+1 by omega,List.take_left,List.drop_append];simp
   rw[e];refine⟨W,fun s=>?_,?_,?_,by simp;omega⟩
   . simp only[z4a,BG.cnt];split<;>omega
   . simp only[q6d];simp[BG.tot];omega
   simp only[qo1,BG.big];omega
  simp only[beq_eq_false_iff_ne,ne_eq]at hz;rw[Xg];have e:List.set (A++x::B) A.length (⟨x.Rec,x.N+n⟩:a8)=A++⟨x.Rec,x.N+n⟩::B:=by
   rw[Yy _ _ (Yb _)];simp
  rw[e];refine⟨W.mid (x:=⟨x.Rec,x.N+n⟩) hA ak ⟨hz,hs⟩,fun s=>?_,?_,?_,by simp⟩
  . simp only[z4a,BG.cnt];split<;>omega
  . simp only[q6d];simp[BG.tot];omega
  simp only[qo1,BG.big];omega
structure bV(b c l:List a8):Prop where
 rt:Rt c
 cnt:∀s,cnt c s=cnt b s+cnt l s
 tot:tot c=tot b+tot l
 big:big c<=big b+big l
 len:c.length<=b.length+l.length
theorem bV.nil{b:List a8}(h:Rt b):bV b b []:=⟨h,fun s=>by simp[BG.cnt],by simp[BG.tot],by simp[BG.big],by simp⟩
theorem bV.snoc{b c d l:List a8}{x:a8}(h:bV b c l)(hp:Put c d x.Rec x.N):bV b d (l++[x]):=by
 refine⟨hp.rt,fun s=>?_,?_,?_,?_⟩
 . rw[hp.cnt,h.cnt,z4a];simp only[BG.cnt];omega
 . rw[hp.tot,h.tot,q6d];simp[BG.tot];omega
 . have:=h.big;have:=hp.big;rw[qo1];simp only[BG.big];omega
 have:=h.len;have:=hp.len;simp;omega
theorem j2v{l:List a8}(i:Nat):big (l.take i)<=big l:=by
 have h:=qo1 (l.take i) (l.drop i);rw[Xm]at h;have:=z4b (l.drop i);omega
theorem j5b{l:List a8}{x:a8}(h:x∈l):(x.N.natAbs:Int)<=big l:=by
 induction l with
 |nil=>cases h
 |cons y l G=>
  have:=z4b l;simp only[big];rcases Yk.1 h with rfl|h
  . omega
  have:=G h;omega
theorem bV.next{b c l:List a8}{i:Nat}(hi:i<l.length)(hb:BG.big b+BG.big l<=2147483648)(G:b.length+l.length<100000000)(h:bV b c (l.take i)):Ok (q9d c l[i].Rec l[i].N) (fun d=>bV b d (l.take (i+1))):=by
 have Z:=j5b (Xj hi);have h2:=z4b b;have h3:=zp7 b l[i].Rec;have T:=h.cnt l[i].Rec;have I:=qo1 (l.take i) [l[i]];rw[<-Xa hi]at I;have h7:=j2v (l:=l) (i+1);have h8:=zp7 (l.take i) l[i].Rec;have W:=h.len;simp only[BG.big]at I;rw[Xd]at W;refine (j8i h.rt (by omega) (by omega) (by rw[T];omega)).mono fun d hd=>?_;rw[Xa hi];exact h.snoc hd
theorem zk0{b:List a8}(h:Rt b)(G:b.length<1000000000):q9s b=some true:=by
 obtain⟨r,I,T⟩:=j31 G;rw[I,T.2 h]
theorem j2q{b:List a8}(G:b.length<1000000000):q72 b=some b:=by
 refine Ok.eq ?_;unfold q72;exact Ok.guard (by simp;omega) (Ok.some (by simp))
theorem ju5{a b:List a8}(W:Rt a)(hb:Rt b)(Z:big a+big b<=2147483648)(T:a.length+b.length<100000000):Ok (q5g a b) (fun c=>bV a c b):=by
 unfold q5g z18;refine Ok.bind (Ok.bind (k3q (j2q (by omega)) (Ok.bind (k3q (zk0 W (by omega)) (k3n (fun _=>?_) (fun I=>by cases I))))));refine Ok.bind (k3q (zk0 hb (by omega)) (k3n (fun I=>by cases I) (fun _=>?_)));refine k3r (l:=b) (by omega) (fun i s=>bV a s (b.take i)) 0 (fun rec i hi s _ G hr=>?_) (fun rec s G=>?_) (by simpa using bV.nil W) (Xe _)
 . unfold qr4;simp only;refine k3n (fun _=>Ok.bind (k3o hi ?_)) (fun I=>by simp only[decide_eq_false_iff_not]at I;omega);have a6:=(hb.num _ (Xj hi)).2;rw[Int.one_mul,wrap_i64 b[i].N (by omega),wrap_i64 ((i:Int)+1) (by omega)];exact k3m (G.next hi Z T) fun d hd=>hr _ hd
 unfold qr4;simp only;refine k3n (fun I=>by simp only[decide_eq_true_eq]at I;omega) (fun _=>Ok.some (Ok.some ?_));rw[Xf]at G;exact G
theorem k0l{b:List a8}{r:aP}{n:Int}(h:Rt b)(G:b.length<100000000)(I:-2147483648<=n/\n<=2147483648)(T:-2147483648<=cnt b r+n/\cnt b r+n<=2147483648):Ok (z2z b r n) (fun c=>Put b c r n):=by
 unfold z2z;refine Ok.bind (k3q (j2q (by omega)) (Ok.bind (k3q (zk0 h (by omega)) (k3n (fun W=>by cases W) (fun _=>?_)))));exact k3m (j8i h G I T) fun c Z=>Ok.some Z
open Classical in
noncomputable def there(b:List a8):List a8:=if Rt b then b.filter (fun x=>decide (0<x.N))else []
theorem j2y{b:List a8}(hl:b.length<1000000):qq9 b=some (there b):=by
 refine Ok.eq ?_;unfold qq9;refine k3r (l:=b) (by omega) (fun i s=>s=(b.take i).filter (fun x=>decide (0<x.N))) 0 (fun rec i hi s _ I T=>?_) (fun rec s I=>?_) (by simp) (Xe _)
 .
  have W:s.length<=i:=by
   rw[I];refine Zg (Xt _ _) ?_;rw[Xd];omega
  unfold qw8;simp only;refine k3n (fun _=>Ok.bind (k3o hi ?_)) (fun G=>by simp only[decide_eq_false_iff_not]at G;omega);rw[wrap_i64 ((i:Int)+1) (by omega)];refine k3n (fun G=>Ok.guard (by simp;omega) (T _ ?_)) (fun G=>T _ ?_)
  . rw[Xa hi,Yg,I,Ye,if_pos G];rfl
  rw[Xa hi,Yg,I,Ye,if_neg (by rw[G];simp)];simp
 rw[Xf]at I;unfold qw8;simp only;refine k3n (fun G=>by simp only[decide_eq_true_eq]at G;omega) (fun _=>?_);unfold qw7;refine k3m (j31 (by omega)) fun v Z=>k3n (fun G=>Ok.some ?_) (fun G=>Ok.some ?_)
 .
  have:¬Rt b:=fun h=>by rw[Z.2 h]at G;cases G
  unfold there;rw[if_neg this]
 have:Rt b:=Z.1 (by simpa using G);unfold there;rw[if_pos this,I]
theorem zh1(b:List a8):Rt (there b)/\∀x∈there b,0<x.N:=by
 unfold there
 split
 .
  rename_i h
  exact⟨⟨h.inc.sublist Wa,fun x G=>h.num x (Xs.1 G).1⟩,fun x G=>by simpa using (Xs.1 G).2⟩
 exact⟨Rt.nil,by simp⟩
theorem z5z(b:List a8):(there b).length<=b.length:=by
 unfold there
 split
 . exact Xt _ _
 simp
theorem qr6{b:List a8}(h:Rt b)(hp:∀x∈b,0<x.N):there b=b:=by
 unfold there;rw[if_pos h];exact Y6.2 fun x G=>by simpa using hp x G
end BG
end
section
open Go Go.RowKit
namespace OP
theorem T1{α:Type}(a:α):Ok (some a) (fun _=>True):=Ok.some trivial
theorem j16{p:List bg}:Ok (qa1 p) (fun r=>r=true->p.length<=64/\∀x∈p,(x.Op=14\/x.Op=15)->0<=x.N/\x.N<=p.length):=by
 unfold qa1;refine k3n (fun _=>Ok.some (fun h=>by cases h)) (fun Z=>?_);simp only[decide_eq_false_iff_not]at Z;refine k3s (l:=p) (by omega) (fun i=>∀x∈p.take i,(x.Op=14\/x.Op=15)->0<=x.N/\x.N<=p.length) 0 (fun rec i hi _ G T=>?_) (fun rec G=>?_) (by simp) (Xe _)
 .
  unfold qa7 qt8;refine k3n (fun _=>Ok.bind (k3o hi ?_)) (fun I=>by simp only[decide_eq_false_iff_not]at I;omega);rw[wrap_i64 ((i:Int)+1) (by omega)];refine k3n (fun _=>Ok.some (fun h=>by cases h)) (fun _=>Ok.bind (Ok.some (k3n (fun W=>k3n (fun _=>Ok.some (fun h=>by cases h)) (fun hn=>T ?_)) (fun W=>k3n (fun _=>Ok.some (fun h=>by cases h)) (fun _=>T ?_)))))
  . simp only[Xr,decide_eq_false_iff_not]at hn;exact (q7i hi).2 ⟨G,fun _=>by omega⟩
  simp only[Xr,beq_eq_false_iff_ne,ne_eq]at W;exact (q7i hi).2 ⟨G,fun h=>by omega⟩
 unfold qa7;refine k3n (fun I=>by simp only[decide_eq_true_eq]at I;omega) (fun _=>Ok.some (fun _=>?_));rw[Xf]at G;exact⟨by omega,G⟩
theorem jw2(op a b:Int):Ok (qn8 op a b) (fun _=>True):=by
 have G:∀n ok,Ok (q2d n ok) (fun _=>True):=fun n ok=>by
  unfold q2d;exact k3n (fun _=>T1 _) (fun _=>T1 _)
 have I:∀b,Ok (qa0 b) (fun _=>True):=fun b=>by
  unfold qa0;exact k3n (fun _=>T1 _) (fun _=>T1 _)
 have Z:Ok (qf1 a b) (fun _=>True):=by
  have W:∀n,Ok (qd9 n) (fun _=>True):=fun n=>by
   unfold qd9;exact k3n (fun _=>T1 _) (fun _=>T1 _)
  unfold qf1;refine k3m (W _) fun _ _=>k3m (W _) fun _ _=>?_;unfold q2w;exact Ok.bind (Ok.some (k3n (fun _=>T1 _) (fun _=>T1 _)))
 have T:∀t,Ok (q8t op a b t) (fun _=>True):=fun t=>by
  unfold q8t;refine k3n (fun _=>k3n (fun _=>T1 _) (fun h0=>k3n (fun _=>G _ _) (fun _=>k3n (fun _=>G _ _) (fun _=>k3n (fun _=>Ok.guard ?_ (G _ _)) (fun _=>Ok.guard ?_ (G _ _)))))) (fun _=>k3n (fun _=>k3m (I _) fun _ _=>G _ _) (fun _=>k3n (fun _=>k3m (I _) fun _ _=>G _ _) (fun _=>G _ _)))
  all_goals simpa using h0
 unfold qn8;exact k3n (fun _=>G _ _) (fun _=>k3n (fun _=>G _ _) (fun _=>k3n (fun _=>k3m Z fun _ _=>G _ _) (fun _=>k3n (fun _=>T _) (fun _=>T _))))
theorem z4g{m:aA}(n:Int)(h:m.stack.length<=8):Ok (q05 m n) (fun q=>q.stack.length<=8/\q.out=m.out/\q.at_=m.at_):=by
 unfold q05;refine k3n (fun _=>Ok.some ⟨h,rfl,rfl⟩) (fun G=>Ok.guard (by simp;omega) (Ok.some ⟨?_,rfl,rfl⟩));simp only[beq_eq_false_iff_ne,ne_eq]at G;simp;omega
theorem jf1{m:aA}(x:bg)(h:m.stack.length<=8):Ok (q1e m x) (fun q=>q.2.stack.length<=8/\q.2.out=m.out/\q.2.at_=m.at_):=by
 unfold q1e;have e1:IntKind.i64.wrap ((Yc m.stack:Int)-1)=(Yc m.stack:Int)-1:=wrap_i64 _ (by omega);have e2:IntKind.i64.wrap ((Yc m.stack:Int)-2)=(Yc m.stack:Int)-2:=wrap_i64 _ (by omega);rw[e1,e2];have hp:∀n,Ok (q9 (q05 m n) (fun (I:aA)=>some (true,I))) (fun q=>q.2.stack.length<=8/\q.2.out=m.out/\q.2.at_=m.at_):=fun n=>k3m (z4g n h) fun q hq=>Ok.some hq;refine k3n (fun _=>hp _) (fun _=>k3n (fun _=>hp _) (fun _=>k3n (fun _=>hp _) (fun _=>k3n (fun _=>?_) (fun _=>k3n (fun _=>?_) (fun _=>k3n (fun _=>?_) (fun _=>Ok.some ⟨h,rfl,rfl⟩))))))
 . refine k3n (fun _=>Ok.some ⟨h,rfl,rfl⟩) (fun G=>Ok.guard (by simp at G;omega) (Ok.guard (by simp at G;omega) (Ok.guard (by simp at G;omega) (Ok.bind (Ok.bM (by omega) (by simp at G⊢;omega) fun y _=>?_)))));refine k3m (z4g _ (by simp;omega)) fun q ⟨T,W,Z⟩=>k3m (z4g _ T) fun q' ⟨h4,h5,h6⟩=>Ok.some ⟨h4,h5.trans W,h6.trans Z⟩
 . refine k3n (fun _=>Ok.some ⟨h,rfl,rfl⟩) (fun G=>Ok.guard (by simp at G;omega) (Ok.guard (by simp at G;omega) (Ok.guard (by simp at G;omega) (Ok.bind (Ok.bM (by omega) (by simp at G⊢;omega) fun y _=>Ok.bind (Ok.bM (by omega) (by simp at G⊢;omega) fun z _=>?_))))));refine k3m (z4g _ (by simp;omega)) fun q ⟨T,W,Z⟩=>k3m (z4g _ T) fun q' ⟨h4,h5,h6⟩=>Ok.some ⟨h4,h5.trans W,h6.trans Z⟩
 refine k3n (fun _=>Ok.some ⟨h,rfl,rfl⟩) (fun G=>Ok.guard (by simp at G;omega) (Ok.guard (by simp at G;omega) (Ok.some ⟨by simp;omega,rfl,rfl⟩)))
structure Ms(m:aA):Prop where
 st:m.stack.length<=8
 out:m.out.length<=8
 at0:0<=m.at_
theorem de{m:aA}{x:bg}(h:Ms m)(ha:m.at_<1000000)(G:(x.Op=14\/x.Op=15)->0<=x.N):Ok (q1h m x) (fun q=>Ms q):=by
 unfold q1h;have aj:=h.at0;have w1:IntKind.i64.wrap (m.at_+1)=m.at_+1:=wrap_i64 _ (by omega);rw[w1];refine k3m (jf1 x h.st) fun v ⟨Z,h2,h3⟩=>?_;simp only at h2 h3;have T:=h.out;rw[<-h2]at T;have hv:Ms v.2:=⟨Z,T,by rw[h3];omega⟩;have I:=hv.at0
 generalize v.2=m2 at Z T hv I
 clear h2 h3;have e1:IntKind.i64.wrap ((Yc m2.stack:Int)-1)=(Yc m2.stack:Int)-1:=wrap_i64 _ (by omega);have e2:IntKind.i64.wrap ((Yc m2.stack:Int)-2)=(Yc m2.stack:Int)-2:=wrap_i64 _ (by omega);rw[e1,e2];refine k3n (fun _=>Ok.some hv) (fun _=>k3n (fun W=>Ok.some ⟨Z,T,G (.inl (by simpa using W))⟩) (fun _=>k3n (fun W=>?_) (fun _=>k3n (fun _=>?_) (fun _=>?_))))
 . have a6:=G (.inr (by simpa using W));refine k3n (fun _=>Ok.some ⟨Z,T,I⟩) (fun G=>Ok.guard (by simp at G;omega) (Ok.guard (by simp at G;omega) (Ok.guard (by simp at G;omega) (Ok.bind (Ok.bM (by omega) (by simp at G⊢;omega) fun y _=>?_)))));exact k3n (fun _=>Ok.some ⟨by simp;omega,T,a6⟩) (fun _=>Ok.some ⟨by simp;omega,T,I⟩)
 . refine k3n (fun _=>Ok.some ⟨Z,T,I⟩) (fun G=>Ok.guard (by simp at G;omega) (Ok.guard (by simp at G;omega) (Ok.guard (by simp at G;omega) (k3n (fun _=>Ok.some ⟨by simp;omega,T,I⟩) (fun h8=>Ok.bind (Ok.bM (by omega) (by simp at G⊢;omega) fun y _=>Ok.bind (Ok.bM (by omega) (by simp at G⊢;omega) fun z _=>Ok.guard (by simp;omega) (Ok.some ⟨by simp;omega,?_,I⟩))))))));simp only[beq_eq_false_iff_ne,ne_eq]at h8;simp;omega
 refine k3n (fun _=>Ok.some ⟨Z,T,I⟩) (fun G=>Ok.guard (by simp at G;omega) (Ok.guard (by simp at G;omega) (Ok.guard (by simp at G;omega) (Ok.bind (Ok.bM (by omega) (by simp at G⊢;omega) fun y _=>Ok.bind (Ok.bM (by omega) (by simp at G⊢;omega) fun z _=>?_))))));refine k3m (jw2 _ _ _) fun t _=>k3m (z4g _ (by simp;omega)) fun q ⟨g1,g2,g3⟩=>Ok.some ⟨g1,by rw[g2];exact T,by rw[g3];exact I⟩
theorem k0g(p:List bg)(r:aP):Ok (qn9 p r) (fun v=>v.1.length<=8):=by
 unfold qn9;refine k3m j16 fun ok I=>k3n (fun _=>Ok.some (by simp)) (fun hb=>?_);obtain⟨hl,hj⟩:=I (by simpa using hb);have W:∀a b c d e (o:List aP),o.length<=8->Ok (q8u r a b c d e o) (fun v=>v.1.length<=8):=fun a b c d e o ho=>by
  unfold q8u;exact k3n (fun _=>Ok.some (by simp)) (fun _=>Ok.some ho)
 refine k3p (fun s=>∃n:Nat,s.1=(n:Int)/\n<=256/\Ms ⟨⟨s.2.1,s.2.2.1⟩,s.2.2.2.2.2.1,s.2.2.2.2.2.2,s.2.2.2.1,s.2.2.2.2.1⟩) (fun s=>s.1.toNat) ?_ ⟨256,rfl,Yb _,⟨by simp,by simp,by simp⟩⟩ (by simp only[rounds];omega);rintro rec ⟨_,a,b,c,d,e,o⟩ ⟨n,rfl,hn,G⟩ hr;simp only at G;unfold qp8;simp only;refine k3n (fun hc=>k3n (fun _=>W _ _ _ _ _ _ G.out) (fun h0=>?_)) (fun _=>W _ _ _ _ _ _ G.out);simp only[Xi,decide_eq_true_eq,beq_iff_eq]at hc;simp only[beq_eq_false_iff_ne,ne_eq]at h0;have T:0<=c:=G.at0;obtain⟨k,rfl⟩:=Int.eq_ofNat_of_zero_le T;have Z:k<p.length:=by omega
 refine Ok.bind (k3o Z (k3m (de G (by simp only;omega) fun h=>(hj _ (Xj Z) h).1) fun q hq=>?_));rw[wrap_i64 _ (by omega)];exact hr _ ⟨n-1,by simp only;omega,by omega,hq⟩ (by simp only;omega)
theorem j4n(k a b:Int):Ok (q7f k a b) (fun r=>r.K=k):=by
 unfold q7f qd4;exact k3n (fun _=>Ok.bind (Ok.some (Ok.some rfl))) (fun _=>Ok.some rfl)
theorem zv2(x:aH)(r:aP):Ok (q77 x r) (fun l=>l.length<=8):=by
 unfold q77;refine k3n (fun _=>k3m (k0g _ _) fun v G=>Ok.some G) (fun _=>k3n (fun _=>k3m (j4n _ _ _) fun v _=>Ok.some (by simp)) (fun _=>k3n (fun _=>k3n (fun _=>Ok.some (by simp)) (fun I=>Ok.guard ?_ (k3n (fun _=>Ok.some (by simp)) (fun _=>Ok.some (by simp))))) (fun _=>Ok.some (by simp))));simp only[decide_eq_false_iff_not]at I;omega
def cu(x:aH)(r:aP):List aP:=(q77 x r).getD []
theorem j4a(x:aH)(r:aP):q77 x r=some (cu x r):=by
 obtain⟨l,h,_⟩:=zv2 x r;rw[cu,h];rfl
theorem jd4(x:aH)(r:aP):(cu x r).length<=8:=by
 obtain⟨l,h,G⟩:=zv2 x r;rw[cu,h];exact G
end OP
end
section
open Go Go.RowKit BG
namespace OP
def Pos(l:List a8):Prop:=∀x∈l,0<x.N
theorem Pos.b8:∀{l:List a8},Pos l->(l.length:Int)<=tot l
 |[],_=>by simp[tot]
 |x::l,h=>by
  have I:=h x (by simp);have T:=Pos.b8 (l:=l) fun y G=>h y (by simp[G]);simp only[tot,Y4,Z9,X9]at*;omega
theorem Pos.big:∀{l:List a8},Pos l->big l=tot l
 |[],_=>by simp[tot,BG.big]
 |x::l,h=>by
  have I:=h x (by simp);have T:=Pos.big (l:=l) fun y G=>h y (by simp[G]);simp only[tot,BG.big,Y4,Z9]at*;omega
theorem Pos.append{a b:List a8}(G:Pos a)(I:Pos b):Pos (a++b):=fun x T=>(Xl.1 T).elim (G x) (I x)
theorem Pos.left{a b:List a8}(h:Pos (a++b)):Pos a:=fun x G=>h x (Yd _ G)
theorem Pos.right{a b:List a8}(h:Pos (a++b)):Pos b:=fun x G=>h x (Zc _ G)
structure Mk(m:ax):Prop where
 many:m.many=tot m.out
 pos:Pos m.out
 le:m.many<=65536
def Res(m:ax)(O:List a8)(v:Bool×ax):Prop:=(v.1=true/\v.2.out=m.out++O/\Mk v.2)\/(v.1=false/\65536<tot m.out+tot O)
theorem zq1{m:ax}{r:aP}{n:Int}(h:Mk m)(I:0<n)(T:n<=1099511627776):Ok (q1b m r n) (fun v=>Res m [⟨r,n⟩] v):=by
 have Z:=h.pos.b8;have W:=h.many;have h3:=h.le;unfold q1b;rw[wrap_i64 (65536-m.many) (by omega),wrap_i64 (m.many+n) (by omega)];refine k3n (fun G=>Ok.some (.inr ⟨rfl,?_⟩)) (fun G=>Ok.guard (by simp;omega) (Ok.some (.inl ⟨rfl,rfl,?_⟩)))
 . simp only[decide_eq_true_eq]at G;simp[tot]at*;omega
 simp only[decide_eq_false_iff_not]at G;exact⟨by simp only[q6d,W];simp[tot],h.pos.append (by intro x G;simp at G;rw[G];exact I),by simp only;omega⟩
def lin(x:aH)(b:List a8):List a8:=b.flatMap fun y=>(cu x y.Rec).map (⟨·,y.N⟩)
theorem z90(x:aH)(a b:List a8):lin x (a++b)=lin x a++lin x b:=by simp[lin]
theorem j4v(x:aH)(y:a8):lin x [y]=(cu x y.Rec).map (⟨·,y.N⟩):=by simp[lin]
theorem z81{x:aH}{b:List a8}(h:Pos b):Pos (lin x b):=by
 intro z G;obtain⟨y,I,G⟩:=Zb.1 G;obtain⟨r,_,rfl⟩:=Ya.1 G;exact h y I
theorem zb1{m:ax}{x:aH}{b:List a8}(h:Mk m)(hp:Pos b)(hb:∀y∈b,y.N<=1099511627776)(hl:b.length<1000000):Ok (q2s m x b) (fun v=>Res m (lin x b) v):=by
 unfold q2s;refine k3r (l:=b) (by omega) (fun i (s:Int×List a8)=>s.2=m.out++lin x (b.take i)/\Mk ⟨s.2,s.1⟩) 0 (fun rec i hi s _ Z hr=>?_) (fun rec s Z=>?_) ⟨by simp[lin],h⟩ (Xe _)
 .
  obtain⟨many,out⟩:=s;simp only at Z;unfold q5r;simp only;refine k3n (fun _=>Ok.bind (k3o hi (Ok.bind (k3q (j4a _ _) ?_)))) (fun I=>by simp only[decide_eq_false_iff_not]at I;omega);have a6:=Xj hi;have hN:=hp _ a6;have ao:=hb _ a6;have aq:=jd4 x b[i].Rec;have W:lin x b=lin x (b.take i)++(cu x b[i].Rec).map (⟨·,b[i].N⟩)++lin x (b.drop (i+1)):=by
   rw[<-j4v,<-z90,<-z90,<-Xa hi,Xm]
  have T:=z81 (x:=x) hp;rw[W]at T
  generalize hS:cu x b[i].Rec=S at aq W T
  refine k3r (l:=S) (by omega) (fun j (s:Int×List a8)=>s.2=m.out++lin x (b.take i)++(S.take j).map (⟨·,b[i].N⟩)/\Mk ⟨s.2,s.1⟩) 0 (fun ak j hj s _ G ar=>?_) (fun ak s G=>?_) ⟨by simp only[Z5,Zt,X3];exact Z.1,Z.2⟩ (Xe _)
  .
   obtain⟨aj,an⟩:=s;simp only at G;unfold q5q;simp only;refine k3n (fun _=>Ok.bind (k3o hj (k3m (zq1 G.2 hN ao) fun v hv=>?_))) (fun I=>by simp only[decide_eq_false_iff_not]at I;omega);rw[wrap_i64 ((j:Int)+1) (by omega)];rcases hv with⟨v1,v2,v3⟩|⟨v1,v2⟩
   . rw[v1];refine k3n (fun I=>by cases I) (fun _=>ar _ ⟨?_,v3⟩);simp only at v2⊢;rw[v2,G.1,Xa hj,Ze];simp only[Y4,Zt,X5]
   rw[v1];refine k3n (fun _=>Ok.some (.inr ⟨rfl,?_⟩)) (fun I=>by cases I);simp only at v2;rw[G.1]at v2;have e:S.map (fun r=>(⟨r,b[i].N⟩:a8))=(S.take j).map (⟨·,b[i].N⟩)++[⟨S[j],b[i].N⟩]++(S.drop (j+1)).map (⟨·,b[i].N⟩):=by
    conv=>lhs;rw[<-Xm (j+1) S,Xa hj]
    simp only[Ze,Y4,Zt]
   rw[e]at W T;have p1:=T.right.b8;have p2:=T.left.right.right.b8;rw[W];simp only[q6d]at v2⊢;have e3:tot [(⟨S[j],b[i].N⟩:a8)]=b[i].N:=by simp[tot]
   omega
  obtain⟨aj,an⟩:=s;simp only at G;unfold q5q;simp only;refine k3n (fun I=>by simp only[decide_eq_true_eq]at I;omega) (fun _=>?_);rw[wrap_i64 ((i:Int)+1) (by omega)];refine hr _ ⟨?_,G.2⟩;simp only;rw[G.1,Xf,Xa hi,z90,j4v,hS,X5]
 obtain⟨many,out⟩:=s;simp only at Z;rw[Xf]at Z;unfold q5r;simp only;exact k3n (fun I=>by simp only[decide_eq_true_eq]at I;omega) (fun _=>Ok.some (.inl ⟨rfl,Z.1,Z.2⟩))
theorem jt2{m:ax}(h:Mk m):Ok (q64 m) (fun v=>bV [] v.1 m.out):=by
 have h1:=h.pos.b8;have h2:=h.many;have h3:=h.le;have T:=h.pos.big;unfold q64;refine k3r (l:=m.out) (by omega) (fun i s=>bV [] s (m.out.take i)) 0 (fun rec i hi s _ G hr=>?_) (fun rec s G=>?_) (by simpa using bV.nil Rt.nil) (Xe _)
 . unfold q70;simp only;refine k3n (fun _=>Ok.bind (k3o hi ?_)) (fun I=>by simp only[decide_eq_false_iff_not]at I;omega);rw[wrap_i64 ((i:Int)+1) (by omega)];have g1:=j5b (Xj hi);have g5:=G.cnt m.out[i].Rec;have W:=qo1 (m.out.take i) [m.out[i]];rw[<-Xa hi]at W;have g7:=j2v (l:=m.out) (i+1);have g8:=zp7 (m.out.take i) m.out[i].Rec;have Z:=G.len;simp only[BG.big]at W;rw[Xd]at Z;simp only[List.length_nil]at Z;refine k3m (k0l G.rt (by omega) (by omega) (by rw[g5];simp only[cnt];omega)) fun d hd=>hr _ ?_;rw[Xa hi];exact G.snoc hd
 unfold q70;simp only;refine k3n (fun I=>by simp only[decide_eq_true_eq]at I;omega) (fun _=>Ok.some ?_);rw[Xf]at G;exact G
end OP
end
section
open Go Go.RowKit BG
namespace OP
theorem j7z(v:Int):0<=IntKind.u64.wrap v/\IntKind.u64.wrap v<18446744073709551616:=by
 simp only[IntKind.wrap,IntKind.bits,IntKind.signed,Zl,Xz,if_false];omega
def Lo(w:aT):Prop:=0<=w.lo.n/\w.lo.n<18446744073709551616
theorem jn1{w:aT}(v n:Int)(h:Lo w):Ok (q9b w v n) (fun r=>Lo r):=by
 have G:∀s,Ok (q50 w v n s) (fun r=>Lo r):=fun s=>by
  unfold q50 q2w;refine Ok.bind (Ok.some ?_);simp only;have I:=j7z (s*IntKind.u64.wrap n);refine k3n (fun _=>?_) (fun _=>?_)
  . unfold qk5 zk8;refine Ok.bind (Ok.guard ⟨h.1,I.1,by omega,by omega,by omega⟩ (Ok.some (Ok.some ?_)));exact⟨Zy _ (by decide),Wf _ (by decide)⟩
  unfold qk6 zq3;refine Ok.bind (Ok.guard ⟨h.1,I.1,by omega,by omega⟩ (Ok.some (Ok.some ?_)));exact⟨Zy _ (by decide),Wf _ (by decide)⟩
 unfold q9b;exact k3n (fun _=>G _) (fun _=>G _)
theorem jw6{l:List a8}(Z:l.length<1000000):Ok (qd5 l) (fun _=>True):=by
 unfold qd5;refine k3r (l:=l) (by omega) (fun _ s=>Lo s) 0 (fun rec i hi s _ I T=>?_) (fun rec s I=>?_) ⟨by simp,by simp⟩ (Xe _)
 . unfold qt9;simp only;refine k3n (fun _=>Ok.bind (k3o hi (k3m (jn1 _ _ I) fun w W=>?_))) (fun G=>by simp only[decide_eq_false_iff_not]at G;omega);rw[wrap_i64 ((i:Int)+1) (by omega)];exact T _ W
 unfold qt9;simp only;exact k3n (fun G=>by simp only[decide_eq_true_eq]at G;omega) (fun _=>T1 _)
theorem j8e(w:aT)(k:Int):Ok (q2v w k) (fun r=>r.K=k):=by
 unfold q2v qd4;exact k3n (fun _=>Ok.some rfl) (fun _=>Ok.bind (Ok.some (Ok.some rfl)))
def z6x(l:List a8)(k:Int):aP:=((qd5 l).bind fun w=>q2v w k).getD ⟨0,0⟩
theorem z4e{l:List a8}(T:l.length<1000000)(k:Int):∃w,qd5 l=some w/\q2v w k=some (z6x l k)/\(z6x l k).K=k:=by
 obtain⟨w,G,_⟩:=jw6 T;obtain⟨r,I,W⟩:=j8e w k;have:z6x l k=r:=by unfold z6x;rw[G];simp[I]
 exact⟨w,G,by rw[this];exact I,by rw[this];exact W⟩
def dp(l:List a8):Int:=l.foldl (fun n x=>IntKind.i64.wrap (n+x.N)) 0
def bY(kind k:Int)(la lb:List a8):aP:=if kind=7 then⟨k,dp la⟩else if kind=6 then z6x la k else z6x lb k
def key(k:Int)(l:List a8):List a8:=l.filter (fun x=>x.Rec.K==k)
structure Gr(kind:Int)(a b O:List a8):Prop where
 inc:O.Pairwise (fun p q=>p.Rec.K<q.Rec.K)
 row:∀o∈O,o.N=1/\o.Rec=bY kind o.Rec.K (key o.Rec.K a) (key o.Rec.K b)/\key o.Rec.K a≠[]
 all:∀x∈a,∃o∈O,o.Rec.K=x.Rec.K
 small:tot O<=(a.length:Int)
theorem jx5(kind k:Int){la lb:List a8}(G:la.length<1000000)(I:lb.length<1000000):(bY kind k la lb).K=k:=by
 unfold bY
 split
 . rfl
 split
 . exact (z4e G k).choose_spec.2.2
 exact (z4e I k).choose_spec.2.2
theorem scan{a:List a8}(hl:a.length<1000000){R:Type}{Q:R->Prop}{f:Nat}(Z:f<a.length){J:Int->Option R}{body:(Int->Option R)->Int->Option R}
 (hb:∀rec t,body rec t=(if (decide (t<(Yc a:Int)))=true then q9 (idx a t) (fun (x:a8)=>q9 (idx a f) (fun (y:a8)=>(if (x.Rec.K==y.Rec.K)=true then rec (IntKind.i64.wrap (t+1))else J t)))else J t))
 (h:∀t:Nat,f<t->t<=a.length->(∀q (_:q<a.length),f<=q->q<t->a[q].Rec.K=a[f].Rec.K)->(∀_:t<a.length,a[t].Rec.K≠a[f].Rec.K)->Ok (J (t:Int)) Q):Ok (d9 body rounds (f:Int)) Q:=by
 refine k3p (fun s:Int=>∃t:Nat,s=(t:Int)/\f<=t/\t<=a.length/\∀q (_:q<a.length),f<=q->q<t->a[q].Rec.K=a[f].Rec.K) (fun s=>a.length-s.toNat) ?_ ⟨f,rfl,Yb _,by omega,fun q _ h1 I=>by omega⟩ (by simp only[rounds];omega);rintro rec _ ⟨t,rfl,h1,I,T⟩ hr;rw[hb];refine k3n (fun W=>?_) (fun W=>?_)
 .
  simp only[decide_eq_true_eq]at W;have ht:t<a.length:=by omega
  refine Ok.bind (k3o ht (Ok.bind (k3o Z (k3n (fun G=>?_) (fun G=>?_)))))
  .
   simp only[beq_iff_eq]at G;rw[wrap_i64 ((t:Int)+1) (by omega)];refine hr _ ⟨t+1,rfl,by omega,by omega,fun q hq g1 g2=>?_⟩ (by omega);rcases Yx q t with g|g
   . exact T q hq g1 g
   have:q=t:=by omega
   subst this;exact G
  simp only[beq_eq_false_iff_ne,ne_eq]at G;refine h t ?_ I T (fun _=>G);rcases Yx f t with g|g
  . exact g
  have:f=t:=by omega
  subst this;exact absurd rfl G
 simp only[decide_eq_false_iff_not]at W;exact h t (by omega) I T (fun a6=>by omega)
theorem z0x(k:Int)(a b:List a8):key k (a++b)=key k a++key k b:=by simp[key]
theorem bJ{k:Int}{l:List a8}(h:∀x∈l,x.Rec.K≠k):key k l=[]:=List.filter_eq_nil_iff.2 fun x G=>by simpa using h x G
theorem zs4{k:Int}{l:List a8}(h:∀x∈l,x.Rec.K=k):key k l=l:=Y6.2 fun x G=>by simpa using h x G
theorem z8a(k:Int)(l:List a8):(key k l).length<=l.length:=Xt _ _
theorem jk8{a:List a8}(h:a.Pairwise (fun p q=>lt p.Rec q.Rec)):a.Pairwise (fun p q=>p.Rec.K<=q.Rec.K):=h.imp fun {p q} h=>by unfold lt at h;omega
theorem j1u{a:List a8}(h:a.Pairwise (fun p q=>p.Rec.K<=q.Rec.K)){f t:Nat}(I:f<t)(ht:t<=a.length)(Z:f<a.length)(hb:∀x∈a.take f,x.Rec.K<a[f].Rec.K)
 (h1:∀q (_:q<a.length),f<=q->q<t->a[q].Rec.K=a[f].Rec.K)(h2:∀_:t<a.length,a[t].Rec.K≠a[f].Rec.K):key a[f].Rec.K a=(a.take t).drop f/\∀x∈a.drop t,a[f].Rec.K<x.Rec.K:=by
 have hp:=X8.1 h;have hd:∀x∈a.drop t,a[f].Rec.K<x.Rec.K:=fun x G=>by
  obtain⟨j,T,rfl⟩:=Xy.1 G;rw[Yz]at T;rw[Zq];have e1:=h2 (by omega);have e2:=hp f t Z (by omega) I;rcases Nat.eq_zero_or_pos j with W|W
  . subst W;simp only[Nat.add_zero];omega
  have:=hp t (t+j) (by omega) (by omega) (by omega);omega
 refine⟨?_,hd⟩;have e:a=a.take f++(a.take t).drop f++a.drop t:=by
  conv=>lhs;rw[<-Xm t a,<-Xm f (a.take t),Yq,Yj (by omega)]
 generalize hk:a[f].Rec.K=k at*
 conv=>lhs;rw[e]
 rw[z0x,z0x,bJ (l:=a.take f) (fun x G=>by have:=hb x G;omega),bJ (l:=a.drop t) (fun x G=>by have:=hd x G;omega),zs4 (l:=(a.take t).drop f),Zv,X3];intro x G;obtain⟨j,T,rfl⟩:=Xy.1 G;rw[Yz,Xd]at T;rw[Zq,Yl];exact h1 (f+j) (by omega) (by omega) (by omega)
theorem j6z{l:List a8}{i:Nat}(h:i<l.length):dp (l.take (i+1))=IntKind.i64.wrap (dp (l.take i)+l[i].N):=by
 unfold dp;rw[Xa h,List.foldl_append];rfl
theorem j6w{kind:Int}{a b:List a8}(ha:a.Pairwise (fun p q=>lt p.Rec q.Rec))(c7:a.length<=60000)(c8:b.length<=60000):
 Ok (q4d ⟨[],0⟩ kind a b) (fun v=>v.1=true/\Gr kind a b v.2.out/\Mk v.2):=by
 have hK:=jk8 ha;unfold q4d;refine k3p (fun s=>∃f:Nat,s.1=(f:Int)/\f<=a.length/\s.2.2.Pairwise (fun p q=>p.Rec.K<q.Rec.K)/\(∀o∈s.2.2,o.N=1/\o.Rec=bY kind o.Rec.K (key o.Rec.K a) (key o.Rec.K b)/\key o.Rec.K a≠[])/\(∀x∈a.take f,∃o∈s.2.2,o.Rec.K=x.Rec.K)/\
  (∀o∈s.2.2,∃x∈a.take f,x.Rec.K=o.Rec.K)/\(∀x∈a.take f,∀y∈a.drop f,x.Rec.K<y.Rec.K)/\Mk ⟨s.2.2,s.2.1⟩/\s.2.1<=(f:Int)) (fun s=>a.length-s.1.toNat) ?_ ⟨0,rfl,Xe _,by simp,by simp,by simp,by simp,by simp,⟨rfl,by simp[Pos],by simp⟩,by simp⟩ (by simp only[rounds];omega)
 rintro rec ⟨_,many,out⟩ ⟨f,rfl,hf,h1,h2,h3,h4,h5,h6,h7⟩ hr;simp only at h1 h2 h3 h4 h6 h7;unfold q1u;simp only;refine k3n (fun hc=>?_) (fun hc=>?_)
 rotate_left
 .
  simp only[decide_eq_false_iff_not]at hc;have:f=a.length:=by omega
  rw[this,Xf]at h3;have b6:=h6.many;simp only at b6;exact Ok.some ⟨rfl,⟨h1,h2,h3,by simp only;omega⟩,h6⟩
 simp only[decide_eq_true_eq]at hc;have Z:f<a.length:=by omega
 have aq:a[f]∈a.drop f:=by rw[Xw Z];exact Yf
 refine scan (a:=a) (by omega) Z (J:=q2n kind a b (f:Int) many out rec) (fun c4 t=>rfl) fun t g1 g2 g3 g4=>?_;obtain⟨an,bi⟩:=j1u hK g1 g2 Z (fun x G=>h5 x G _ aq) g3 g4;have ar:key a[f].Rec.K a≠[]:=fun e=>by
  have:a[f]∈key a[f].Rec.K a:=Xs.2 ⟨Xj Z,by simp⟩;rw[e]at this;cases this
 have c9:=z8a a[f].Rec.K a;have c5:=z8a a[f].Rec.K b;have cb:((a.take t).drop f).length<=60000:=by rw[<-an];omega
 have I:Ok (q9 (q1b (⟨out,many⟩:ax) (bY kind a[f].Rec.K (key a[f].Rec.K a) (key a[f].Rec.K b)) 1) (fun (v:Bool×ax)=>(if (!v.1)=true then some (false,v.2)else rec ((t:Int),v.2.many,v.2.out)))) (fun v=>v.1=true/\Gr kind a b v.2.out/\Mk v.2):=by
  have W:=jx5 kind a[f].Rec.K (la:=key a[f].Rec.K a) (lb:=key a[f].Rec.K b) (by omega) (by omega)
  generalize bs:bY kind a[f].Rec.K (key a[f].Rec.K a) (key a[f].Rec.K b)=rr at W⊢
  have bv:a[f]∈a.take t:=Xy.2 ⟨f,by rw[Xd];omega,by simp⟩;have ao:a.take t=a.take f++(a.take t).drop f:=by
   conv=>lhs;rw[<-Xm f (a.take t),Yq,Yj (by omega)]
  have b1:∀x∈(a.take t).drop f,x.Rec.K=a[f].Rec.K:=fun x G=>by
   rw[<-an]at G
   simpa using (Xs.1 G).2
  have a6:=h6.many;simp only at a6;refine k3m (zq1 (r:=rr) (n:=1) h6 (by omega) (by omega)) fun v hv=>?_;rcases hv with⟨v1,v2,v3⟩|⟨v1,v2⟩
  .
   rw[v1];simp only at v2;have c0:=v3.many;rw[v2,q6d,<-a6]at c0;have e1:tot [(⟨rr,1⟩:a8)]=1:=rfl;refine k3n (fun G=>by cases G) (fun _=>hr _ ⟨t,rfl,g2,?_,?_,?_,?_,?_,v3,by simp only;omega⟩ (by simp only;omega))
   . simp only[v2];refine Yn.2 ⟨h1,by simp,fun o T q hq=>?_⟩;rw[Xk]at hq;rw[hq];obtain⟨x,G,e⟩:=h4 o T;have:=h5 x G _ aq;simp only[W];omega
   .
    simp only[v2];intro o T;rcases Xl.1 T with T|T
    . exact h2 o T
    rw[Xk]at T;rw[T];refine⟨rfl,?_,?_⟩
    . simp only[W];exact bs.symm
    simp only[W];exact ar
   .
    simp only[v2];intro x G;rw[ao]at G;rcases Xl.1 G with G|G
    . obtain⟨o,T,e⟩:=h3 x G;exact⟨o,Yd _ T,e⟩
    exact⟨⟨rr,1⟩,by simp,by simp only[W];exact (b1 x G).symm⟩
   .
    simp only[v2];intro o T;rcases Xl.1 T with T|T
    . obtain⟨x,G,e⟩:=h4 o T;exact⟨x,by rw[ao];exact Yd _ G,e⟩
    rw[Xk]at T;exact⟨a[f],bv,by rw[T];exact W.symm⟩
   intro x G y hy;have c1:y∈a.drop f:=by
    have:a.drop t=(a.drop f).drop (t-f):=by rw[Zm];congr 1;omega
    rw[this]at hy;exact Yo hy
   rw[ao]at G;rcases Xl.1 G with G|G
   . exact h5 x G y c1
   rw[b1 x G];exact bi y hy
  have e1:tot [(⟨rr,1⟩:a8)]=1:=rfl;simp only at v2;omega
 unfold q2n;refine Ok.bind (k3o Z (Ok.guard (by omega) ?_));rw[Xg,Xg,<-an];refine k3n (fun aj=>?_) (fun aj=>k3n (fun ak=>?_) (fun ak=>?_))
 .
  simp only[beq_iff_eq]at aj;have er:bY kind a[f].Rec.K (key a[f].Rec.K a) (key a[f].Rec.K b)=⟨a[f].Rec.K,dp (key a[f].Rec.K a)⟩:=by unfold bY;rw[if_pos aj]
  rw[er]at I;refine k3p (fun s=>∃j:Nat,s.2=(j:Int)/\j<=(key a[f].Rec.K a).length/\s.1=dp ((key a[f].Rec.K a).take j)) (fun s=>(key a[f].Rec.K a).length-s.2.toNat) ?_ ⟨0,rfl,Xe _,rfl⟩ (by simp only[rounds];omega);rintro c6 ⟨n,_⟩ ⟨j,rfl,hj,hn⟩ c2;simp only at hn;unfold q86;rw[Xg,Xg,<-an];simp only;refine k3n (fun hc=>?_) (fun hc=>?_)
  .
   simp only[decide_eq_true_eq]at hc;have b2:j<(key a[f].Rec.K a).length:=by omega
   refine Ok.bind (k3o b2 ?_);rw[wrap_i64 ((j:Int)+1) (by omega)];exact c2 _ ⟨j+1,rfl,by omega,by rw[j6z b2,hn]⟩ (by simp only;omega)
  simp only[decide_eq_false_iff_not]at hc;have:j=(key a[f].Rec.K a).length:=by omega
  rw[this,Xf]at hn;rw[hn];unfold q5b;exact I
 .
  simp only[beq_iff_eq]at ak;have b3:¬kind=7:=by omega
  obtain⟨w,e1,e2,_⟩:=z4e (l:=key a[f].Rec.K a) (by omega) a[f].Rec.K;have er:bY kind a[f].Rec.K (key a[f].Rec.K a) (key a[f].Rec.K b)=z6x (key a[f].Rec.K a) a[f].Rec.K:=by unfold bY;rw[if_neg b3,if_pos ak]
  rw[er]at I;exact Ok.bind (k3q e1 (Ok.bind (k3q e2 I)))
 simp only[beq_eq_false_iff_ne,ne_eq]at ak aj;obtain⟨w,e1,e2,_⟩:=z4e (l:=key a[f].Rec.K b) (by omega) a[f].Rec.K;have er:bY kind a[f].Rec.K (key a[f].Rec.K a) (key a[f].Rec.K b)=z6x (key a[f].Rec.K b) a[f].Rec.K:=by unfold bY;rw[if_neg aj,if_neg ak]
 rw[er]at I;unfold q5d;refine k3r (l:=b) (by omega) (fun i s=>s=key a[f].Rec.K (b.take i)) 0 (fun b4 i hi s _ hs b5=>?_) (fun b4 s hs=>?_) (by simp[key]) (Xe _)
 .
  have c3:=z8a a[f].Rec.K (b.take i);rw[<-hs,Xd]at c3;unfold q5e;simp only;refine k3n (fun _=>Ok.bind (k3o hi ?_)) (fun G=>by simp only[decide_eq_false_iff_not]at G;omega);rw[wrap_i64 ((i:Int)+1) (by omega)];refine k3n (fun G=>Ok.guard (by simp;omega) (b5 _ ?_)) (fun G=>b5 _ ?_)
  . rw[Xa hi,z0x,hs,zs4 (l:=[b[i]]) (by simpa using G)]
  rw[Xa hi,z0x,hs,bJ (l:=[b[i]]) (by simpa using G),X3]
 rw[Xf]at hs;subst hs;unfold q5e;simp only;refine k3n (fun G=>by simp only[decide_eq_true_eq]at G;omega) (fun _=>?_);unfold q5c;exact Ok.bind (k3q e1 (Ok.bind (k3q e2 I)))
end OP
end
section
open Go Go.RowKit BG
namespace OP
def z3o(k a b:Int):aP:=(q7f k a b).getD ⟨0,0⟩
theorem j18(k a b:Int):q7f k a b=some (z3o k a b)/\(z3o k a b).K=k:=by
 obtain⟨r,h,G⟩:=j4n k a b;have:z3o k a b=r:=by unfold z3o;rw[h];rfl
 exact⟨by rw[this];exact h,by rw[this];exact G⟩
def bU(x:a8)(b:List a8):List a8:=(key x.Rec.K b).map fun y=>⟨z3o x.Rec.K x.Rec.V y.Rec.V,x.N*y.N⟩
def jn(a b:List a8):List a8:=a.flatMap (bU · b)
theorem z7h(x:a8)(a b:List a8):bU x (a++b)=bU x a++bU x b:=by simp[bU,z0x]
theorem z0c(a c b:List a8):jn (a++c) b=jn a b++jn c b:=by simp[jn]
theorem j96(x:a8)(b:List a8):jn [x] b=bU x b:=by simp[jn]
theorem j1v{a b:List a8}(I:Pos a)(hb:Pos b):Pos (jn a b):=by
 intro z G;obtain⟨x,T,G⟩:=Zb.1 G;obtain⟨y,W,rfl⟩:=Ya.1 G;exact Int.mul_pos (I x T) (hb y (Xs.1 W).1)
theorem jq4{O acc R:List a8}{z:a8}(hp:Pos O)(h:O=acc++[z]++R)(G:65536<tot acc+z.N):65536<tot O:=by
 rw[h]at hp⊢;have:=hp.right.b8;simp only[q6d];have e:tot [z]=z.N:=by simp[tot]
 omega
theorem jr4{a b:List a8}(ha:a.Pairwise (fun p q=>lt p.Rec q.Rec))(pa:Pos a)(pb:Pos b)(cp:a.length<=60000)(d0:b.length<=60000):
 Ok (q63 ⟨[],0⟩ a b) (fun v=>(v.1=true/\v.2.out=jn a b/\Mk v.2)\/(v.1=false/\65536<tot (jn a b))):=by
 have hK:=jk8 ha;have bi:=j1v pa pb;unfold q63;refine k3p (fun s=>∃f:Nat,s.1=(f:Int)/\f<=a.length/\s.2.2=jn (a.take f) b/\(∀x∈a.take f,∀y∈a.drop f,x.Rec.K<y.Rec.K)/\Mk ⟨s.2.2,s.2.1⟩) (fun s=>a.length-s.1.toNat) ?_ ⟨0,rfl,Xe _,by simp[jn],by simp,⟨rfl,by simp[Pos],by simp⟩⟩ (by simp only[rounds];omega);rintro rec ⟨_,many,out⟩ ⟨f,rfl,hf,h1,h5,h6⟩ hr;simp only at h1 h6;unfold q6y;simp only;refine k3n (fun hc=>?_) (fun hc=>?_)
 rotate_left
 .
  simp only[decide_eq_false_iff_not]at hc;have:f=a.length:=by omega
  rw[this,Xf]at h1;exact Ok.some (.inl ⟨rfl,h1,h6⟩)
 simp only[decide_eq_true_eq]at hc;have Z:f<a.length:=by omega
 have bs:a[f]∈a.drop f:=by rw[Xw Z];exact Yf
 refine scan (a:=a) (by omega) Z (J:=q39 a b (f:Int) many out rec) (fun cl t=>rfl) fun t g1 g2 g3 g4=>?_;obtain⟨bv,c0⟩:=j1u hK g1 g2 Z (fun x G=>h5 x G _ bs) g3 g4;unfold q39;refine Ok.bind (k3o Z (Ok.guard (by omega) ?_));have a6:a.take t=a.take f++(a.take t).drop f:=by
  conv=>lhs;rw[<-Xm f (a.take t),Yq,Yj (by omega)]
 have c1:a=a.take f++(a.take t).drop f++a.drop t:=by
  conv=>lhs;rw[<-Xm t a]
  rw[<-a6]
 have aq:∀x∈(a.take t).drop f,x.Rec.K=a[f].Rec.K:=fun x G=>by
  rw[<-bv]at G
  simpa using (Xs.1 G).2
 have c2:∀x∈(a.take t).drop f,x∈a:=fun x G=>X4 (Yo G);have d1:((a.take t).drop f).length<=60000:=by rw[Yz,Xd];omega
 generalize hP:(a.take t).drop f=P at*
 have c3:jn a b=jn (a.take f) b++jn P b++jn (a.drop t) b:=by rw[<-z0c,<-z0c,<-c1]
 generalize aj:a[f].Rec.K=kk at*
 refine k3r (l:=P) (by omega) (fun i (s:Int×List a8)=>s.2=jn (a.take f) b++jn (P.take i) b/\Mk ⟨s.2,s.1⟩) 0 (fun ar i hi s _ hs c4=>?_) (fun ar s hs=>?_) ⟨by simp only[Z5,h1];simp[jn],h6⟩ (Xe _)
 rotate_left
 .
  obtain⟨ak,b1⟩:=s;simp only at hs;rw[Xf]at hs;unfold q6x;rw[Xg,Xg,hP];simp only;refine k3n (fun G=>by simp only[decide_eq_true_eq]at G;omega) (fun _=>hr _ ⟨t,rfl,g2,?_,?_,hs.2⟩ (by simp only;omega))
  . simp only;rw[hs.1,a6,z0c]
  intro x G y hy;have c5:y∈a.drop f:=by
   have:a.drop t=(a.drop f).drop (t-f):=by rw[Zm];congr 1;omega
   rw[this]at hy;exact Yo hy
  rw[a6]at G;rcases Xl.1 G with G|G
  . exact h5 x G y c5
  rw[aq x G];exact c0 y hy
 obtain⟨ak,b1⟩:=s;simp only at hs;unfold q6x;rw[Xg,Xg,hP];simp only;refine k3n (fun _=>Ok.bind (k3o hi ?_)) (fun G=>by simp only[decide_eq_false_iff_not]at G;omega);have c6:=pa _ (c2 _ (Xj hi));have an:=aq _ (Xj hi);have c7:jn P b=jn (P.take i) b++bU P[i] b++jn (P.drop (i+1)) b:=by
  rw[<-j96,<-z0c,<-z0c,<-Xa hi,Xm]
 refine k3r (l:=b) (by omega) (fun j (s:Int×List a8)=>s.2=jn (a.take f) b++jn (P.take i) b++bU P[i] (b.take j)/\Mk ⟨s.2,s.1⟩) 0 (fun b2 j hj s _ I b3=>?_) (fun b2 s I=>?_) ⟨by simp only[Z5];rw[hs.1];simp[bU,key],hs.2⟩ (Xe _)
 .
  obtain⟨ao,T⟩:=s;simp only at I;unfold q6w;simp only;refine k3n (fun _=>Ok.bind (k3o hj ?_)) (fun G=>by simp only[decide_eq_false_iff_not]at G;omega);rw[wrap_i64 ((j:Int)+1) (by omega)];have b4:bU P[i] (b.take (j+1))=bU P[i] (b.take j)++bU P[i] [b[j]]:=by rw[Xa hj,z7h]
  have c8:=pb _ (Xj hj);refine k3n (fun G=>b3 _ ⟨?_,I.2⟩) (fun G=>?_)
  .
   have:bU P[i] [b[j]]=[]:=by
    unfold bU;rw[bJ (by simpa [an,aj]using G)];rfl
   rw[b4,this,X3];exact I.1
  have c9:b[j].Rec.K=kk:=by simpa [aj]using G
  have b5:bU P[i] [b[j]]=[⟨z3o kk P[i].Rec.V b[j].Rec.V,P[i].N*b[j].N⟩]:=by
   unfold bU;rw[zs4 (l:=[b[j]]) (by simpa [an]using c9),Y4,Zt,an]
  have cb:bU P[i] b=bU P[i] (b.take j)++[⟨z3o kk P[i].Rec.V b[j].Rec.V,P[i].N*b[j].N⟩]++bU P[i] (b.drop (j+1)):=by
   rw[<-b5,<-z7h,<-z7h,<-Xa hj,Xm]
  have b6:65536<tot T+P[i].N*b[j].N->65536<tot (jn a b):=fun h=>by
   refine jq4 (acc:=T) (z:=⟨z3o kk P[i].Rec.V b[j].Rec.V,P[i].N*b[j].N⟩) (R:=bU P[i] (b.drop (j+1))++jn (P.drop (i+1)) b++jn (a.drop t) b) bi ?_ h;rw[I.1,c3,c7,cb];simp only[X5]
  have cc:=I.2.pos.b8;simp only at cc;refine k3n (fun W=>Ok.some (.inr ⟨rfl,b6 ?_⟩)) (fun W=>?_)
  .
   simp only[Xu,decide_eq_true_eq]at W;have m1:P[i].N<=P[i].N*b[j].N:=by
    have:=Zj (show 1<=b[j].N by omega) (show 0<=P[i].N by omega);omega
   have m2:b[j].N<=P[i].N*b[j].N:=by
    have:=Int.mul_le_mul_of_nonneg_right (show 1<=P[i].N by omega) (show 0<=b[j].N by omega);omega
   omega
  simp only[Xr,decide_eq_false_iff_not]at W;have cd:0<P[i].N*b[j].N:=Int.mul_pos c6 c8;have d2:P[i].N*b[j].N<=4294967296:=by
   have m1:=Zj (show b[j].N<=65536 by omega) (show 0<=P[i].N by omega);omega
  rw[wrap_i64 (P[i].N*b[j].N) (by omega),aj];refine Ok.bind (k3q (j18 _ _ _).1 (k3m (zq1 I.2 cd (by omega)) fun v hv=>?_));rcases hv with⟨v1,v2,v3⟩|⟨v1,v2⟩
  . rw[v1];refine k3n (fun G=>by cases G) (fun _=>b3 _ ⟨?_,v3⟩);simp only at v2⊢;rw[v2,I.1,b4,b5];simp only[X5]
  rw[v1];refine k3n (fun _=>Ok.some (.inr ⟨rfl,b6 ?_⟩)) (fun G=>by cases G);have e:tot [(⟨z3o kk P[i].Rec.V b[j].Rec.V,P[i].N*b[j].N⟩:a8)]=P[i].N*b[j].N:=by simp[tot]
  simp only at v2;omega
 obtain⟨ao,T⟩:=s;simp only at I;rw[Xf]at I;unfold q6w;simp only;refine k3n (fun G=>by simp only[decide_eq_true_eq]at G;omega) (fun _=>?_);rw[wrap_i64 ((i:Int)+1) (by omega)];refine c4 _ ⟨?_,I.2⟩;simp only;rw[I.1,Xa hi,z0c,j96,X5]
end OP
end
section
open Go Go.RowKit BG
namespace OP
def j6m(k:Int):Bool:=(qf2 k).getD false
theorem jr1(k:Int):qf2 k=some (j6m k):=by
 have h:Ok (qf2 k) (fun _=>True):=by
  have G:∀b,Ok (q28 b) (fun _=>True):=fun b=>by
   unfold q28;exact k3n (fun _=>T1 _) (fun _=>T1 _)
  unfold qf2
  repeat' (first|exact G _|refine k3n (fun _=>?_) (fun _=>?_))
 obtain⟨b,hb,_⟩:=h;rw[j6m,hb];rfl
noncomputable def j5x(n:Nat)(aY:List (List a8)):List a8:=match aY[n]? with
 |some l=>there l
 |none=>[]
theorem cC{aY:List (List a8)}(n:Nat)(I:∀l∈aY,l.length<1000000):q6a (n:Int) aY=some (j5x n aY):=by
 refine Ok.eq ?_;unfold q6a;refine k3n (fun G=>Ok.some ?_) (fun G=>?_)
 . simp only[decide_eq_true_eq]at G;unfold j5x;rw[Z4 (by omega)]
 simp only[decide_eq_false_iff_not]at G;have h:n<aY.length:=by omega
 refine Ok.bind (k3o h (Ok.bind (k3q (j2y (I _ (Xj h))) (Ok.some ?_))));unfold j5x;rw[Xx h]
def cx(l:List a8):List a8:=l.map fun y=>⟨y.Rec,1⟩
def Out(x:aH)(A B O:List a8):Prop:=
 if x.Kind=5 then O=lin x A++lin x B
 else if j6m x.Kind=true then O=lin x A
 else if x.Kind=8 then O=cx A
 else if x.Kind=9 then O=jn A B
 else if x.Kind=7\/x.Kind=6\/x.Kind=14 then Gr x.Kind A B O
 else O=[]
def Fin(O:List a8)(v:List a8×Bool):Prop:=(v.2=true/\bV [] v.1 O/\tot O<=65536)\/(v.2=false/\v.1=[]/\65536<tot O)
theorem z4o{m:ax}(h:Mk m):Ok (q34 true m.many m.out) (fun v=>Fin m.out v):=by
 unfold q34;refine k3n (fun G=>by cases G) (fun _=>k3m (jt2 h) fun v I=>Ok.some (.inl ⟨rfl,I,?_⟩));have:=h.many;have:=h.le;omega
theorem z9n{O:List a8}(b:Int)(a:List a8)(h:65536<tot O):Ok (q34 false b a) (fun v=>Fin O v):=by
 unfold q34;exact k3n (fun _=>Ok.some (.inr ⟨rfl,rfl,h⟩)) (fun G=>by cases G)
theorem j3l(a b:List a8):cx (a++b)=cx a++cx b:=by simp[cx]
theorem je7(a:List a8):Pos (cx a):=fun x G=>by
 obtain⟨y,_,rfl⟩:=Ya.1 G;exact Int.one_pos
theorem Mk0:Mk ⟨[],0⟩:=⟨rfl,by simp[Pos],by simp⟩
theorem Gr.pos{k:Int}{A B O:List a8}(h:Gr k A B O):Pos O:=fun x G=>by have:=(h.row x G).1;omega
structure Good(A:List a8):Prop where
 rt:Rt A
 pos:Pos A
 len:A.length<=60000
theorem Good.big{A:List a8}(h:Good A):∀y∈A,y.N<=1099511627776:=fun y G=>by have:=(h.rt.num y G).2;omega
theorem bH{x:aH}{aY:List (List a8)}{A B:List a8}(hA:q6a 0 aY=some A)(hB:q6a 1 aY=some B)(T:Good A)(gB:Good B):
 Ok (q9o x aY) (fun v=>∃O,Out x A B O/\Pos O/\Fin O v):=by
 unfold q9o;refine Ok.bind (k3q hA (Ok.bind (k3q hB ?_)));have lA:=T.len;have lB:=gB.len;refine k3n (fun I=>?_) (fun I=>Ok.bind (k3q (jr1 _) (k3n (fun hl=>?_) (fun hl=>k3n (fun Z=>?_) (fun Z=>k3n (fun h9=>?_) (fun h9=>k3n (fun hg=>?_) (fun hg=>?_)))))))
 .
  simp only[beq_iff_eq]at I;have W:Out x A B (lin x A++lin x B):=by unfold Out;rw[if_pos I]
  have pO:Pos (lin x A++lin x B):=(z81 T.pos).append (z81 gB.pos);have t2:=(z81 (x:=x) gB.pos).b8;refine k3m (zb1 (x:=x) Mk0 T.pos T.big (by omega)) fun v hv=>?_;rcases hv with⟨v1,v2,v3⟩|⟨v1,v2⟩
  .
   rw[v1];refine k3n (fun _=>k3m (zb1 (x:=x) v3 gB.pos gB.big (by omega)) fun w hw=>?_) (fun hx=>by cases hx);rcases hw with⟨w1,w2,w3⟩|⟨w1,w2⟩
   . rw[w1];refine (z4o w3).mono fun u G=>⟨_,W,pO,?_⟩;rw[v2]at w2;rw[w2]at G;exact G
   rw[w1];refine (z9n (O:=lin x A++lin x B) _ _ ?_).mono fun u G=>⟨_,W,pO,G⟩;rw[v2]at w2;simp only[Zv]at w2;rw[q6d];exact w2
  rw[v1];refine k3n (fun hx=>by cases hx) (fun _=>(z9n (O:=lin x A++lin x B) _ _ ?_).mono fun u G=>⟨_,W,pO,G⟩);simp only[q6d]at*;have:tot ([]:List a8)=0:=rfl;omega
 .
  simp only[beq_eq_false_iff_ne,ne_eq]at I;have W:Out x A B (lin x A):=by unfold Out;rw[if_neg I,if_pos hl]
  have pO:=z81 (x:=x) T.pos;refine k3m (zb1 (x:=x) Mk0 T.pos T.big (by omega)) fun v hv=>?_;rcases hv with⟨v1,v2,v3⟩|⟨v1,v2⟩
  . rw[v1];refine (z4o v3).mono fun u G=>⟨_,W,pO,?_⟩;rw[v2]at G;exact G
  rw[v1];refine (z9n (O:=lin x A) _ _ ?_).mono fun u G=>⟨_,W,pO,G⟩;have:tot ([]:List a8)=0:=rfl;simp only at v2;omega
 .
  simp only[beq_eq_false_iff_ne,ne_eq]at I;simp only[beq_iff_eq]at Z;have W:Out x A B (cx A):=by unfold Out;rw[if_neg I,if_neg (by rw[hl];simp),if_pos Z]
  refine k3p (fun s=>∃i:Nat,s.2.1=(i:Int)/\i<=A.length/\s.1=true/\s.2.2.2=cx (A.take i)/\Mk ⟨s.2.2.2,s.2.2.1⟩/\s.2.2.1=(i:Int)) (fun s=>A.length-s.2.1.toNat) ?_ ⟨0,rfl,Xe _,rfl,by simp[cx],Mk0,rfl⟩ (by simp only[rounds];omega);rintro rec ⟨ok,_,many,out⟩ ⟨i,rfl,hi,h1,h2,h3,h4⟩ hr;simp only at h1 h2 h3 h4;unfold z1v;simp only;refine k3n (fun hc=>?_) (fun hc=>?_)
  .
   simp only[decide_eq_true_eq]at hc;have aj:i<A.length:=by omega
   refine Ok.bind (k3o aj (k3n (fun _=>k3m (zq1 (r:=A[i].Rec) (n:=1) h3 (by omega) (by omega)) fun v hv=>?_) (fun hx=>by rw[h1]at hx;cases hx)));rw[wrap_i64 ((i:Int)+1) (by omega)];have e1:tot [(⟨A[i].Rec,1⟩:a8)]=1:=rfl;have hm:=h3.many;simp only at hm;rcases hv with⟨v1,v2,v3⟩|⟨v1,v2⟩
   . have ak:=v3.many;simp only at v2;rw[v2,q6d,<-hm,e1]at ak;refine hr _ ⟨i+1,rfl,by omega,v1,?_,v3,by simp only;omega⟩ (by simp only;omega);simp only;rw[v2,h2,Xa aj,j3l];rfl
   simp only at v2;omega
  simp only[decide_eq_false_iff_not]at hc;have:i=A.length:=by omega
  rw[this,Xf]at h2;rw[h1];refine (z4o h3).mono fun u G=>⟨_,W,je7 A,?_⟩;simp only at G;rw[h2]at G;exact G
 .
  simp only[beq_eq_false_iff_ne,ne_eq]at I Z;simp only[beq_iff_eq]at h9;have W:Out x A B (jn A B):=by unfold Out;rw[if_neg I,if_neg (by rw[hl];simp),if_neg Z,if_pos h9]
  refine k3m (jr4 T.rt.inc T.pos gB.pos lA lB) fun v hv=>?_;rcases hv with⟨v1,v2,v3⟩|⟨v1,v2⟩
  . rw[v1];refine (z4o v3).mono fun u G=>⟨_,W,j1v T.pos gB.pos,?_⟩;rw[v2]at G;exact G
  rw[v1];exact (z9n (O:=jn A B) _ _ v2).mono fun u G=>⟨_,W,j1v T.pos gB.pos,G⟩
 .
  simp only[beq_eq_false_iff_ne,ne_eq]at I Z h9;have a6:x.Kind=7\/x.Kind=6\/x.Kind=14:=by simpa [or_assoc]using hg
  refine k3m (j6w (kind:=x.Kind) (b:=B) T.rt.inc lA lB) fun v ⟨v1,v2,v3⟩=>?_;rw[v1];exact (z4o v3).mono fun u G=>⟨_,by unfold Out;rw[if_neg I,if_neg (by rw[hl];simp),if_neg Z,if_neg h9,if_pos a6];exact v2,v2.pos,G⟩
 simp only[beq_eq_false_iff_ne,ne_eq]at I Z h9;have a6:¬(x.Kind=7\/x.Kind=6\/x.Kind=14):=by
  intro h;have:((x.Kind==7||x.Kind==6)||x.Kind==14)=true:=by simpa [or_assoc]using h
  rw[this]at hg;cases hg
 exact (z4o Mk0).mono fun u G=>⟨_,by unfold Out;rw[if_neg I,if_neg (by rw[hl];simp),if_neg Z,if_neg h9,if_neg a6],by simp[Pos],G⟩
theorem bV.pos{c O:List a8}(h:bV [] c O)(hp:Pos O):Pos c:=fun x G=>by
 have Z:=qy7 h.rt.inc G;have I:=h.cnt x.Rec;have h3:=(h.rt.num x G).1;have h4:0<=cnt O x.Rec:=by
  have:∀l:List a8,Pos l->0<=cnt l x.Rec:=fun l=>by
   induction l with
   |nil=>intro _;simp[cnt]
   |cons y l T=>
    intro hp;have:=hp y (by simp);have:=T fun z W=>hp z (by simp[W]);simp only[cnt];split<;>omega
  exact this O hp
 simp only[cnt]at I;omega
end OP
end
section
open Go Go.RowKit BG
namespace OP
def iR(n:Int):Prop:=-9223372036854775808<=n/\n<9223372036854775808
theorem qv9(n:Int):iR (IntKind.i64.wrap n):=by
 unfold iR;simp[IntKind.wrap,IntKind.bits,IntKind.signed]
 split<;>omega
theorem jr9{a:Int}(h:iR a)(b:Int):iR (Int.tmod a b):=by
 have T:(Int.tmod a b).natAbs<=a.natAbs:=by rw[Int.natAbs_tmod];exact Nat.mod_le _ _
 unfold iR at*
 by_cases G:0<=a
 . have:=Int.tmod_nonneg b G;omega
 have I:=Int.tmod_nonneg b (show 0<=-a by omega);rw[Int.neg_tmod]at I;omega
def aR(l:List Int):Prop:=∀x∈l,iR x
def rR(r:aP):Prop:=iR r.K/\iR r.V
theorem z8k{l:List Int}(h:aR l){a b:Nat}{i:Int}{x:Int}(G:idx ((l.drop a).take b) i=some x):iR x:=by
 have:x∈(l.drop a).take b:=by
  unfold idx at G
  split at G
  . exact Z6 G
  cases G
 exact h x (Yo (X4 this))
theorem z2f{l:List Int}(h:aR l)(a:Nat):aR (l.take a):=fun x G=>h x (X4 G)
theorem jw3(op a b:Int)(Z:iR a){v:Int×Int}(h:qn8 op a b=some v):iR v.1:=by
 have z:iR 0:=by unfold iR;omega
 have o:iR 1:=by unfold iR;omega
 have G:∀n ok v,iR n->q2d n ok=some v->iR v.1:=fun n ok v hn h=>by
  unfold q2d at h
  split at h<;>cases h
  . exact z
  exact hn
 have I:∀b n,qa0 b=some n->iR n:=fun b n h=>by
  unfold qa0 at h
  split at h<;>cases h
  . exact o
  exact z
 have ht:∀n,qf1 a b=some n->iR n.1:=fun n h=>by
  unfold qf1 at h;simp only[q9,Xq]at h;obtain⟨_,_,_,_,_,_,h⟩:=h
  split at h<;>cases h<;>exact qv9 _
 have T:∀t v,q8t op a b t=some v->iR v.1:=fun t v h=>by
  unfold q8t u7 at h
  split at h
  .
   split at h
   . cases h;exact z
   split at h
   . exact G _ _ _ z h
   split at h
   . exact G _ _ _ (qv9 _) h
   split at h
   .
    split at h
    . exact G _ _ _ (qv9 _) h
    cases h
   split at h
   . exact G _ _ _ (jr9 Z _) h
   cases h
  split at h
  . simp only[q9,Xq]at h;obtain⟨n,W,h⟩:=h;exact G _ _ _ (I _ _ W) h
  split at h
  . simp only[q9,Xq]at h;obtain⟨n,W,h⟩:=h;exact G _ _ _ (I _ _ W) h
  exact G _ _ _ z h
 unfold qn8 at h
 split at h
 . exact G _ _ _ (qv9 _) h
 split at h
 . exact G _ _ _ (qv9 _) h
 split at h
 . simp only[q9,Xq]at h;obtain⟨n,W,h⟩:=h;exact G _ _ _ (ht _ W) h
 split at h
 . exact T _ _ h
 exact T _ _ h
structure mR(m:aA):Prop where
 r:rR m.r
 s:aR m.stack
 o:∀x∈m.out,rR x
theorem z4h{m q:aA}{n:Int}(h:mR m)(T:iR n)(G:q05 m n=some q):mR q:=by
 unfold q05 u7 at G
 split at G
 . cases G;exact⟨h.r,h.s,h.o⟩
 split at G
 .
  cases G
  refine⟨h.r,fun x I=>?_,h.o⟩;rcases Xl.1 I with I|I
  . exact h.s x I
  rw[Xk.1 I];exact T
 cases G
theorem jf2{m:aA}{x:bg}{q:Bool×aA}(h:mR m)(hx:iR x.N)(G:q1e m x=some q):mR q.2:=by
 have hp:∀n,iR n->(q9 (q05 m n) fun v=>some (true,v))=some q->mR q.2:=fun n hn G=>by
  simp only[q9,Xq]at G;obtain⟨v,I,T⟩:=G
  cases T
  exact z4h h hn I
 unfold q1e at G
 split at G
 . exact hp _ hx G
 split at G
 . exact hp _ h.r.1 G
 split at G
 . exact hp _ h.r.2 G
 split at G
 .
  split at G
  . cases G;exact⟨h.r,h.s,h.o⟩
  unfold u7 at G
  repeat (split at G;rotate_left;exact absurd G (by simp))
  simp only[q9,Xq,Yw]at G;obtain⟨y,I,a,T,b,W,rfl⟩:=G;have hy:=z8k h.s I;refine z4h (z4h ?_ hy T) hy W;exact⟨h.r,z2f h.s _,h.o⟩
 split at G
 .
  split at G
  . cases G;exact⟨h.r,h.s,h.o⟩
  unfold u7 at G
  repeat (split at G;rotate_left;exact absurd G (by simp))
  simp only[q9,Xq,Yw]at G;obtain⟨y,I,w,Z,a,T,b,W,rfl⟩:=G;refine z4h (z4h ?_ (z8k h.s Z) T) (z8k h.s I) W;exact⟨h.r,z2f h.s _,h.o⟩
 split at G
 .
  split at G
  . cases G;exact⟨h.r,h.s,h.o⟩
  unfold u7 at G
  repeat (split at G;rotate_left;exact absurd G (by simp))
  cases G
  exact⟨h.r,z2f h.s _,h.o⟩
 cases G;exact h
theorem jo8{m q:aA}{x:bg}(h:mR m)(hx:iR x.N)(G:q1h m x=some q):mR q:=by
 unfold q1h at G;simp only[q9,Xq]at G;obtain⟨v,T,G⟩:=G;have I:mR v.2:=by
  refine jf2 ?_ hx T;exact⟨h.r,h.s,h.o⟩
 split at G
 . cases G;exact I
 split at G
 . cases G;exact⟨I.r,I.s,I.o⟩
 split at G
 .
  split at G
  . cases G;exact⟨I.r,I.s,I.o⟩
  unfold u7 at G
  repeat (split at G;rotate_left;exact absurd G (by simp))
  simp only[Xq]at G;obtain⟨y,_,G⟩:=G
  split at G<;>cases G<;>exact⟨I.r,z2f I.s _,I.o⟩
 split at G
 .
  split at G
  . cases G;exact⟨I.r,I.s,I.o⟩
  unfold u7 at G
  split at G;rotate_left;exact absurd G (by simp)
  split at G;rotate_left;exact absurd G (by simp)
  split at G;rotate_left;exact absurd G (by simp)
  split at G
  . cases G;exact⟨I.r,z2f I.s _,I.o⟩
  simp only[Xq]at G;obtain⟨y,T,w,Z,G⟩:=G
  split at G
  .
   cases G
   refine⟨I.r,z2f I.s _,fun z W=>?_⟩;rcases Xl.1 W with W|W
   . exact I.o z W
   rw[Xk.1 W];exact⟨z8k I.s T,z8k I.s Z⟩
  cases G
 split at G
 . cases G;exact⟨I.r,I.s,I.o⟩
 unfold u7 at G
 repeat (split at G;rotate_left;exact absurd G (by simp))
 simp only[Xq]at G;obtain⟨y,T,w,Z,t,h3,p,h4,G⟩:=G
 cases G
 refine z4h ?_ (jw3 _ _ _ (z8k I.s T) h3) h4;exact⟨I.r,z2f I.s _,I.o⟩
theorem k0h{p:List bg}{r:aP}(hp:∀x∈p,iR x.N)(Z:rR r){v:(List aP)×Int}(G:qn9 p r=some v):∀x∈v.1,rR x:=by
 unfold qn9 at G;simp only[q9,Xq]at G;obtain⟨ok,_,G⟩:=G
 split at G
 . cases G;simp
 have hJ:∀a b c d e (o:List aP) v,(∀x∈o,rR x)->q8u r a b c d e o=some v->∀x∈v.1,rR x:=fun a b c d e o v ho G=>by
  unfold q8u at G
  split at G
  .
   cases G
   intro x I;rw[Xk.1 I];exact⟨Z.1,qv9 _⟩
  cases G;exact ho
 have key:∀(n:Nat) (s:Int×Int×Int×Int×Int×(List Int)×(List aP)) v,mR ⟨⟨s.2.1,s.2.2.1⟩,s.2.2.2.2.2.1,s.2.2.2.2.2.2,s.2.2.2.1,s.2.2.2.2.1⟩->d9 (qp8 p r) n s=some v->∀x∈v.1,rR x:=fun n=>by
  induction n with
  |zero=>intro s v _ G;cases G
  |succ n ih=>
   rintro⟨f,a,b,c,d,e,o⟩ v T G;unfold d9 qp8 at G;dsimp only at G T
   split at G
   .
    split at G
    . exact hJ _ _ _ _ _ _ _ T.o G
    simp only[q9,Xq]at G;obtain⟨x,W,q,h2,G⟩:=G;have I:x∈p:=by
     unfold idx at W
     split at W
     . exact Z6 W
     cases W
    have:=jo8 T (hp x I) h2;exact ih _ v ⟨this.r,this.s,this.o⟩ G
   exact hJ _ _ _ _ _ _ _ T.o G
 exact key _ _ v ⟨Z,(by intro x I;cases I),by simp⟩ G
def bR(b:List a8):Prop:=∀x∈b,rR x.Rec
theorem cJ{b:List a8}(h:bR b){r:aP}(G:cnt b r≠0):rR r:=by
 obtain⟨x,I,rfl⟩:=z9h G;exact h x I
theorem dz{b:List a8}(hb:Rt b)(h:∀r,cnt b r≠0->rR r):bR b:=fun x G=>by
 refine h x.Rec ?_;rw[qy7 hb.inc G];exact (hb.num x G).1
theorem j4m{k a b:Int}(G:iR k){r:aP}(h:q7f k a b=some r):rR r:=by
 unfold q7f qd4 at h
 split at h
 .
  cases h
  exact⟨G,by show iR (-9223372036854775806);unfold iR;omega⟩
 cases h
 exact⟨G,qv9 _⟩
theorem jp0{x:aH}(Z:∀y∈x.Prog,iR y.N){r:aP}(I:rR r):∀q∈cu x r,rR q:=by
 have h:=j4a x r
 generalize cu x r=l at h
 unfold q77 at h
 split at h
 .
  simp only[q9,Xq]at h;obtain⟨v,T,W⟩:=h
  cases W
  exact k0h Z I T
 split at h
 .
  simp only[q9,Xq]at h;obtain⟨v,T,W⟩:=h
  cases W
  intro q G;rw[Xk.1 G];exact j4m I.1 T
 split at h
 .
  split at h
  . cases h;simp
  unfold u7 at h
  split at h
  .
   split at h
   . cases h;simp
   cases h
   intro q G;rw[Xk.1 G];exact I
  cases h
 cases h
 intro q G;rw[Xk.1 G];exact I
theorem j1q{x:aH}(I:∀y∈x.Prog,iR y.N){b:List a8}(hb:bR b):bR (lin x b):=fun y G=>by
 unfold lin at G;obtain⟨z,T,h⟩:=Zb.1 G;obtain⟨q,W,rfl⟩:=Ya.1 h;exact jp0 I (hb z T) q W
theorem j8f{w:aT}{k:Int}(G:iR k){r:aP}(h:q2v w k=some r):rR r:=by
 unfold q2v qd4 at h
 split at h
 .
  cases h
  exact⟨G,qv9 _⟩
 cases h
 exact⟨G,by show iR (-9223372036854775806);unfold iR;omega⟩
theorem j4p:∀(l:List a8) (n:Int),iR n->iR (l.foldl (fun n x=>IntKind.i64.wrap (n+x.N)) n)
 |[],_,h=>h
 |_::l,_,_=>j4p l _ (qv9 _)
theorem jp9{kind k:Int}(G:iR k){la lb:List a8}(I:la.length<1000000)(T:lb.length<1000000):rR (bY kind k la lb):=by
 unfold bY
 split
 . exact⟨G,j4p la 0 (by unfold iR;omega)⟩
 split
 . obtain⟨w,_,h,_⟩:=z4e I k;exact j8f G h
 obtain⟨w,_,h,_⟩:=z4e T k;exact j8f G h
theorem du{x:aH}(Z:∀y∈x.Prog,iR y.N){A B O:List a8}(T:bR A)(hB:bR B)(la:A.length<=60000)(lb:B.length<=60000)(I:Out x A B O):bR O:=by
 unfold Out at I
 split at I
 .
  rw[I];intro y G;rcases Xl.1 G with G|G
  . exact j1q Z T y G
  exact j1q Z hB y G
 split at I
 . rw[I];exact j1q Z T
 split at I
 . rw[I];intro y G;obtain⟨z,W,rfl⟩:=Ya.1 G;exact T z W
 split at I
 . rw[I];intro y G;obtain⟨z,W,h⟩:=Zb.1 G;obtain⟨q,_,rfl⟩:=Ya.1 h;exact j4m (T z W).1 (j18 z.Rec.K z.Rec.V q.Rec.V).1
 split at I
 .
  intro y G;obtain⟨_,r2,r3⟩:=I.row y G;obtain⟨z,W⟩:=List.exists_mem_of_ne_nil _ r3;obtain⟨z1,z2⟩:=Xs.1 W;have hk:y.Rec.K=z.Rec.K:=(beq_iff_eq.1 z2).symm;rw[r2];refine jp9 (by rw[hk];exact (T z z1).1) ?_ ?_
  . have:=z8a y.Rec.K A;omega
  have:=z8a y.Rec.K B;omega
 rw[I];intro y G;cases G
theorem cq{c:List a8}(I:bR c):bR (there c):=by
 unfold there
 split
 . exact fun y G=>I y (Xs.1 G).1
 intro y G;cases G
end OP
end
section
open Go Go.RowKit BG
namespace OP
def neg(b:List a8):List a8:=b.map fun y=>⟨y.Rec,-y.N⟩
end OP
end
section
open Go Go.RowKit BG
namespace OP
theorem Gr.cnt{kind:Int}{A B O:List a8}(h:Gr kind A B O)(r:aP):BG.cnt O r=if key r.K A=[]then 0 else if bY kind r.K (key r.K A) (key r.K B)=r then 1 else 0:=by
 have a6:O.Pairwise (fun p q=>lt p.Rec q.Rec):=h.inc.imp fun aj=> .inl aj
 by_cases hk:key r.K A=[]
 . rw[if_pos hk];refine z2d fun o T e=>?_;have:=(h.row o T).2.2;rw[e]at this;exact this hk
 rw[if_neg hk];obtain⟨x,l,hx⟩:=List.exists_cons_of_ne_nil hk;have W:x∈key r.K A:=by rw[hx];exact Yf
 have ak:x.Rec.K=r.K:=by simpa using (Xs.1 W).2
 obtain⟨o,T,I⟩:=h.all x (Xs.1 W).1;rw[ak]at I;have G:=h.row o T;rw[I]at G;have Z:=qy7 a6 T
 by_cases hr:bY kind r.K (key r.K A) (key r.K B)=r
 . rw[if_pos hr];have:o.Rec=r:=G.2.1.trans hr;rw[this]at Z;rw[Z,G.1]
 rw[if_neg hr];refine z2d fun y hy e=>hr ?_;have an:y.Rec.K=o.Rec.K:=by rw[e,I]
 have:y=o:=by
  obtain⟨i,hi,rfl⟩:=Xy.1 hy;obtain⟨j,hj,rfl⟩:=Xy.1 T;have hp:=X8.1 h.inc;rcases Wi i j with g|g|g
  . have:=hp i j hi hj g;omega
  . subst g;rfl
  have:=hp j i hj hi g;omega
 rw[<-G.2.1,<-this,e]
def dv(k:Int):Prop:=k=6\/k=7\/k=8\/k=9\/k=14
theorem dv.lin{k:Int}(h:dv k):j6m k=false/\k≠5:=by
 rcases h with rfl|rfl|rfl|rfl|rfl<;>exact⟨by decide,by decide⟩
end OP
end
section
open Go Go.RowKit
namespace BG
theorem z9w{n:Int}(G:0<=n)(I:n<18446744073709551616):IntKind.u64.wrap n=n:=by simp[IntKind.wrap,IntKind.bits,IntKind.signed];omega
theorem zr2{n:Int}(G:0<=n)(I:n<4294967296):q2e .u64 n 32=0:=by
 show Wm _ 4294967296=_
 rw[Y3 _ (by omega)];omega
theorem j7g{n:Int}(I:0<=n)(T:n<4294967296):qu8 .u64 n 4294967295=n:=by
 have e:(BitVec.ofInt 64 n &&& BitVec.ofInt 64 4294967295).toNat=(BitVec.ofInt 64 n).toNat%4294967296:=by
  rw[BitVec.toNat_and,show (BitVec.ofInt 64 4294967295).toNat=2^32-1 from rfl,Zh]
 have G:((BitVec.ofInt 64 n).toNat:Int)=n%18446744073709551616:=by
  rw[BitVec.toNat_ofInt,Ys (Zy _ (by decide))];rfl
 unfold qu8
 show IntKind.u64.wrap (((BitVec.ofInt 64 n &&& BitVec.ofInt 64 4294967295).toNat:Nat):Int)=_
 rw[e,Int.natCast_emod,G,z9w (by omega) (by omega)];omega
theorem k2q{n:Int}(G:0<=n)(I:n<4294967296):q2w 1 n=some (0,n):=by
 unfold q2w;rw[zr2 (n:=1) (by omega) (by omega),j7g (n:=1) (by omega) (by omega),zr2 G I,j7g G I];simp only[Int.zero_mul,Int.one_mul,Int.mul_zero];rw[z9w G (by omega),zr2 G I,show IntKind.u64.wrap 0=0 from rfl,Zu,show IntKind.u64.wrap 0=0 from rfl,show q2e .u64 0 32=0 from rfl,show qu8 .u64 0 4294967295=0 from rfl,Int.zero_add,show IntKind.u64.wrap 0=0 from rfl,show q2e .u64 0 32=0 from rfl,Zu,show IntKind.u64.wrap 0=0 from rfl]
theorem ja4{r:aP}{n:Int}(T:0<=n)(h1:n<1000000):q91 [r] n=some (Xp n.toNat r):=by
 obtain⟨k,rfl⟩:∃k:Nat,n=(k:Int):=⟨n.toNat,by omega⟩;refine Ok.eq ?_;unfold q91 q9n qr2;rw[if_neg (by simp),show IntKind.u64.wrap (([r]:List aP).length:Int)=1 from rfl,z9w T (by omega),k2q T (by omega)];refine Ok.bind (Ok.bind (Ok.some (Ok.some ?_)));rw[if_neg (by simp;omega)];unfold q9m;dsimp only;rw[wrap_i64 _ (by omega),Xg];refine Ok.guard (by omega) (Ok.guard (by simp) ?_);refine k3p (fun s=>∃m:Nat,∃a:List aP,s=((m:Int),a)/\a.length=k/\m<=k/\(1<=k->1<=m)/\a.take m=Xp m r) (fun s=>k-s.1.toNat) ?_ ⟨min 1 k,_,rfl,?_,by omega,by omega,?_⟩ (by simp only[rounds];omega)
 .
  rintro rec _ ⟨m,a,rfl,W,hm,a6,Z⟩ G;unfold qj6;dsimp only;refine k3n (fun I=>?_) (fun I=>Ok.some ?_)
  .
   have aj:m<k:=by simp at I;omega
   rw[Xg];refine Ok.guard (by omega) (Ok.guard (by omega) (Ok.guard (by omega) (Ok.guard (by omega) ?_)));rw[Z,Yi,W,Zk,Yi];have hw:IntKind.i64.wrap ((m:Int)+((min m (k-m):Nat):Int))=((m+min m (k-m):Nat):Int):=by rw[wrap_i64 _ (by omega)];omega
   rw[hw];refine G _ ⟨m+min m (k-m),_,rfl,?_,by omega,fun _=>by omega,?_⟩ (by simp only[Xg];omega)
   . rw[Xd];simp;omega
   rw[Yq,Yj (by omega),X5,<-X5,List.replicate_append_replicate,show min (k-m) m=min m (k-m) by omega,Zi (by simp),Zk,Nat.min_self]
  obtain rfl:m=k:=by simp at I;omega
  rw[<-Z,<-W,Xf]
 . rw[Xd];simp;omega
 rw[Yq];rcases k with _|k
 . simp
 simp[Yj]
def all(b:List a8):List aP:=b.flatMap fun y=>Xp y.N.toNat y.Rec
theorem z4n:∀{b:List a8},(∀y∈b,0<y.N)->((all b).length:Int)=tot b
 |[],_=>rfl
 |y::b,h=>by
  have:=z4n (b:=b) fun z G=>h z (by simp[G]);have I:=h y (by simp);simp only[all,tot,Wj,Y7,Yi,Y4,Z9]at this⊢;omega
theorem z8n{b:List a8}(h:∀y∈b,0<y.N)(i:Nat):0<=tot (b.take i)/\tot (b.take i)<=tot b:=by
 have e:tot b=tot (b.take i)+tot (b.drop i):=by rw[<-q6d,Xm]
 have I:=z4n (b:=b.take i) fun y G=>h y (X4 G);have T:=z4n (b:=b.drop i) fun y G=>h y (Yo G);omega
theorem zg9{b:List a8}{i:Nat}(h:i<b.length):tot (b.take (i+1))=tot (b.take i)+b[i].N:=by
 rw[Xa h,q6d];simp[tot]
theorem ju8{b:List a8}(hl:b.length<1000000):Ok (z19 b) fun v=>(tot (there b)<=65536->v=(all (there b),true))/\(65536<tot (there b)->v=([],false)):=by
 unfold z19;obtain⟨Z,hp⟩:=zh1 b;have aj:=z5z b;refine Ok.bind (k3q (j2y (by omega)) ?_)
 generalize there b=c at*
 have ak:c.length<1000000:=by omega
 refine k3p (fun s=>∃i:Nat,s=(tot (c.take i),(i:Int))/\i<=c.length/\tot (c.take i)<=65536) (fun s=>c.length-s.2.toNat) ?_ ⟨0,by simp[tot],Xe _,by simp[tot]⟩ (by simp only[rounds];omega);rintro rec _ ⟨i,rfl,hi,hI⟩ G;unfold z3h;dsimp only;refine k3n (fun T=>?_) (fun T=>?_)
 .
  have hi':i<c.length:=by simpa using T
  have h1:=z8n hp (i+1);have h2:=z8n hp i;have h3:=zg9 hi';have h4:=Z.num _ (Xj hi');refine Ok.bind (k3o hi' ?_);rw[wrap_i64 (tot (c.take i)+c[i].N) (by omega),wrap_i64 ((i:Int)+1) (by omega),<-h3];refine k3n (fun W=>Ok.some ⟨fun hh=>?_,fun _=>rfl⟩) (fun W=>?_)
  . simp only[decide_eq_true_eq]at W;omega
  exact G _ ⟨i+1,rfl,hi',by simpa using W⟩ (by simp only;omega)
 obtain rfl:i=c.length:=by simp at T;omega
 rw[Xf]at hI;have a6:=z4n hp;unfold qz4;refine k3r (l:=c) (by omega) (fun i a=>a=all (c.take i)) 0 (fun rec i hi a _ I G=>?_) (fun rec a I=>?_) (by simp[all]) (Xe _)
 . subst I;unfold qz5;dsimp only;have h4:=Z.num _ (Xj hi);have h5:=hp _ (Xj hi);have h6:=z8n hp (i+1);have h7:=zg9 hi;have h8:=z4n (b:=c.take i) fun y hy=>hp y (X4 hy);rw[if_pos (by simpa using hi)];refine Ok.bind (k3o hi ?_);rw[ja4 (by omega) (by omega)];refine Ok.bind (Ok.some (Ok.guard (by rw[Yi];omega) ?_));rw[wrap_i64 ((i:Int)+1) (by omega)];refine G _ ?_;unfold all;rw[j24 hi]
 subst I;unfold qz5;dsimp only;rw[if_neg (by simp),Xf];exact Ok.some ⟨fun _=>rfl,fun hh=>by omega⟩
end BG
end
section
open Go Go.RowKit BG
namespace OP
theorem jw7{n:Int}(G:0<=n)(I:n<18446744073709551616):0<=q2e .u64 n 32/\q2e .u64 n 32<4294967296:=by
 show 0<=Wm _ 4294967296/\Wm _ 4294967296<_
 rw[Y3 _ (by omega)];omega
theorem k0f{n:Int}:0<=qu8 .u64 n 4294967295/\qu8 .u64 n 4294967295<4294967296:=by
 have e:(BitVec.ofInt 64 n &&& BitVec.ofInt 64 4294967295).toNat=(BitVec.ofInt 64 n).toNat%4294967296:=by
  rw[BitVec.toNat_and,show (BitVec.ofInt 64 4294967295).toNat=2^32-1 from rfl,Zh]
 unfold qu8
 show 0<=IntKind.u64.wrap (((BitVec.ofInt 64 n &&& BitVec.ofInt 64 4294967295).toNat:Nat):Int)/\IntKind.u64.wrap (((BitVec.ofInt 64 n &&& BitVec.ofInt 64 4294967295).toNat:Nat):Int)<_
 rw[e];have:(BitVec.ofInt 64 n).toNat%4294967296<4294967296:=Nat.mod_lt _ (by decide);rw[z9w (by omega) (by omega)];omega
theorem jk3{n:Int}(G:0<=n)(I:n<18446744073709551616):q2w n 1=some (0,n):=by
 unfold q2w;obtain⟨a0,a1⟩:=jw7 G I;obtain⟨b0,T⟩:=k0f (n:=n)
 generalize q2e .u64 n 32=a at*
 generalize qu8 .u64 n 4294967295=b at*
 have z:IntKind.u64.wrap 0=0:=rfl;have s0:q2e .u64 0 32=0:=rfl;rw[zr2 (n:=1) (by omega) (by omega),j7g (n:=1) (by omega) (by omega)];simp only[Int.mul_zero,Int.mul_one,z];have W:IntKind.u64.wrap a=a:=z9w a0 (by omega);have Z:IntKind.u64.wrap b=b:=z9w b0 (by omega);simp only[Z,zr2 b0 T,W,Zu,Int.zero_add,zr2 a0 a1,j7g a0 a1,z,z9w G I]
theorem jb3{v:Int}(W:iR v):q9b ⟨0,⟨0⟩⟩ v 1=some (if v<0 then⟨-1,⟨v+18446744073709551616⟩⟩else⟨0,⟨v⟩⟩):=by
 obtain⟨h0,h1⟩:=W;have T:IntKind.u64.wrap 1=1:=by decide
 have i0:IntKind.i64.wrap 0=0:=by decide
 have i1:IntKind.i64.wrap 1=1:=by decide
 unfold q9b
 by_cases G:v<0
 .
  rw[if_pos (by simpa using G),if_pos G];have I:IntKind.u64.wrap v=v+18446744073709551616:=by simp[IntKind.wrap,IntKind.bits,IntKind.signed];omega
  have Z:IntKind.u64.wrap (0-(v+18446744073709551616))=-v:=by simp[IntKind.wrap,IntKind.bits,IntKind.signed];omega
  rw[I,Z];unfold q50;rw[T,jk3 (by omega) (by omega)];simp only[q9,Xo];rw[if_pos (by simpa using G)];unfold qk5 zk8 u7;rw[if_pos (by omega)];simp only[Xo];rw[if_pos (by omega),i0,i1,show IntKind.i64.wrap (0+1)=1 by decide,show IntKind.i64.wrap (0-1)=-1 by decide]
  congr 3
  omega
 rw[if_neg (by simpa using G),if_neg G];have I:IntKind.u64.wrap v=v:=z9w (by omega) (by omega);rw[I];unfold q50;rw[T,jk3 (by omega) (by omega)];simp only[q9,Xo];rw[if_neg (by simpa using G)];unfold qk6 zq3 u7;rw[if_pos (by omega)];simp only[Xo];have d0:(0+v+0)/18446744073709551616=0:=by omega
 have d1:(0+v+0)%18446744073709551616=v:=by omega
 rw[d0,d1,i0,show IntKind.i64.wrap (0+0)=0 by decide,show IntKind.i64.wrap (0+0)=0 by decide]
theorem db{k v:Int}(G:iR v):z6x [⟨⟨k,v⟩,1⟩] k=⟨k,v⟩:=by
 have T:qd5 [⟨⟨k,v⟩,1⟩]=some (if v<0 then⟨-1,⟨v+18446744073709551616⟩⟩else⟨0,⟨v⟩⟩):=by
  unfold qd5;have W:rounds=18446744073709551614+1+1:=rfl;rw[W];unfold d9 qt9;dsimp only;rw[if_pos (by simp)];have hi:idx [(⟨⟨k,v⟩,1⟩:a8)] 0=some ⟨⟨k,v⟩,1⟩:=rfl;rw[hi];simp only[q9,Xo];rw[jb3 G];simp only[Xo];unfold d9;dsimp only;rw[show IntKind.i64.wrap (0+1)=1 by decide,if_neg (by simp)]
 obtain⟨Z,h1⟩:=G;unfold z6x;rw[T];simp only[Xo];unfold q2v
 by_cases I:v<0
 .
  rw[if_pos I];have e:IntKind.i64.wrap (v+18446744073709551616)=v:=by simp[IntKind.wrap,IntKind.bits,IntKind.signed];omega
  dsimp only;rw[e,if_pos (by simp;omega)];rfl
 rw[if_neg I];dsimp only;rw[wrap_i64 v (by omega),if_pos (by simp;omega)];rfl
theorem jp1{x:aH}{r:aP}(I:rR r)(h:x.Kind=13\/(x.Kind=3/\x.Arg=0)\/(x.Kind=4/\x.Arg=1)):cu x r=[r]:=by
 unfold cu q77;rcases h with h|⟨h,G⟩|⟨h,G⟩
 . rw[if_neg (by rw[h];decide),if_neg (by rw[h];decide),if_neg (by rw[h];decide)];rfl
 .
  rw[if_neg (by rw[h];decide),if_pos (by rw[h];decide),G];have:q7f r.K r.V 0=some r:=by
   unfold q7f;rw[Zu,wrap_i64 r.V (by have:=I.2.1;have:=I.2.2;omega),if_neg (by simp)]
  rw[this];rfl
 rw[if_neg (by rw[h];decide),if_neg (by rw[h];decide),if_pos (by rw[h];decide),G,if_neg (by decide)];unfold u7;rw[if_pos (by decide),if_neg (by rw[Int.tmod_one];decide)];rfl
theorem cW{x:aH}(h:x.Kind=13\/(x.Kind=3/\x.Arg=0)\/(x.Kind=4/\x.Arg=1)):∀{b:List a8},bR b->lin x b=b
 |[],_=>rfl
 |y::b,hb=>by
  have:=cW h (b:=b) fun z G=>hb z (by simp[G]);unfold lin at this⊢;rw[Wj,this,jp1 (hb y (by simp)) h];rfl
end OP
end
section
open Go Go.RowKit
namespace TS
theorem jk4{G R:Type}(body:(G->Option R)->G->Option R)(s:G):∃rec:G->Option R,d9 body rounds s=body (body (body (body (body rec)))) s:=⟨d9 body 18446744073709551611,rfl⟩
def ok(t:ay):Prop:=1<=t.D/\t.D<=4/\(0<=t.C.a0/\t.C.a0<=1048576)/\(0<=t.C.a1/\t.C.a1<=if 1<t.D then 64 else 0)/\(0<=t.C.a2/\t.C.a2<=if 2<t.D then 64 else 0)/\(0<=t.C.a3/\t.C.a3<=if 3<t.D then 64 else 0)
instance (t:ay):Decidable (ok t):=by unfold ok;infer_instance
theorem w0:IntKind.i64.wrap (0+1)=1:=by decide
theorem w1:IntKind.i64.wrap (1+1)=2:=by decide
theorem w2:IntKind.i64.wrap (2+1)=3:=by decide
theorem w3:IntKind.i64.wrap (3+1)=4:=by decide
theorem v1:IntKind.i64.wrap 1=1:=by decide
theorem v2:IntKind.i64.wrap 2=2:=by decide
theorem v3:IntKind.i64.wrap 3=3:=by decide
theorem v4:IntKind.i64.wrap 4=4:=by decide
theorem i0{α:Type}(a b c d:α):idx [a,b,c,d] 0=some a:=rfl
theorem i1{α:Type}(a b c d:α):idx [a,b,c,d] 1=some b:=rfl
theorem i2{α:Type}(a b c d:α):idx [a,b,c,d] 2=some c:=rfl
theorem i3{α:Type}(a b c d:α):idx [a,b,c,d] 3=some d:=rfl
theorem k0x(c:Prop)[Decidable c](a b:Bool):(if c then some a else some b)=some (if c then a else b):=by split<;>rfl
theorem D4{D:Int}(h:1<=D/\D<=4):D=1\/D=2\/D=3\/D=4:=by omega
theorem bE(t:ay):q9l t=some (decide (ok t)):=by
 obtain⟨D,⟨a0,a1,a2,a3⟩⟩:=t
 by_cases h:1<=D/\D<=4
 .
  unfold q9l;obtain⟨rec,G⟩:=jk4 (qz2 ⟨D,⟨a0,a1,a2,a3⟩⟩) 0;rw[G];rcases D4 h with rfl|rfl|rfl|rfl<;>
  .
   simp only[qz2,qh1,i0,i1,i2,i3,w0,w1,w2,w3,q9,Xo,k0x];simp[ok]
   repeat' split
   all_goals
    refine congrArg some (Yh.2 ?_);simp only[Xi,decide_eq_true_eq,Xz,false_iff,eq_self,true_iff];omega
 unfold q9l;rw[if_pos (by simp;omega)]
 congr 1
 rw[eq_comm,decide_eq_false_iff_not];unfold ok;simp only;omega
def co(D i a:Int):Int:=if i<D then a+1 else 0
def key(t:ay):Int:=((t.C.a0*70+co t.D 1 t.C.a1)*70+co t.D 2 t.C.a2)*70+co t.D 3 t.C.a3
theorem g0{α:Type}(k:Option α):u7 (0<=(0:Int)/\(0:Int)<4) k=k:=if_pos (by decide)
theorem g1{α:Type}(k:Option α):u7 (0<=(1:Int)/\(1:Int)<4) k=k:=if_pos (by decide)
theorem g2{α:Type}(k:Option α):u7 (0<=(2:Int)/\(2:Int)<4) k=k:=if_pos (by decide)
theorem g3{α:Type}(k:Option α):u7 (0<=(3:Int)/\(3:Int)<4) k=k:=if_pos (by decide)
theorem qj0{t:ay}(h:ok t):t.D=1\/t.D=2\/t.D=3\/t.D=4:=D4 ⟨h.1,h.2.1⟩
def le(a b:ay):Prop:=ok a/\ok b/\a.D=b.D/\a.C.a0<=b.C.a0/\a.C.a1<=b.C.a1/\a.C.a2<=b.C.a2/\a.C.a3<=b.C.a3
instance (a b:ay):Decidable (le a b):=by unfold le;infer_instance
theorem le_eq(a b:ay):z8b a b=some (decide (le a b)):=by
 unfold z8b z6n;rw[bE a,bE b];simp only[q9,Xo,decide_eq_true_eq,Xb]
 by_cases G:ok a
 .
  rw[if_pos G]
  by_cases hb:ok b/\a.D=b.D
  .
   simp only[Xo,decide_eq_true hb.1,beq_iff_eq.2 hb.2,Bool.and_self,Bool.true_eq_false,if_false];obtain⟨rec,I⟩:=jk4 (z3w a b) 0;rw[I];simp only[z3w,i0,i1,i2,i3,g0,g1,g2,g3,w0,w1,w2,w3,q9,Xo,Int.reduceLT,if_true,if_false,decide_true,decide_false,Xz,decide_eq_true_eq]
   repeat' split
   all_goals
    refine congrArg some (Yh.2 ?_);simp only[decide_eq_true_eq,Xz,false_iff,eq_self,true_iff];unfold le;have:=hb.1;have:=hb.2
    first|(refine⟨G,hb.1,hb.2,?_⟩;omega)|(rintro⟨-,-,-,h⟩;omega)
  have:(decide (ok b)&&(a.D==b.D))=false:=by
   rw[Bool.eq_false_iff];simpa using hb
  simp only[Xo,this,if_true];exact congrArg some (decide_eq_false fun h=>hb ⟨h.2.1,h.2.2.1⟩).symm
 rw[if_neg G];simp only[Xo,if_true];exact congrArg some (decide_eq_false fun h=>G h.1).symm
instance:DecidableEq ay:=fun a b=>
 if h:a.D=b.D/\a.C.a0=b.C.a0/\a.C.a1=b.C.a1/\a.C.a2=b.C.a2/\a.C.a3=b.C.a3 then isTrue (by
  obtain⟨D,⟨a0,a1,a2,a3⟩⟩:=a;obtain⟨E,⟨b0,G,I,T⟩⟩:=b;simp only at h;obtain⟨rfl,rfl,rfl,rfl,rfl⟩:=h;rfl)else isFalse (fun e=>h (by rw[e];exact⟨rfl,rfl,rfl,rfl,rfl⟩))
end TS
end
section
open Go Go.RowKit BG
namespace BG
def neg(l:List a8):List a8:=l.map fun y=>⟨y.Rec,-y.N⟩
theorem zu0{l:List a8}(h:OP.Pos l)(z:aP):0<=cnt l z:=by
 induction l with
 |nil=>simp[cnt]
 |cons x l G=>
  have T:=h x (by simp);have W:=G fun y I=>h y (by simp[I]);simp only[cnt]
  split<;>omega
end BG
namespace CE
structure dt(l:List a8):Prop where
 rt:Rt l
 pos:OP.Pos l
 big:BG.big l<=65536
 len:l.length<=65536
theorem dt.nil:dt []:=⟨Rt.nil,by simp[OP.Pos],by simp[BG.big],by simp⟩
theorem b9(a:List a8)(h:a.length<=60000):OP.Good (there a):=⟨(zh1 a).1,(zh1 a).2,by have:=z5z a;omega⟩
theorem aY{a b:List a8}(la:a.length<=60000)(lb:b.length<=60000):q6a 0 [a,b]=some (there a)/\q6a 1 [a,b]=some (there b):=by
 have h:∀l∈[a,b],l.length<1000000:=fun l G=>by
  rcases Yk.1 G with rfl|G
  . omega
  rw[Xk]at G;rw[G];omega
 exact⟨OP.cC (aY:=[a,b]) 0 h,OP.cC (aY:=[a,b]) 1 h⟩
theorem cw{x:aH}{a b:List a8}(la:a.length<=60000)(lb:b.length<=60000):Ok (q9o x [a,b]) (fun v=>dt v.1):=by
 obtain⟨Z,h2⟩:=aY la lb;refine (OP.bH Z h2 (b9 a la) (b9 b lb)).mono fun v ⟨O,_,hO,hF⟩=>?_;rcases hF with⟨_,hp,ht⟩|⟨_,hv,_⟩
 .
  have G:OP.Pos v.1:=fun y T=>by
   have W:=hp.cnt y.Rec;rw[qy7 hp.rt.inc T]at W;have h4:=zu0 hO y.Rec;have h5:=(hp.rt.num y T).1;simp only[BG.cnt]at W;omega
  have I:tot v.1<=65536:=by rw[hp.tot];simp[BG.tot]at*;omega
  refine⟨hp.rt,G,by rw[G.big];exact I,?_⟩;have:=G.b8;omega
 rw[hv];exact dt.nil
end CE
end
end Go.Proofs.YtomicnbiniapfaaGreat

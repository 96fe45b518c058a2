/-
  The laws in plain words: what the plain functions give. No condition beyond those that each theorem names.
-/
import Derived.Test.YtdcdfkdhomekeaaGreatWalkWM0
import Derived.Test.YtdcdfkdhomekeaaGreatLibD
import Derived.Test.YtdcdfkdhomekeaaGreatWalkWM1
set_option linter.unusedSimpArgs false
set_option linter.unusedVariables false
set_option linter.unusedSectionVars false
open List renaming length_append->Xa,take_succ_eq_append_getElem->Xb,append_assoc->Xc,take_append_drop->Xe,length_take->Xf,take_length->Xh,getElem_mem->Xj,mem_append->Xk,pairwise_append->Xl,length_cons->Xo,filter_append->Xq,getD_eq_getElem?_getD->Xr,drop_eq_getElem_cons->Xu,getElem?_eq_getElem->Xv,mem_cons->Xw,mem_singleton->Xx,eq_nil_of_length_eq_zero->Xy,cons_append->Xz,mem_filter->X0,map_cons->X3,pairwise_cons->X4,length_drop->X6,append_nil->X7,nil_append->X8,mem_iff_getElem->Ya,sum_cons->Yb,mem_of_mem_take->Yc,filter_cons_of_pos->Yd,pairwise_iff_getElem->Yf,length->Yg,length_nil->Yh,drop_of_length_le->Yi,length_filter_le->Yk,mem_append_left->Yl,mem_cons_of_mem->Ym,mem_map->Yn,length_pos_iff->Yo,filter_cons_of_neg->Yp,length_map->Yr,getElem_cons_zero->Yt,getElem_take->Yu,length_replicate->Yv,mem_of_mem_drop->Yw,mem_cons_self->Y3,set_cons_zero->Y5,take_take->Y6,getElem_cons_succ->Y7,drop_length->Y9,mem_append_right->Za,set_append_right->Zb,nodup_cons->Zc,length_set->Ze,replicate->Zg,set_cons_succ->Zh,getElem_drop->Zj,foldl_append->Zk,flatMap_cons->Zl,range->Zm,mem_or_eq_of_mem_set->Zn,getElem_append_right->Zo,filter_cons->Zp,mem_flatMap->Zq,map_nil->Zr,mem_of_mem_eraseIdx->Zs,eraseIdx_cons_zero->Zu,eraseIdx_cons_succ->Zv,map_append->Zw,length_pos_of_mem->Zy,filter_eq_nil_iff->Zz,length_eq_one_iff->Z3,mem_range->Z4,take_zero->Z5,mem_of_getElem?->Z6,length_eraseIdx->Z7,filter_sublist->Z9,filter_eq_self->Wa,take_replicate->Wb,perm_iff_count->Wc,find?_eq_none->Wd,pairwise_map->Wg,length_range->Wh,Pairwise.nil->Wi,take_sublist->Wj,nodup_append->Wk,count_filter->Wl,set->Wm
open Int renaming toNat_natCast->Xd,lt_or_eq_of_le->Yq,reduceLT->Yz,le_refl->Y8,mul_le_mul_of_nonneg_left->Zf,fdiv_eq_ediv_of_nonneg->Zi,le_of_lt->Zt,emod_nonneg->Zx,emod_lt_of_pos->We,le_trans->Wf
open Bool renaming and_eq_true->Xg,not_eq_true'->Xi,not_eq_false'->Xn,and_eq_false_iff->Xp,or_eq_false_iff->X5,false_eq_true->X9,or_eq_true->Ye,eq_iff_iff->Yj,true_and->Z8
open Nat renaming zero_le->Xm,le_refl->Xt,lt_or_eq_of_le->Ys,lt_succ_iff->Yx,min_eq_left->Yy,lt_or_ge->Y0,eq_zero_or_pos->Y4
open Option renaming bind_some->Xs,some.inj->Zd,map_eq_some_iff->Z0
namespace Go.Proofs.YtdcdfkdhomekeaaGreat
section
open Go Go.RowKit
namespace TS
theorem j4c{a R:Type}(body:(a->Option R)->a->Option R)(s:a):∃rec:a->Option R,q02 body rounds s=body (body (body (body (body rec)))) s:=⟨q02 body 18446744073709551611,rfl⟩
def ok(t:af):Prop:=1<=t.D/\t.D<=4/\(0<=t.C.a0/\t.C.a0<=1048576)/\(0<=t.C.a1/\t.C.a1<=if 1<t.D then 64 else 0)/\(0<=t.C.a2/\t.C.a2<=if 2<t.D then 64 else 0)/\(0<=t.C.a3/\t.C.a3<=if 3<t.D then 64 else 0)
instance (t:af):Decidable (ok t):=by unfold ok;infer_instance
theorem w0:IntKind.i64.wrap (0+1)=1:=by decide
theorem w1:IntKind.i64.wrap (1+1)=2:=by decide
theorem w2:IntKind.i64.wrap (2+1)=3:=by decide
theorem w3:IntKind.i64.wrap (3+1)=4:=by decide
theorem v1:IntKind.i64.wrap 1=1:=by decide
theorem v2:IntKind.i64.wrap 2=2:=by decide
theorem v3:IntKind.i64.wrap 3=3:=by decide
theorem v4:IntKind.i64.wrap 4=4:=by decide
theorem i0{α:Type}(a b c d:α):idx [a,b,c,d] 0=some a:=rfl
theorem i1{α:Type}(a b c d:α):idx [a,b,c,d] 1=some b:=rfl
theorem i2{α:Type}(a b c d:α):idx [a,b,c,d] 2=some c:=rfl
theorem i3{α:Type}(a b c d:α):idx [a,b,c,d] 3=some d:=rfl
theorem jx6(c:Prop)[Decidable c](a b:Bool):(if c then some a else some b)=some (if c then a else b):=by split<;>rfl
theorem D4{D:Int}(h:1<=D/\D<=4):D=1\/D=2\/D=3\/D=4:=by omega
theorem bg(t:af):q4k t=some (decide (ok t)):=by
 obtain⟨D,⟨a0,a1,a2,a3⟩⟩:=t
 by_cases h:1<=D/\D<=4
 .
  unfold q4k;obtain⟨rec,a⟩:=j4c (qu0 ⟨D,⟨a0,a1,a2,a3⟩⟩) 0;rw[a];rcases D4 h with rfl|rfl|rfl|rfl<;>
  .
   simp only[qu0,q8k,i0,i1,i2,i3,w0,w1,w2,w3,q9,Xs,jx6];simp[ok]
   repeat' split
   all_goals
    refine congrArg some (Yj.2 ?_);simp only[Xg,decide_eq_true_eq,X9,false_iff,eq_self,true_iff];omega
 unfold q4k;rw[if_pos (by simp;omega)]
 congr 1
 rw[eq_comm,decide_eq_false_iff_not];unfold ok;simp only;omega
def co(D i a:Int):Int:=if i<D then a+1 else 0
def key(t:af):Int:=((t.C.a0*70+co t.D 1 t.C.a1)*70+co t.D 2 t.C.a2)*70+co t.D 3 t.C.a3
theorem g0{α:Type}(k:Option α):x9 (0<=(0:Int)/\(0:Int)<4) k=k:=if_pos (by decide)
theorem g1{α:Type}(k:Option α):x9 (0<=(1:Int)/\(1:Int)<4) k=k:=if_pos (by decide)
theorem g2{α:Type}(k:Option α):x9 (0<=(2:Int)/\(2:Int)<4) k=k:=if_pos (by decide)
theorem g3{α:Type}(k:Option α):x9 (0<=(3:Int)/\(3:Int)<4) k=k:=if_pos (by decide)
theorem cL{t:af}(h:ok t):t.D=1\/t.D=2\/t.D=3\/t.D=4:=D4 ⟨h.1,h.2.1⟩
theorem z9a(a b:af):qx2 a b=some (decide (ok a/\ok b/\key a<key b)):=by
 unfold qx2;rw[bg a,bg b];simp only[q9,Xs,decide_eq_true_eq,Xi,decide_eq_false_iff_not]
 by_cases c:ok a
 .
  rw[if_pos c]
  by_cases hb:ok b
  .
   rw[if_neg (by simpa using hb)];obtain⟨rec,g⟩:=j4c (qy7 a b) 0;rw[g];have e:=cL c;have f:=cL hb;have d:(ok a/\ok b/\key a<key b)↔key a<key b:=⟨λh=>h.2.2,λh=>⟨c,hb,h⟩⟩;obtain⟨D,⟨a0,a1,a2,a3⟩⟩:=a;obtain⟨E,⟨b0,j,k,l⟩⟩:=b;simp only at e f;unfold ok at c hb;rcases e with rfl|rfl|rfl|rfl<;>rcases f with rfl|rfl|rfl|rfl<;>
   .
    simp only[qy7,i0,i1,i2,i3,g0,g1,g2,g3,w0,w1,w2,w3,q9,Xs,Int.min_def,Int.reduceLE,Yz,if_true,if_false,decide_true,decide_false,X9,decide_eq_true_eq,Xi,beq_eq_false_iff_ne,ne_eq];simp only[Yz,if_true,if_false]at c hb
    repeat' split
    all_goals
     refine congrArg some (Yj.2 ?_);simp only[decide_eq_true_eq,d,X9,false_iff,eq_self,true_iff];simp only[key,co,Yz,if_true,if_false];omega
  rw[if_pos (by simpa using hb)];exact congrArg some (decide_eq_false λh=>hb h.2.1).symm
 rw[if_neg c];exact congrArg some (decide_eq_false λh=>c h.1).symm
def le(a b:af):Prop:=ok a/\ok b/\a.D=b.D/\a.C.a0<=b.C.a0/\a.C.a1<=b.C.a1/\a.C.a2<=b.C.a2/\a.C.a3<=b.C.a3
instance (a b:af):Decidable (le a b):=by unfold le;infer_instance
theorem le_eq(a b:af):z0l a b=some (decide (le a b)):=by
 unfold z0l z4f;rw[bg a,bg b];simp only[q9,Xs,decide_eq_true_eq,Xi]
 by_cases c:ok a
 .
  rw[if_pos c]
  by_cases hb:ok b/\a.D=b.D
  .
   simp only[Xs,decide_eq_true hb.1,beq_iff_eq.2 hb.2,Bool.and_self,Bool.true_eq_false,if_false];obtain⟨rec,d⟩:=j4c (z2f a b) 0;rw[d];simp only[z2f,i0,i1,i2,i3,g0,g1,g2,g3,w0,w1,w2,w3,q9,Xs,Yz,if_true,if_false,decide_true,decide_false,X9,decide_eq_true_eq]
   repeat' split
   all_goals
    refine congrArg some (Yj.2 ?_);simp only[decide_eq_true_eq,X9,false_iff,eq_self,true_iff];unfold le;have:=hb.1;have:=hb.2
    first|(refine⟨c,hb.1,hb.2,?_⟩;omega)|(rintro⟨-,-,-,h⟩;omega)
  have:(decide (ok b)&&(a.D==b.D))=false:=by
   rw[Bool.eq_false_iff];simpa using hb
  simp only[Xs,this,if_true];exact congrArg some (decide_eq_false λh=>hb ⟨h.2.1,h.2.2.1⟩).symm
 rw[if_neg c];simp only[Xs,if_true];exact congrArg some (decide_eq_false λh=>c h.1).symm
def lst(t:af):List Int:=[t.C.a0,t.C.a1,t.C.a2,t.C.a3].take t.D.toNat
instance:DecidableEq af:=λa b=>
 if h:a.D=b.D/\a.C.a0=b.C.a0/\a.C.a1=b.C.a1/\a.C.a2=b.C.a2/\a.C.a3=b.C.a3 then isTrue (by
  obtain⟨D,⟨a0,a1,a2,a3⟩⟩:=a;obtain⟨E,⟨b0,c,d,f⟩⟩:=b;simp only at h;obtain⟨rfl,rfl,rfl,rfl,rfl⟩:=h;rfl)else isFalse (λe=>h (by rw[e];exact⟨rfl,rfl,rfl,rfl,rfl⟩))
theorem teq(a b:af):((a.D==b.D)&&((a.C.a0==b.C.a0)&&((a.C.a1==b.C.a1)&&((a.C.a2==b.C.a2)&&(a.C.a3==b.C.a3)))))=decide (a=b):=by
 rw[Yj];simp only[Xg,beq_iff_eq,decide_eq_true_eq]
 constructor
 . intro h;obtain⟨D,⟨a0,a1,a2,a3⟩⟩:=a;obtain⟨E,⟨b0,c,d,e⟩⟩:=b;simp only at h;obtain⟨rfl,rfl,rfl,rfl,rfl⟩:=h;rfl
 rintro rfl;exact⟨rfl,rfl,rfl,rfl,rfl⟩
end TS
end
section
open Go Go.RowKit
namespace VA
theorem qn3{α:Type}{l:List α}{i:Int}(d:α)(a:0<=i)(b:i<l.length):idx l i=some (l.getD i.toNat d):=by
 unfold idx;rw[if_pos a,Xv (by omega),Xr,Xv (by omega)];rfl
theorem w1{i:Int}{n:Nat}(a:0<=i)(h:i<n)(b:n<1000000000):IntKind.i64.wrap (i+1)=i+1:=wrap_i64 _ (by omega)
def up(P:List Int):Nat->Int->List Int
 |0,_=>[]
 |k+1,s=>if 0<=s/\s<P.length then s::up P k (P.getD s.toNat 0)else []
def anc(P:List Int)(s:Int):List Int:=up P (s.toNat+1) s
def WP(P:List Int)(m:Nat):Prop:=m<=P.length/\∀s:Int,0<=s->s<m->P.getD s.toNat 0<s/\(0<s->0<=P.getD s.toNat 0)/\(s=0->P.getD s.toNat 0=-1)
def inS(m:Nat)(s:Int):Prop:=s=-1\/0<=s/\s<m
theorem WP.down{P:List Int}{m:Nat}(h:WP P m){s:Int}(e:0<=s)(f:s<m):inS m (P.getD s.toNat 0):=by
 obtain⟨a,b,c⟩:=h.2 s e f;rcases Yq e with d|d
 . exact .inr ⟨b d,by omega⟩
 exact .inl (c d.symm)
theorem j26{P:List Int}{m:Nat}(h:WP P m):∀(k k':Nat) (s:Int),inS m s->s<k->s<k'->up P k s=up P k' s
 |0,k',s,a,c,d=>by
  rcases a with rfl|a
  .
   cases k' with
   |zero=>rfl
   |succ k'=>simp[up]
  omega
 |k+1,0,s,a,c,d=>by
  rcases a with rfl|a
  . simp[up]
  omega
 |k+1,k'+1,s,a,c,d=>by
  simp only[up]
  split
  .
   rename_i e
   have b:s<m:=by
    rcases a with rfl|a
    . omega
    exact a.2
   have hd:=(h.2 s e.1 b).1;rw[j26 h k k' _ (h.down e.1 b) (by omega) (by omega)]
  rfl
theorem q6p(P:List Int):anc P (-1)=[]:=by simp[anc,up]
theorem q46{P:List Int}{m:Nat}(h:WP P m){s:Int}(a:0<=s)(b:s<m):anc P s=s::anc P (P.getD s.toNat 0):=by
 have c:=h.1;have hd:=(h.2 s a b).1;unfold anc;rw[up,if_pos ⟨a,by omega⟩]
 congr 1
 refine j26 h _ _ _ (h.down a b) (by omega) (by omega)
theorem j3a{P:List Int}{m:Nat}(h:WP P m):∀(k:Nat) (s:Int),inS m s->s<k->((anc P s).length:Int)<=s+1
 |0,s,a,b=>by
  rcases a with rfl|a
  . simp[q6p]
  omega
 |k+1,s,a,b=>by
  rcases a with rfl|a
  . simp[q6p]
  rw[q46 h a.1 a.2,Xo];have hd:=(h.2 s a.1 a.2).1;have:=j3a h k _ (h.down a.1 a.2) (by omega);omega
theorem jv4{P:List Int}{m:Nat}(h:WP P m){s:Int}(a:inS m s):(anc P s).length<=m:=by
 have:=j3a h (s.toNat+1) s a (by omega);rcases a with rfl|a
 . simp[q6p]
 omega
theorem z9l{P:List Int}{m:Nat}(h:WP P m):∀(k:Nat) (s:Int),inS m s->s<k->∀x∈anc P s,0<=x/\x<=s
 |0,s,a,c,x,b=>by
  rcases a with rfl|a
  . simp[q6p]at b
  omega
 |k+1,s,a,c,x,b=>by
  rcases a with rfl|a
  . simp[q6p]at b
  rw[q46 h a.1 a.2]at b;rcases Xw.1 b with rfl|b
  . exact⟨a.1,by omega⟩
  have hd:=(h.2 s a.1 a.2).1;have:=z9l h k _ (h.down a.1 a.2) (by omega) x b;omega
theorem j1i{g:aa}{m:Nat}(h:WP g.ae m)(k:m<=8)(l:g.ae.length<=1000){s:Int}(a:inS m s):qj4 g s=some ((anc g.ae s).length:Int):=by
 have c:=h.1;refine k2k (k2j (λp:Int×Int=>inS m p.2/\0<=p.1/\p.1+(anc g.ae p.2).length=(anc g.ae s).length) (λp=>(p.2+1).toNat) ?_ ⟨a,by omega,by simp⟩ (by
  simp only[rounds];rcases a with rfl|a<;>omega))
 rintro rec ⟨d,p⟩ ⟨hi,hd,b⟩ e;have hle:=jv4 h a;dsimp only at hi hd b;simp only[qv8,q2g,q9,Xs];rcases hi with rfl|hi
 . simp only[show ¬((0:Int)<=-1) by omega,decide_false,Bool.false_and,X9,if_false];rw[q6p]at b;exact Ok.some (by simpa using b)
 rw[q46 h hi.1 hi.2,Xo]at b;rw[if_pos (by simp only[Xg,decide_eq_true_eq];omega)];refine k2g (Ok.dg hi.1 (by omega) (Q:=λx=>x=g.ae.getD p.toNat 0) λx f=>by rw[Xr,f];rfl) ?_;rintro x rfl;rw[wrap_i64 _ (by omega)];have j:=(h.2 p hi.1 hi.2).1;exact e _ ⟨h.down hi.1 hi.2,by omega,by simp only;omega⟩ (by simp only;omega)
def sOk(g:aa)(s:Nat):Bool:=
 if s=0 then g.ae.getD 0 0==-1&&g.aG.getD 0 0==0
 else decide (0<=g.ae.getD s 0/\g.ae.getD s 0<s/\1<=g.aG.getD s 0/\g.aG.getD s 0<=64)&&decide ((anc g.ae s).length<=4)
theorem WP.of{g:aa}{m:Nat}(a:m<=g.ae.length)(h:∀s<m,sOk g s=true):WP g.ae m:=by
 refine⟨a,λs c d=>?_⟩;have:=h s.toNat (by omega);unfold sOk at this
 split at this
 .
  rename_i b
  rw[Xg,beq_iff_eq]at this;rw[b,this.1];exact⟨by omega,by omega,λ_=>rfl⟩
 rw[Xg,decide_eq_true_eq]at this;exact⟨by omega,λ_=>this.1.1,by omega⟩
theorem WP.next{g:aa}{m:Nat}(h:WP g.ae m)(f:m<g.ae.length)(j:0<m)(c:0<=g.ae.getD m 0)(d:g.ae.getD m 0<m):WP g.ae (m+1):=by
 refine⟨by omega,λs a e=>?_⟩;rcases Yq (show s<=m by omega)with b|rfl
 . exact h.2 s a b
 simp only[Xd];exact⟨d,λ_=>c,by omega⟩
theorem getD_some{α:Type}{l:List α}{i:Nat}{x d:α}(h:l[i]?=some x):x=l.getD i d:=by rw[Xr,h];rfl
theorem j8s{g:aa}{s:Nat}(hb:g.aG.length=g.ae.length)(l:g.ae.length<=8)(f:s<g.ae.length)(h:∀t<s,sOk g t=true):qi9 g s=some (sOk g s):=by
 have j:=WP.of (m:=s) (by omega) h;unfold qi9 sOk
 by_cases e:s=0
 . subst e;simp only[Int.natCast_zero,beq_self_eq_true,if_true];refine k2k (k2g (Ok.dg (by omega) (by omega) (Q:=λx=>x=g.ae.getD 0 0) λx b=>getD_some b) ?_);rintro x rfl;refine k2h (λa=>?_) (λa=>Ok.some (by rw[a];rfl));refine k2g (Ok.dg (by omega) (by omega) (Q:=λx=>x=g.aG.getD 0 0) λx b=>getD_some b) ?_;rintro x rfl;exact Ok.some (by rw[a];rfl)
 rw[if_neg (by simp;omega),if_neg e];refine k2k (k2g (Ok.dg (by omega) (by omega) (Q:=λx=>x=g.ae.getD s 0) λx b=>getD_some b) ?_);rintro x rfl;simp only[q2g,q9,Xs];refine k2h (λa=>?_) (λa=>Ok.some ?_)
 .
  simp only[Xg,decide_eq_true_eq]at a;have k:=j.next f (by omega) a.1 a.2;refine k2g (Ok.dg (by omega) (by omega) (Q:=λx=>x=g.aG.getD s 0) λx b=>getD_some b) ?_;rintro x rfl;refine k2h (λc=>?_) (λc=>Ok.some ?_)
  .
   refine k2h (λd=>?_) (λd=>Ok.some ?_)
   .
    simp only[decide_eq_true_eq]at c d;refine k2g (Ok.of_eq (j1i k (by omega) (by omega) (s:=s) (.inr ⟨by omega,by omega⟩)) (Q:=λx=>x=((anc g.ae s).length:Int)) rfl) ?_;rintro x rfl;refine Ok.some ?_;rw[decide_eq_true (show 0<=g.ae.getD s 0/\g.ae.getD s 0<s/\1<=g.aG.getD s 0/\g.aG.getD s 0<=64 from ⟨a.1,a.2,c,d⟩)];simp only[Z8]
    congr 1
    apply propext;omega
   simp only[decide_eq_false_iff_not]at d;rw[decide_eq_false (by omega)];rfl
  simp only[decide_eq_false_iff_not]at c;rw[decide_eq_false (by omega)];rfl
 rw[Xp,decide_eq_false_iff_not,decide_eq_false_iff_not]at a;rw[decide_eq_false (by omega)];rfl
end VA
end
section
open Go Go.RowKit
namespace VA
theorem dm{α b a R:Type}{l:List α}(p:l.length<9223372036854775807){body:(a->Option R)->a->Option R}(st:Int->b->a)(ix:a->Int)(c:∀i s,ix (st i s)=i)(I:Nat->b->Prop){Q:R->Prop}{s0:b}(i0:Nat)
 (h:∀(rec:a->Option R) (i:Nat) (_:i<l.length) s,i0<=i->I i s->(∀s',I (i+1) s'->Ok (rec (st ((i+1:Nat):Int) s')) Q)->Ok (body rec (st (i:Int) s)) Q)
 (j:∀(rec:a->Option R) s,I l.length s->Ok (body rec (st (l.length:Int) s)) Q)(k:I i0 s0)(d:i0<=l.length):Ok (q02 body rounds (st (i0:Int) s0)) Q:=by
 refine k2j (λt=>∃(i:Nat) (s:b),t=st (i:Int) s/\i0<=i/\i<=l.length/\I i s) (λt=>l.length-(ix t).toNat) ?_ ⟨i0,s0,rfl,Xt _,d,k⟩ (by simp only[rounds];omega);rintro rec _ ⟨i,s,rfl,m,q,g⟩ n;rcases Y0 i l.length with e|o
 . exact h rec i e s m g λs' f=>n _ ⟨i+1,s',rfl,by omega,by omega,f⟩ (by simp only[c,Xd];omega)
 obtain rfl:i=l.length:=by omega
 exact j rec s g
def z9d(L:Nat)(x:cy):Bool:=!(decide (x.Op<1)||decide (16<x.Op))&&(if x.Op=14\/x.Op=15 then !(decide (x.N<0)||decide ((L:Int)<x.N))else (x.Op==1||x.N==0))
def pOk(p:List cy):Bool:=decide (p.length<=64)&&p.all (z9d p.length)
theorem jv6{α:Type}{l:List α}{f:α->Bool}{i:Nat}(h:i<l.length)(a:f l[i]=false):l.all f=false:=List.all_eq_false.2 ⟨_,Xj h,by simp[a]⟩
theorem iw{i:Nat}{N:Nat}(h:i<N)(a:N<9223372036854775807):IntKind.i64.wrap ((i:Int)+1)=((i+1:Nat):Int):=by rw[wrap_i64 _ (by omega)];omega
theorem j67(p:List cy):q84 p=some (pOk p):=by
 unfold q84;refine k2k (k2h (λh=>Ok.some ?_) (λh=>?_))
 . simp only[decide_eq_true_eq]at h;unfold pOk;rw[decide_eq_false (by omega)];rfl
 simp only[decide_eq_false_iff_not]at h;have hp:pOk p=p.all (z9d p.length):=by unfold pOk;rw[decide_eq_true (by omega)];simp
 refine k2l (l:=p) (by omega) (λi=>∀x∈p.take i,z9d p.length x=true) 0 (λrec i hi _ f m=>?_) (λrec f=>?_) (by simp) (Xm _)
 .
  unfold q8b;rw[if_pos (by simp only[decide_eq_true_eq];omega)];refine Ok.bind (k2i hi ?_);have c:z9d p.length p[i]=false->pOk p=false:=λk=>by rw[hp];exact jv6 hi k
  have b:z9d p.length p[i]=true->Ok (rec (IntKind.i64.wrap ((i:Int)+1))) (λr=>r=pOk p):=λk=>by
   rw[iw hi (by omega)];exact m ((qk4 hi).2 ⟨f,k⟩)
  have hd:z9d p.length p[i]=(!(decide (p[i].Op<1)||decide (16<p[i].Op))&&(if p[i].Op=14\/p[i].Op=15 then !(decide (p[i].N<0)||decide ((p.length:Int)<p[i].N))else (p[i].Op==1||p[i].N==0))):=rfl;refine k2h (λg=>Ok.some ?_) (λg=>?_)
  . rw[c (by rw[hd,g];rfl)]
  simp only[qo2,q9,Xs];refine k2h (λd=>?_) (λd=>?_)
  .
   simp only[Ye,beq_iff_eq]at d;refine k2h (λa=>Ok.some ?_) (λa=>b ?_)
   . rw[c (by rw[hd,if_pos d,a];simp)]
   rw[hd,if_pos d,a,g];rfl
  have e:¬(p[i].Op=14\/p[i].Op=15):=by
   intro j;rcases j with j|j<;>rw[j]at d<;>simp at d
  refine k2h (λa=>Ok.some ?_) (λa=>b ?_)
  . simp only[Xg,Xi,beq_eq_false_iff_ne,ne_eq]at a;rw[c (by rw[hd,if_neg e,beq_eq_false_iff_ne.2 a.1,beq_eq_false_iff_ne.2 a.2];simp)]
  rw[hd,if_neg e,g];simp only[Xp,Xn,beq_iff_eq]at a;rcases a with a|a<;>simp[a]
 unfold q8b;rw[if_neg (by simp)];refine Ok.some ?_;rw[Xh]at f;rw[hp];exact (List.all_eq_true.2 f).symm
def nd(g:aa)(n:Nat):aN:=g.al.getD n ⟨0,0,0,[]⟩
def fits(g:aa)(n:Nat):Bool:=
 if n=0 then (nd g n).Scope==0
 else decide ((nd g n).Scope∈anc g.ae (nd g (n-1)).Scope)||(decide (g.ae.getD (nd g n).Scope.toNat 0∈anc g.ae (nd g (n-1)).Scope)&&!(g.al.take n).any λx=>x.Scope==(nd g n).Scope)
theorem q7i{g:aa}{n:Nat}(h:n<g.al.length):g.al[n]=nd g n:=by unfold nd;rw[Xr,Xv h];rfl
theorem j21{s:List aN}{f:aN->Option Bool}{p:aN->Bool}(a:s.length<9223372036854775808)(b:∀x∈s,f x=some (p x)):q6j s f=some (s.any p):=qg6 a b
def inN(g:aa)(x:aN):Prop:=0<=x.Scope/\x.Scope<g.ae.length
theorem j7k{g:aa}(k:WP g.ae g.ae.length)(C:g.ae.length<=8)(D:g.al.length<1000000){n:Nat}(u:n<g.al.length)(b:inN g (nd g n))(hb:0<n->inN g (nd g (n-1))):qf0 g n=some (fits g n):=by
 unfold qf0 fits;refine k2k (Ok.bind (k2i u ?_));rw[q7i u]
 by_cases w:n=0
 . subst w;simp only[Int.natCast_zero,beq_self_eq_true,if_true];exact Ok.some rfl
 rw[if_neg (by simp;omega),if_neg w];have c:=hb (by omega);have y:IntKind.i64.wrap ((n:Int)-1)=((n-1:Nat):Int):=by rw[wrap_i64 _ (by omega)];omega
 rw[y];refine Ok.bind (k2i (show n-1<g.al.length by omega) ?_);rw[q7i (show n-1<g.al.length by omega)];refine k2g (Ok.dg b.1 (by exact b.2) (Q:=λx=>x=g.ae.getD (nd g n).Scope.toNat 0) λx b=>getD_some b) ?_;rintro o rfl;have l:inS g.ae.length (nd g (n-1)).Scope:=.inr c;have z:∀fresh:Bool,Ok (q8o g n (nd g n) fresh) (λr=>r=(fresh&&!(g.al.take n).any λx=>x.Scope==(nd g n).Scope)):=λfresh=>by
  unfold q8o;refine k2h (λa=>?_) (λa=>Ok.some (by rw[a];rfl));refine Ok.guard (by omega) ?_;rw[Xd,j21 (f:=λm=>q98 m (nd g n).Scope) (p:=λx=>x.Scope==(nd g n).Scope) (by rw[Xf];omega) (λx _=>rfl)];exact Ok.bind (Ok.some (Ok.some (by rw[a];rfl)))
 refine k2j (λp:Bool×Int=>inS g.ae.length p.2/\∃pre,anc g.ae (nd g (n-1)).Scope=pre++anc g.ae p.2/\(nd g n).Scope∉pre/\p.1=decide (g.ae.getD (nd g n).Scope.toNat 0∈pre)) (λp=>(p.2+1).toNat) ?_ ⟨l,[],by simp,by simp,by simp⟩ (by
  simp only[rounds];have:=c.2;omega)
 rintro rec ⟨fresh,p⟩ ⟨hi,pre,d,e,s⟩ A;dsimp only at hi d s;unfold qr9;dsimp only;rcases hi with rfl|hi
 . rw[if_neg (by simp)];rw[q6p,X7]at d;refine Ok.mono (z fresh) λr t=>?_;rw[t,d,decide_eq_false e,s];simp
 rw[if_pos (by simpa using hi.1)];have j:=q46 k hi.1 hi.2;refine k2h (λa=>Ok.some ?_) (λa=>?_)
 . rw[beq_iff_eq]at a;rw[decide_eq_true (show (nd g n).Scope∈anc g.ae (nd g (n-1)).Scope by rw[d,j,a];simp)];rfl
 rw[beq_eq_false_iff_ne]at a;refine k2g (Ok.dg hi.1 hi.2 (Q:=λx=>x=g.ae.getD p.toNat 0) λx b=>getD_some b) ?_;rintro q rfl;have B:=(k.2 p hi.1 hi.2).1;refine A _ ⟨k.down hi.1 hi.2,pre++[p],by rw[d,j];simp,by simp;exact⟨e,Ne.symm a⟩,?_⟩ (by simp only;omega);simp only[s,Xk,Xx];rw[Bool.decide_or]
 congr 1
 rw[Bool.beq_eq_decide_eq]
 congr 1;apply propext;exact eq_comm
end VA
end
section
open Go Go.RowKit
namespace VA
instance (g:aa)(x:aN):Decidable (inN g x):=inferInstanceAs (Decidable (_/\_))
def q91(g:aa)(n:Nat):Int:=
 if (nd g n).Kind<1\/15<(nd g n).Kind then 1
 else if ¬inN g (nd g n)\/((nd g n).Kind=10\/(nd g n).Kind=11\/(nd g n).Kind=12)/\(nd g n).Scope=0\/((nd g n).Kind=1\/(nd g n).Kind=15)/\(nd g n).Scope≠0 then 6
 else if fits g n=false then 6
 else if (nd g n).Kind=4/\(nd g n).Arg<1\/(nd g n).Kind≠4/\(nd g n).Kind≠3/\(nd g n).Arg≠0 then 1
 else if pOk (nd g n).Prog=false\/(nd g n).Kind≠2/\0<(nd g n).Prog.length then 13 else 0
section
variable {g:aa} (hw:WP g.ae g.ae.length) (h8:g.ae.length<=8) (hl:g.al.length<1000000)
include hw h8 hl
theorem jj2{n:Nat}(l:n<g.al.length)(hb:0<n->inN g (nd g (n-1))):qn7 g n=some (q91 g n):=by
 unfold qn7 q91;refine k2k (Ok.bind (k2i l ?_));rw[q7i l];simp only[qp7,q2g,q9,Xs];refine k2h (λf=>Ok.some ?_) (λf=>?_)
 . simp only[Ye,decide_eq_true_eq]at f;rw[if_pos f]
 simp only[X5,decide_eq_false_iff_not]at f;have n1:¬((nd g n).Kind<1\/15<(nd g n).Kind):=by omega
 refine k2h (λj=>Ok.some ?_) (λj=>?_)
 . simp only[Ye,Xg,Xi,Xp,decide_eq_false_iff_not,beq_iff_eq,beq_eq_false_iff_ne,ne_eq]at j;rw[if_neg n1,if_pos (by unfold inN;omega)]
 simp only[X5,Xp,Xn,Xg,decide_eq_true_eq,beq_iff_eq,beq_eq_false_iff_ne,ne_eq]at j;have c:inN g (nd g n):=j.1.1;have k:¬(¬inN g (nd g n)\/((nd g n).Kind=10\/(nd g n).Kind=11\/(nd g n).Kind=12)/\(nd g n).Scope=0\/((nd g n).Kind=1\/(nd g n).Kind=15)/\(nd g n).Scope≠0):=by
  intro b;rcases b with b|b|b
  . exact b c
  all_goals omega
 rw[j7k hw h8 hl l c hb];refine Ok.bind (Ok.some ?_);refine k2h (λd=>Ok.some ?_) (λd=>?_)
 . rw[Xi]at d;rw[if_neg n1,if_neg k,if_pos d]
 rw[Xn]at d;have m:¬(fits g n=false):=by simp[d]
 refine k2h (λo=>Ok.some ?_) (λo=>?_)
 . simp only[Ye,Xg,Xi,decide_eq_true_eq,beq_iff_eq,beq_eq_false_iff_ne,ne_eq]at o;rw[if_neg n1,if_neg k,if_neg m,if_pos (by omega)]
 simp only[X5,Xp,Xn,decide_eq_false_iff_not,beq_iff_eq,beq_eq_false_iff_ne,ne_eq]at o;have p:¬((nd g n).Kind=4/\(nd g n).Arg<1\/(nd g n).Kind≠4/\(nd g n).Kind≠3/\(nd g n).Arg≠0):=by omega
 rw[j67];refine Ok.bind (Ok.some ?_);refine k2h (λe=>Ok.some ?_) (λe=>Ok.some ?_)
 . simp only[Ye,Xg,Xi,decide_eq_true_eq,beq_eq_false_iff_ne,ne_eq]at e;rw[if_neg n1,if_neg k,if_neg m,if_neg p,if_pos (e.elim .inl λh=> .inr ⟨h.1,by have:=h.2;omega⟩)]
 simp only[X5,Xp,Xn,decide_eq_false_iff_not,beq_iff_eq]at e;rw[if_neg n1,if_neg k,if_neg m,if_neg p,if_neg (λb=>b.elim (λa=>by rw[e.1]at a;cases a) λa=>by omega)]
end
theorem q7t{g:aa}{n:Nat}(h:q91 g n=0):(1<=(nd g n).Kind/\(nd g n).Kind<=15)/\inN g (nd g n)/\(((nd g n).Kind=10\/(nd g n).Kind=11\/(nd g n).Kind=12)->(nd g n).Scope≠0)/\(((nd g n).Kind=1\/(nd g n).Kind=15)->(nd g n).Scope=0)/\fits g n=true/\
 ((nd g n).Kind=4->1<=(nd g n).Arg)/\((nd g n).Kind≠4->(nd g n).Kind≠3->(nd g n).Arg=0)/\pOk (nd g n).Prog=true/\((nd g n).Kind≠2->(nd g n).Prog=[]):=by
 unfold q91 at h
 split at h
 . cases h
 split at h
 . cases h
 split at h
 . cases h
 split at h
 . cases h
 split at h
 . cases h
 rename_i j a f k e
 rw[not_or]at a e;have c:inN g (nd g n):=Decidable.byContradiction a.1;rw[not_or]at a;refine⟨by omega,c,λb d=>a.2.1 ⟨b,d⟩,λb=>Decidable.byContradiction λd=>a.2.2 ⟨b,d⟩,by simpa using f,by omega,by omega,by simpa using e.1,λb=>Xy (by omega)⟩
def bo(k:Int):Int:=if k=5\/k=9 then 2 else if 1<k/\k<=15 then 1 else 0
theorem j1d(k:Int):qa3 k=some (bo k):=by
 unfold qa3 bo;simp only[Ye,Xg,beq_iff_eq,decide_eq_true_eq]
 split
 . rfl
 split<;>rfl
def ed(g:aa)(n:Nat):aU:=g.aw.getD n ⟨0,0,0,false⟩
theorem j0n{g:aa}{n:Nat}(h:n<g.aw.length):g.aw[n]=ed g n:=by unfold ed;rw[Xr,Xv h];rfl
def ndI(g:aa)(i:Int):aN:=nd g i.toNat
def q0s(g:aa)(x:aN):Int:=if x.Kind=10 then g.ae.getD x.Scope.toNat 0 else x.Scope
def q3n(g:aa)(x:aN):Int:=if x.Kind=11 then g.ae.getD x.Scope.toNat 0 else x.Scope
def z5o(k:Int):Bool:=decide (6<=k/\k<=9\/k=14)
def inG(g:aa)(i:Int):Prop:=0<=i/\i<g.al.length
instance (g:aa)(i:Int):Decidable (inG g i):=inferInstanceAs (Decidable (_/\_))
def qr2(g:aa)(n:Nat):Int:=
 if ¬(inG g (ed g n).aO/\inG g (ed g n).To)then 7
 else if (ndI g (ed g n).aO).Kind=15\/¬(0<=(ed g n).Port/\(ed g n).Port<bo (ndI g (ed g n).To).Kind)then 7
 else if q3n g (ndI g (ed g n).aO)≠q0s g (ndI g (ed g n).To)then 6
 else if (ed g n).To<=(ed g n).aO/\(ndI g (ed g n).aO).Kind≠12 then 8
 else if z5o (ndI g (ed g n).To).Kind=true/\(ed g n).bR=false then 1
 else if (g.aw.take n).any (λe=>e.To==(ed g n).To&&e.Port==(ed g n).Port)=true then 7 else 0
theorem j1k{s:List aU}{f:aU->Option Bool}{p:aU->Bool}(a:s.length<9223372036854775808)(b:∀x∈s,f x=some (p x)):q6k s f=some (s.any p):=qg6 a b
theorem j74{l:List aU}(a b:Int)(d:l.length<1000000):qk9 l a b=some (l.any λe=>e.To==a&&e.Port==b):=by
 unfold qk9;rw[j1k (f:=λc=>qj2 c a b) (p:=λe=>e.To==a&&e.Port==b) (by omega) (λx _=>rfl)];rfl
section
variable {g:aa} (hN:∀n<g.al.length,q91 g n=0) (hl:g.al.length<1000000) (hE:g.aw.length<1000000)
include hN
theorem j6k{i:Int}(h:inG g i):inN g (ndI g i)/\1<=(ndI g i).Kind/\(ndI g i).Kind<=15:=by
 have:=q7t (hN i.toNat (by have:=h.1;have:=h.2;omega));exact⟨this.2.1,this.1⟩
omit hN in
theorem j05{i:Int}(h:inG g i):idx g.al i=some (ndI g i):=qn3 _ h.1 h.2
theorem zc5{i:Int}(h:inG g i):qj1 g (ndI g i)=some (q3n g (ndI g i)):=by
 have a:=(j6k hN h).1;unfold qj1 q3n;simp only[beq_iff_eq]
 split
 . rw[qn3 0 a.1 a.2];rfl
 rfl
theorem j8d{i:Int}(h:inG g i):q7a g (ndI g i)=some (q0s g (ndI g i)):=by
 have a:=(j6k hN h).1;unfold q7a q0s;simp only[beq_iff_eq]
 split
 . rw[qn3 0 a.1 a.2];rfl
 rfl
include hE
theorem jl8{n:Nat}(s:n<g.aw.length):qn9 g n=some (qr2 g n):=by
 unfold qn9 qr2;refine k2k (Ok.bind (k2i s ?_));rw[j0n s];simp only[q2g];refine Ok.bind (Ok.some ?_);refine k2h (λc=>?_) (λc=>Ok.some ?_)
 rotate_left
 . rw[if_pos];simp only[Xp,decide_eq_false_iff_not]at c;unfold inG;omega
 simp only[Xg,decide_eq_true_eq]at c;refine Ok.bind (Ok.some ?_);refine k2h (λd=>Ok.some ?_) (λd=>?_)
 . rw[if_pos];simp only[Xi,Xp,decide_eq_false_iff_not]at d;unfold inG;omega
 simp only[Xn,Xg,decide_eq_true_eq]at d;have n1:¬¬(inG g (ed g n).aO/\inG g (ed g n).To):=by simp only[inG];omega
 rw[j05 c,j05 d];refine Ok.bind (Ok.some (Ok.bind (Ok.some ?_)));refine k2h (λj=>Ok.some ?_) (λj=>?_)
 . rw[beq_iff_eq]at j;rw[if_neg n1,if_pos (.inl j)]
 rw[beq_eq_false_iff_ne]at j;rw[j1d];refine Ok.bind (Ok.some (Ok.bind (Ok.some ?_)));refine k2h (λo=>Ok.some ?_) (λo=>?_)
 . simp only[Xi,Xp,decide_eq_false_iff_not]at o;rw[if_neg n1,if_pos (by omega)]
 simp only[Xn,Xg,decide_eq_true_eq]at o;have e:¬((ndI g (ed g n).aO).Kind=15\/¬(0<=(ed g n).Port/\(ed g n).Port<bo (ndI g (ed g n).To).Kind)):=by omega
 rw[zc5 hN c,j8d hN d];refine Ok.bind (Ok.some (Ok.bind (Ok.some ?_)));refine k2h (λk=>Ok.some ?_) (λk=>?_)
 . rw[Xi,beq_eq_false_iff_ne]at k;rw[if_neg n1,if_neg e,if_pos k]
 rw[Xn,beq_iff_eq]at k;have l:¬(q3n g (ndI g (ed g n).aO)≠q0s g (ndI g (ed g n).To)):=by omega
 refine k2h (λm=>Ok.some ?_) (λm=>?_)
 . simp only[Xg,decide_eq_true_eq,Xi,beq_eq_false_iff_ne,ne_eq]at m;rw[if_neg n1,if_neg e,if_neg l,if_pos m]
 simp only[Xp,decide_eq_false_iff_not,Xn,beq_iff_eq]at m;have p:¬((ed g n).To<=(ed g n).aO/\(ndI g (ed g n).aO).Kind≠12):=by omega
 have u:qj0 (ndI g (ed g n).To).Kind=some (z5o (ndI g (ed g n).To).Kind):=by
  unfold qj0 z5o
  congr 1
  rw[Yj];simp
 rw[u];refine Ok.bind (Ok.some ?_);refine k2h (λf=>Ok.some ?_) (λf=>?_)
 . simp only[Xg,Xi]at f;rw[if_neg n1,if_neg e,if_neg l,if_neg p,if_pos f]
 have t:¬(z5o (ndI g (ed g n).To).Kind=true/\(ed g n).bR=false):=by rintro⟨a,b⟩;rw[a,b]at f;cases f
 refine Ok.guard (by omega) ?_;rw[Xd,j74 _ _ (by rw[Xf];omega)];refine Ok.bind (Ok.some ?_);refine k2h (λq=>Ok.some ?_) (λq=>Ok.some ?_)
 . rw[if_neg n1,if_neg e,if_neg l,if_neg p,if_neg t,if_pos q]
 rw[if_neg n1,if_neg e,if_neg l,if_neg p,if_neg t,if_neg (by simp[q])]
end
end VA
end
section
open Go Go.RowKit
namespace VA
theorem zi7{g:aa}{n:Nat}(h:qr2 g n=0):inG g (ed g n).aO/\inG g (ed g n).To/\(ndI g (ed g n).aO).Kind≠15/\(0<=(ed g n).Port/\(ed g n).Port<bo (ndI g (ed g n).To).Kind)/\q3n g (ndI g (ed g n).aO)=q0s g (ndI g (ed g n).To)/\
 ((ed g n).To<=(ed g n).aO->(ndI g (ed g n).aO).Kind=12)/\(z5o (ndI g (ed g n).To).Kind=true->(ed g n).bR=true)/\(g.aw.take n).any (λe=>e.To==(ed g n).To&&e.Port==(ed g n).Port)=false:=by
 unfold qr2 at h
 split at h
 . cases h
 split at h
 . cases h
 split at h
 . cases h
 split at h
 . cases h
 split at h
 . cases h
 split at h
 . cases h
 rename_i d b f j k l
 have a:=Decidable.byContradiction d;rw[not_or]at b;refine⟨a.1,a.2,b.1,Decidable.byContradiction b.2,Decidable.byContradiction f,λm=>Decidable.byContradiction λc=>j ⟨m,c⟩,λc=>?_,by simpa using l⟩
 cases o:(ed g n).bR
 . exact absurd ⟨c,o⟩ k
 rfl
def eQ(g:aa):Prop:=∀n<g.aw.length,qr2 g n=0
theorem jr6{g:aa}{e:aU}(h:e∈g.aw):∃n,n<g.aw.length/\ed g n=e:=by
 obtain⟨n,a,rfl⟩:=Ya.1 h;exact⟨n,a,(j0n a).symm⟩
theorem eQ.at{g:aa}(h:eQ g){e:aU}(a:e∈g.aw):inG g e.aO/\inG g e.To/\(ndI g e.aO).Kind≠15/\(0<=e.Port/\e.Port<bo (ndI g e.To).Kind)/\q3n g (ndI g e.aO)=q0s g (ndI g e.To)/\
 (e.To<=e.aO->(ndI g e.aO).Kind=12)/\(z5o (ndI g e.To).Kind=true->e.bR=true):=by
 obtain⟨n,b,rfl⟩:=jr6 a;have:=zi7 (h n b);exact⟨this.1,this.2.1,this.2.2.1,this.2.2.2.1,this.2.2.2.2.1,this.2.2.2.2.2.1,this.2.2.2.2.2.2.1⟩
theorem eQ.pw{g:aa}(h:eQ g):g.aw.Pairwise λa b=>¬(a.To=b.To/\a.Port=b.Port):=by
 rw[Yf];intro i j hi c f d;have e:=(zi7 (h j c)).2.2.2.2.2.2.2;rw[List.any_eq_false]at e;refine e g.aw[i] ?_ ?_
 . exact Ya.2 ⟨i,by rw[Xf];omega,by simp⟩
 rw[<-j0n c,d.1,d.2];simp
def zj1(g:aa)(n:Nat):Nat:=(g.aw.filter λe=>e.To==(n:Int)).length
theorem few{L:List Int}{k:Int}(j:k=0\/k=1\/k=2)(e:L.Pairwise (· ≠·))(d:∀x∈L,0<=x/\x<k):(∀p:Int,0<=p->p<k->p∈L)↔k<=L.length:=by
 rcases j with rfl|rfl|rfl
 . exact⟨λ_=>by omega,λ_ p c g=>by omega⟩
 .
  constructor
  . intro h;have:=Zy (h 0 (by omega) (by omega));omega
  intro h p c g
  match L,h with
  |[],h=>simp at h
  |a::L,_=>
   have:=d a Y3;have:a=p:=by omega
   rw[this];exact Y3
 constructor
 .
  intro h;have f:=h 0 (by omega) (by omega);have c:=h 1 (by omega) (by omega)
  match L,f,c with
  |[a],f,c=>
   simp at f c;omega
  |a::b::L,_,_=>simp only[Xo];omega
 intro h p c g
 match L,e,d,h with
 |[],_,_,h=>simp at h
 |[a],_,_,h=>simp at h
 |a::b::L,e,d,_=>
  have m:=d a (by simp);have hb:=d b (by simp);have l:a≠b:=(X4.1 e).1 b (by simp);have:p=a\/p=b:=by omega
  rcases this with rfl|rfl<;>simp
theorem zx8(k:Int):bo k=0\/bo k=1\/bo k=2:=by
 unfold bo;split
 . exact .inr (.inr rfl)
 split
 . exact .inr (.inl rfl)
 exact .inl rfl
theorem j32{g:aa}(h:eQ g)(n:Nat):(∀p:Int,0<=p->p<bo (nd g n).Kind->(g.aw.any λe=>e.To==(n:Int)&&e.Port==p)=true)↔bo (nd g n).Kind<=zj1 g n:=by
 have k:=few (L:=(g.aw.filter λe=>e.To==(n:Int)).map (·.Port)) (zx8 (nd g n).Kind) ?_ ?_
 .
  rw[Yr]at k;rw[zj1,<-k];refine forall_congr' λp=>forall_congr' λ_=>forall_congr' λ_=>?_;rw[List.any_eq_true,Yn]
  constructor
  . rintro⟨e,c,hp⟩;simp only[Xg,beq_iff_eq]at hp;exact⟨e,X0.2 ⟨c,by simp[hp.1]⟩,hp.2⟩
  rintro⟨e,c,rfl⟩;have:=X0.1 c;exact⟨e,this.1,by simp only[Xg];exact⟨this.2,by simp⟩⟩
 . rw[Wg];refine (h.pw.sublist Z9).imp_of_mem ?_;intro a b l hb j hp;have d:=(X0.1 l).2;have f:=(X0.1 hb).2;rw[beq_iff_eq]at d f;exact j ⟨d.trans f.symm,hp⟩
 intro x m;obtain⟨e,c,rfl⟩:=Yn.1 m;have d:=X0.1 c;have f:=(h.at d.1).2.2.2.1;have o:e.To=n:=by simpa using d.2
 rw[o]at f;exact f
theorem jk3{g:aa}(h:eQ g)(f:g.aw.length<1000000){n:Nat}(d:n<g.al.length):qn8 g n=some (decide (bo (nd g n).Kind<=zj1 g n)):=by
 unfold qn8;refine k2k (Ok.bind (k2i d ?_));rw[q7i d,j1d];refine Ok.bind (Ok.some ?_);have q:=zx8 (nd g n).Kind;have j:((Zm (bo (nd g n).Kind).toNat).length:Int)=bo (nd g n).Kind:=by rw[Wh];omega
 refine k2l (l:=Zm (bo (nd g n).Kind).toNat) (by rw[Wh];omega) (λi=>∀p:Int,0<=p->p<i->(g.aw.any λe=>e.To==(n:Int)&&e.Port==p)=true) 0 (λrec i hi _ b k=>?_) (λrec b=>?_) (by intro p a c;omega) (Xm _)
 .
  unfold ql5;rw[if_pos (by simp only[decide_eq_true_eq];omega),j74 _ _ f];refine Ok.bind (Ok.some ?_);refine k2h (λa=>Ok.some ?_) (λa=>?_)
  .
   rw[Xi]at a
   symm;rw[decide_eq_false_iff_not,<-j32 h]
   intro m;rw[m i (by omega) (by omega)]at a;cases a
  rw[Xn]at a;rw[iw hi (by omega)];refine k λp c s=>?_;rcases Yq (show p<=i by omega)with o|rfl
  . exact b p c o
  exact a
 unfold ql5;rw[if_neg (by simp only[decide_eq_true_eq];omega)];refine Ok.some ?_
 symm;rw[decide_eq_true_eq,<-j32 h]
 exact λp a c=>b p a (by omega)
def gf(P:List Int)(s:Int):List Int:=anc P (P.getD s.toNat 0)
section
variable {g:aa} (hw:WP g.ae g.ae.length) (h8:g.ae.length<=8)
include hw h8
theorem j88{s o:Int}(e:0<=o)(f:o<g.ae.length):qi8 g s o=some (decide (s∈gf g.ae o)):=by
 unfold qi8 gf;rw[qn3 0 e f];refine k2k (Ok.bind (Ok.some ?_));have hd:=hw.down e f;refine k2j (λp:Int=>inS g.ae.length p/\∃pre,anc g.ae (g.ae.getD o.toNat 0)=pre++anc g.ae p/\s∉pre) (λp=>(p+1).toNat) ?_ ⟨hd,[],by simp,by simp⟩ (by
  simp only[rounds];rcases hd with hd|hd<;>omega)
 rintro rec p ⟨hi,pre,d,a⟩ j;unfold qv7;rcases hi with rfl|hi
 . rw[if_neg (by simp)];rw[q6p,X7]at d;exact Ok.some (by rw[d,decide_eq_false a])
 rw[if_pos (by simpa using hi.1)];have b:=q46 hw hi.1 hi.2;refine k2h (λc=>Ok.some ?_) (λc=>?_)
 . rw[beq_iff_eq]at c;rw[decide_eq_true (by rw[d,b,c];simp)]
 rw[beq_eq_false_iff_ne]at c;rw[qn3 0 hi.1 hi.2];refine Ok.bind (Ok.some ?_);have k:=(hw.2 p hi.1 hi.2).1;exact j _ ⟨hw.down hi.1 hi.2,pre++[p],by rw[d,b];simp,by rw[Xk,not_or,Xx];exact⟨a,Ne.symm c⟩⟩ (by first|omega|(simp only;omega))
end
def fg(g:aa)(s x:Int):Bool:=!((ndI g x).Kind==12&&decide ((ndI g x).Scope∈gf g.ae s))
def leaves(g:aa)(s x:Int):Bool:=(ndI g x).Kind==11&&(ndI g x).Scope==s
inductive Rch(g:aa)(s:Int):Int->Prop
 |fS (e:aU) (he:e∈g.aw) (h:leaves g s e.aO=true):Rch g s e.To
 |step (e:aU) (he:e∈g.aw) (h:Rch g s e.aO) (hx:fg g s e.aO=true):Rch g s e.To
def atB(l:List Bool)(i:Int):Bool:=l.getD i.toNat false
theorem j37{l:List Bool}{i j:Int}(a:0<=i)(b:i<l.length)(c:0<=j):atB (l.set i.toNat true) j=if j=i then true else atB l j:=by
 unfold atB;rw[Xr,List.getElem?_set]
 by_cases h:j=i
 . subst h;rw[if_pos rfl,if_pos (by omega),if_pos rfl];rfl
 rw[if_neg (by omega),if_neg h,Xr]
def cf(l:List Bool):Nat:=(l.filter λb=>!b).length
theorem j7f:∀{l:List Bool} {i:Nat},l[i]?=some false->cf (l.set i true)+1=cf l
 |[],i,h=>by simp at h
 |b::l,0,h=>by
  simp only[List.getElem?_cons_zero,Option.some.injEq]at h;subst h;simp[cf]
 |b::l,i+1,h=>by
  have:=j7f (l:=l) (i:=i) (by simpa using h);unfold cf at this⊢
  cases b<;>simp only[Zh,Zp,Bool.not_false,Bool.not_true,if_true,X9,if_false,Xo]<;>omega
def Sub(a b:List Bool):Prop:=a.length=b.length/\∀i:Int,0<=i->atB a i=true->atB b i=true
theorem Sub.refl(a:List Bool):Sub a a:=⟨rfl,λ_ _ h=>h⟩
theorem Sub.trans{a b c:List Bool}(h:Sub a b)(d:Sub b c):Sub a c:=⟨h.1.trans d.1,λi hi e=>d.2 i hi (h.2 i hi e)⟩
theorem Sub.set{l:List Bool}{i:Int}(a:0<=i)(b:i<l.length):Sub l (l.set i.toNat true):=⟨by simp,λj c d=>by
 rw[j37 a b c];split
 . rfl
 exact d⟩
theorem Sub.cons{x y:Bool}{a b:List Bool}(h:Sub (x::a) (y::b)):(x=true->y=true)/\Sub a b:=by
 refine⟨λd=>?_,by simpa using h.1,λi hi c=>?_⟩
 .
  have:=h.2 0 (by omega) (by simpa [atB]using d)
  simpa [atB]using this
 have:=h.2 (i+1) (by omega) (by
  unfold atB at c⊢;rw[show (i+1).toNat=i.toNat+1 by omega]
  simpa using c)
 unfold atB at this⊢;rw[show (i+1).toNat=i.toNat+1 by omega]at this
 simpa using this
theorem Sub.cf:∀{a b:List Bool},Sub a b->VA.cf b<=VA.cf a/\(VA.cf b=VA.cf a->a=b)
 |[],[],_=>⟨Xt _,λ_=>rfl⟩
 |[],_::_,h=>by have:=h.1;simp at this
 |_::_,[],h=>by have:=h.1;simp at this
 |x::a,y::b,h=>by
  obtain⟨f,g⟩:=h.cons;have c:=g.cf;have e:∀(z:Bool) (l:List Bool),VA.cf (z::l)=(if z then 0 else 1)+VA.cf l:=λz l=>by cases z<;>simp[VA.cf];omega
  rw[e,e]
  cases x<;>cases y<;>simp at f⊢
  . exact⟨c.1,λd=>c.2 d⟩
  . have:=c.1;omega
  exact⟨c.1,λd=>c.2 d⟩
section
variable {g:aa} (hw:WP g.ae g.ae.length) (h8:g.ae.length<=8) (hN:∀n<g.al.length,q91 g n=0) (hE:eQ g) (hl:g.al.length<1000000) (hEl:g.aw.length<1000000) {s:Int} (hs0:0<=s) (hs1:s<g.ae.length)
def New(g:aa)(s:Int)(a b:List Bool):Prop:=∀e∈g.aw,atB b e.aO=true->atB a e.aO=false->fg g s e.aO=true->atB b e.To=true
include hw h8 hN hE hl hEl hs0 hs1
theorem zx5:∀(d:Nat) (from_:Int) (a:List Bool),inG g from_->a.length=g.al.length->cf a<d->(∀i,0<=i->atB a i=true->Rch g s i)->(∀e∈g.aw,e.aO=from_->Rch g s e.To)->
 Ok (q1g d from_ g a s) λr=>r.1=g/\r.2.2=s/\Sub a r.2.1/\New g s a r.2.1/\(∀e∈g.aw,e.aO=from_->atB r.2.1 e.To=true)/\∀i,0<=i->atB r.2.1 i=true->Rch g s i
 |0,_,_,_,_,hd,_,_=>by omega
 |d+1,from_,a,hf,X,hd,Y,Z=>by
  have ih:=zx5 d
  show Ok (q39 (q1g d) from_ g a s) _
  unfold q39;refine dm (l:=g.aw) (by omega) (λi (b:List Bool)=>(i,g,s,b)) (λp=>p.1) (λ_ _=>rfl) (λi b=>Sub a b/\New g s a b/\(∀e∈g.aw.take i,e.aO=from_->atB b e.To=true)/\∀i,0<=i->atB b i=true->Rch g s i) 0 (λrec i hi b _ hI V=>?_) (λrec b hI=>?_) ⟨Sub.refl a,(by intro e _ C y;rw[C]at y;cases y),by simp,Y⟩ (Xm _)
  .
   obtain⟨A,I,D,K⟩:=hI;unfold q4j;dsimp only;rw[if_pos (by simpa using hi)];refine Ok.bind (k2i hi ?_);have hm:g.aw[i]∈g.aw:=Xj hi
   generalize a6:g.aw[i]=e at hm
   have k:=hE.at hm;have E:b.length=g.al.length:=by rw[<-A.1,X]
   have z:g.aw.take (i+1)=g.aw.take i++[e]:=by rw[Xb hi,a6]
   rw[iw hi (by omega)];refine k2h (λC=>?_) (λC=>?_)
   .
    rw[beq_iff_eq]at C;have L:Rch g s e.To:=Z e hm C;refine k2g (Ok.dg k.2.1.1 (by rw[E];exact k.2.1.2) (Q:=λx=>x=atB b e.To) λx t=>getD_some t) ?_;rintro x rfl;refine k2h (λy=>?_) (λy=>?_)
    .
     refine V b ⟨A,I,λx t o=>?_,K⟩;rw[z,Xk,Xx]at t;rcases t with t|rfl
     . exact D x t o
     exact y
    rw[j05 k.2.1];refine Ok.bind (Ok.some ?_);have M:e.To<b.length:=by rw[E];exact k.2.1.2
    have u:Sub b (b.set e.To.toNat true):=Sub.set k.2.1.1 M;have q:∀j,0<=j->atB (b.set e.To.toNat true) j=if j=e.To then true else atB b j:=λj W=>j37 k.2.1.1 M W;have N:b[e.To.toNat]?=some false:=by
     unfold atB at y;rw[Xr]at y;have ao:e.To.toNat<b.length:=by have:=k.2.1.1;omega
     rw[Xv ao]at y⊢
     simpa using y
    have b3:=j7f N;have b2:=A.cf.1;have B:∀j,0<=j->atB (b.set e.To.toNat true) j=true->Rch g s j:=λj W hb=>by
     rw[q j W]at hb
     split at hb
     . rename_i ar;rw[ar];exact L
     exact K j W hb
    have O:fg g s e.To=true->Ok (q9 (q1g d e.To g (Wm b (Int.toNat e.To) true) s) (λ(G:aa×(List Bool)×Int)=>rec (((i+1:Nat):Int),G.1,G.2.2,G.2.1))) (λr=>r.1=g/\r.2.2=s/\Sub a r.2.1/\New g s a r.2.1/\(∀e∈g.aw,e.aO=from_->atB r.2.1 e.To=true)/\∀i,0<=i->atB r.2.1 i=true->Rch g s i):=λt=>by
     refine k2g (ih e.To (b.set e.To.toNat true) k.2.1 (by simpa using E) (by omega) B (λe' b0 P=> .step e' b0 (by rw[P];exact L) (by rw[P];exact t))) ?_;rintro⟨g',c,s'⟩ ⟨e1,e2,R,J2,J3,J4⟩;dsimp only at e1 e2 R J2 J3 J4⊢;subst e1 e2;refine V c ⟨A.trans (u.trans R),λx f J S T=>?_,λx f o=>?_,J4⟩
     .
      have H:=(hE.at f).1.1;have m:=(hE.at f).2.1.1
      cases U:atB b x.aO with
      |true=>exact R.2 _ m (u.2 _ m (I x f U S T))
      |false=>
       by_cases w:x.aO=e.To
       . exact J3 x f w
       exact J2 x f J (by rw[q _ H,if_neg w];exact U) T
     rw[z,Xk,Xx]at f;rcases f with f|rfl
     . have m:=(hE.at (Yc f)).2.1.1;exact R.2 _ m (u.2 _ m (D x f o))
     refine R.2 _ k.2.1.1 ?_;rw[q _ k.2.1.1,if_pos rfl]
    refine k2h (λJ=>?_) (λJ=>?_)
    .
     rw[j88 hw h8 hs0 hs1];refine Ok.bind (Ok.some ?_);refine k2h (λS=>?_) (λS=>?_)
     . exact O (by unfold fg;rw[J,Z8];exact S)
     have b1:fg g s e.To=false:=by unfold fg;rw[J,Z8];exact S
     refine V _ ⟨A.trans u,λx f T h6 h7=>?_,λx f o=>?_,B⟩
     .
      have H:=(hE.at f).1.1;have m:=(hE.at f).2.1.1
      by_cases w:x.aO=e.To
      . rw[w,b1]at h7;cases h7
      rw[q _ H,if_neg w]at T;exact u.2 _ m (I x f T h6 h7)
     rw[z,Xk,Xx]at f;rcases f with f|rfl
     . have m:=(hE.at (Yc f)).2.1.1;exact u.2 _ m (D x f o)
     rw[q _ k.2.1.1,if_pos rfl]
    exact O (by unfold fg;rw[J];rfl)
   rw[beq_eq_false_iff_ne]at C;refine V b ⟨A,I,λx t o=>?_,K⟩;rw[z,Xk,Xx]at t;rcases t with t|rfl
   . exact D x t o
   exact absurd o C
  obtain⟨A,I,D,K⟩:=hI;unfold q4j;dsimp only;rw[if_neg (by simp)];rw[Xh]at D;exact Ok.some ⟨rfl,rfl,A,I,D,K⟩
omit hw h8 hN hE hl hEl hs0 hs1 in
theorem complete{a:List Bool}(d:∀e∈g.aw,leaves g s e.aO=true->atB a e.To=true)(f:∀e∈g.aw,atB a e.aO=true->fg g s e.aO=true->atB a e.To=true):∀x,Rch g s x->atB a x=true:=by
 intro x b
 induction b with
 |fS e c h=>exact d e c h
 |step e c h b j=>exact f e c j b
omit hw h8 hN hE hl hEl hs0 hs1 in
theorem j38(n:Nat)(i:Int):atB (Zg n false) i=false:=by
 unfold atB;rw[Xr,List.getElem?_replicate]
 split<;>rfl
open Classical in
theorem jb8{n:Nat}(G:n<g.al.length)(z:(nd g n).Scope=s):qj3 g n=some (decide ((nd g n).Kind=10/\Rch g s n)):=by
 unfold qj3;refine k2k (Ok.bind (k2i G ?_));rw[q7i G,z];refine k2h (λo=>Ok.some ?_) (λo=>?_)
 .
  rw[Xi,beq_eq_false_iff_ne]at o
  symm;rw[decide_eq_false_iff_not];exact λN=>o N.1
 rw[Xn,beq_iff_eq]at o;refine Ok.guard (by omega) ?_;refine dm (l:=g.al) (by omega) (λi (b:List Bool)=>(i,s,b,g)) (λp=>p.1) (λ_ _=>rfl) (λi b=>b.length=g.al.length/\(∀e∈g.aw,e.aO<i->leaves g s e.aO=true->atB b e.To=true)/\(∀e∈g.aw,atB b e.aO=true->fg g s e.aO=true->atB b e.To=true)/\∀i,0<=i->atB b i=true->Rch g s i) 0 (λrec i hi b _ A H=>?_) (λrec b A=>?_) ⟨by simp,λe a d=>by have:=(hE.at a).1.1;omega,(λe _ d=>absurd d (by rw[j38];simp)),(λi _ d=>absurd d (by rw[j38];simp))⟩ (Xm _)
 .
  obtain⟨q,t,u,w⟩:=A;unfold qg9;dsimp only;rw[if_pos (by simpa using hi)];refine Ok.bind (k2i hi ?_);rw[q7i hi,iw hi (by omega)];have B:inG g (i:Int):=⟨by omega,by omega⟩;have j:leaves g s (i:Int)=((nd g i).Kind==11&&(nd g i).Scope==s):=rfl;rw[<-j];refine k2h (λd=>?_) (λd=>?_)
  .
   have C:cf b<rounds:=by
    have:cf b<=b.length:=Yk _ _;simp only[rounds];omega
   refine k2g (zx5 hw h8 hN hE hl hEl hs0 hs1 rounds (i:Int) b B q C w (λe a D=> .fS e a (by rw[D];exact d))) ?_;rintro⟨P,c,s'⟩ ⟨I,J,y,K,L,M⟩;dsimp only at I J y K L M⊢;subst I J;refine H c ⟨by rw[<-y.1];exact q,λe a E f=>?_,λe a E f=>?_,M⟩
   .
    have k:=(hE.at a).2.1.1;rcases Yq (show e.aO<=i by omega)with m|m
    . exact y.2 _ k (t e a m f)
    exact L e a m
   have k:=(hE.at a).2.1.1
   cases hb:atB b e.aO with
   |true=>exact y.2 _ k (u e a hb f)
   |false=>exact K e a E hb f
  refine H b ⟨q,λe a E f=>?_,u,w⟩;rcases Yq (show e.aO<=i by omega)with m|m
  . exact t e a m f
  rw[m,d]at f;cases f
 obtain⟨q,t,u,w⟩:=A;unfold qg9;dsimp only;rw[if_neg (by simp)];refine k2g (Ok.dg (i:=(n:Int)) (l:=b) (by omega) (by omega) (Q:=λx=>x=atB b n) λx O=>getD_some O) ?_;rintro x rfl;refine Ok.some ?_;rw[Yj,decide_eq_true_eq];exact⟨λh=>⟨o,w n (by omega) h⟩,λh=>complete (λe a j=>t e a (hE.at a).1.2 j) u _ h.2⟩
end
end VA
end
section
open Go Go.RowKit
namespace VA
def phase(err:Nat->Int)(N:Nat)(K:Int×Int):Int×Int:=match (Zm N).find? λi=>err i !=0 with
 |some i=>(err i,(i:Int))
 |none=>K
theorem z2z{err:Nat->Int}{N i:Nat}{K:Int×Int}(h:∀j<i,err j=0)(hi:i<N)(a:err i≠0):phase err N K=(err i,(i:Int)):=by
 unfold phase;have:(Zm N).find? (λi=>err i !=0)=some i:=by
  rw[List.find?_range_eq_some];exact⟨by simpa using a,Z4.2 hi,λj b=>by simp[h j b]⟩
 rw[this]
theorem bA{err:Nat->Int}{N:Nat}{K:Int×Int}(h:∀j<N,err j=0):phase err N K=K:=by
 unfold phase;have:(Zm N).find? (λi=>err i !=0)=none:=by
  rw[Wd];intro x a;simp[h x (Z4.1 a)]
 rw[this]
theorem qy1{err:Nat->Int}{N:Nat}{K:Int×Int}(h:(phase err N K).1=0):(∀j<N,err j=0)/\K.1=0:=by
 unfold phase at h
 split at h
 .
  rename_i i a
  have:=List.find?_some a;simp at this;exact absurd h this
 rename_i a
 rw[Wd]at a;exact⟨λj b=>by simpa using a j (Z4.2 b),h⟩
def qm2(g:aa)(s:Nat):Int:=if sOk g s=true then 0 else 6
def qk8(g:aa)(n:Nat):Int:=if bo (nd g n).Kind<=zj1 g n then 0 else 7
open Classical in
noncomputable def q9n(g:aa)(n:Nat):Int:=if (nd g n).Kind=10/\Rch g (nd g n).Scope n then 8 else 0
noncomputable def chk(g:aa):Int×Int:=
 if g.ae.length<1\/8<g.ae.length\/g.aG.length≠g.ae.length then (6,0)
 else phase (qm2 g) g.ae.length (if g.al.length<1\/32<g.al.length\/64<g.aw.length then (11,0)
  else phase (q91 g) g.al.length (phase (qr2 g) g.aw.length (phase (qk8 g) g.al.length (phase (q9n g) g.al.length (0,0)))))
theorem zw8{g:aa}{s:Nat}(h:qm2 g s=0):sOk g s=true:=by
 unfold qm2 at h
 split at h
 . assumption
 cases h
structure Good(g:aa):Prop where
 pl:1<=g.ae.length/\g.ae.length<=8
 bl:g.aG.length=g.ae.length
 sc:∀s<g.ae.length,sOk g s=true
 nl:1<=g.al.length/\g.al.length<=32
 el:g.aw.length<=64
 no:∀n<g.al.length,q91 g n=0
 ed:eQ g
 fu:∀n<g.al.length,bo (nd g n).Kind<=zj1 g n
 ag:∀n<g.al.length,¬((nd g n).Kind=10/\Rch g (nd g n).Scope n)
theorem Good.wp{g:aa}(h:Good g):WP g.ae g.ae.length:=WP.of (Xt _) h.sc
theorem z3o{g:aa}:(chk g).1=0↔Good g:=by
 constructor
 .
  intro h;unfold chk at h
  split at h
  . cases h
  rename_i t
  obtain⟨f,c⟩:=qy1 h
  split at c
  . cases c
  rename_i u
  obtain⟨k,l⟩:=qy1 c;obtain⟨m,o⟩:=qy1 l;obtain⟨p,d⟩:=qy1 o;obtain⟨e,_⟩:=qy1 d;refine⟨by omega,by omega,λs q=>zw8 (f s q),by omega,by omega,k,m,λn b=>?_,λn b=>?_⟩
  .
   have:=p n b;unfold qk8 at this
   split at this
   . assumption
   cases this
  have:=e n b;unfold q9n at this
  split at this
  . cases this
  assumption
 intro h;have hp:=h.pl;have hb:=h.bl;have b:=h.nl;have w:=h.el;unfold chk;rw[if_neg (by omega),bA (λj a=>by unfold qm2;rw[if_pos (h.sc j a)]),if_neg (by omega),bA h.no,bA h.ed,bA (λj a=>by unfold qk8;rw[if_pos (h.fu j a)]),bA (λj a=>by unfold q9n;rw[if_neg (h.ag j a)])]
section
variable {g:aa} (hw:WP g.ae g.ae.length) (h8:g.ae.length<=8) (hl:g.al.length<=32) (hEl:g.aw.length<=64)
include hw h8 hl hEl
open Classical in
theorem j53(d:∀n<g.al.length,q91 g n=0)(f:eQ g):q99 g=some (phase (q9n g) g.al.length (0,0)):=by
 unfold q99;refine k2k (k2l (l:=g.al) (by omega) (λi=>∀j<i,q9n g j=0) 0 (λrec i hi _ c k=>?_) (λrec c=>?_) (by intro j e;omega) (Xm _))
 .
  unfold qh4;rw[if_pos (by simpa using hi)];have a:=(q7t (d i hi)).2.1;rw[jb8 hw h8 d f (by omega) (by omega) a.1 a.2 hi rfl];refine Ok.bind (Ok.some ?_);refine k2h (λb=>Ok.some ?_) (λb=>?_)
  .
   rw[decide_eq_true_eq]at b;have:q9n g i=8:=by unfold q9n;rw[if_pos b]
   rw[z2z c hi (by rw[this];decide),this]
  rw[decide_eq_false_iff_not]at b;rw[iw hi (by omega)];refine k λj e=>?_;rcases Ys (Yx.1 e)with m|rfl
  . exact c j m
  unfold q9n;rw[if_neg b]
 unfold qh4;rw[if_neg (by simp)];exact Ok.some (bA c).symm
theorem j6z(e:∀n<g.al.length,q91 g n=0)(c:eQ g):q9a g=some (phase (qk8 g) g.al.length (phase (q9n g) g.al.length (0,0))):=by
 unfold q9a;refine k2k (k2l (l:=g.al) (by omega) (λi=>∀j<i,qk8 g j=0) 0 (λrec i hi _ b f=>?_) (λrec b=>?_) (by intro j d;omega) (Xm _))
 .
  unfold qh3;rw[if_pos (by simpa using hi),jk3 c (by omega) hi];refine Ok.bind (Ok.some ?_);refine k2h (λa=>Ok.some ?_) (λa=>?_)
  .
   simp only[Xi,decide_eq_false_iff_not]at a;have:qk8 g i=7:=by unfold qk8;rw[if_neg a]
   rw[z2z b hi (by rw[this];decide),this]
  simp only[Xn,decide_eq_true_eq]at a;rw[iw hi (by omega)];refine f λj d=>?_;rcases Ys (Yx.1 d)with k|rfl
  . exact b j k
  unfold qk8;rw[if_pos a]
 unfold qh3;rw[if_neg (by simp),j53 hw h8 hl hEl e c];exact Ok.some (bA b).symm
theorem j7c(c:∀n<g.al.length,q91 g n=0):q9b g=some (phase (qr2 g) g.aw.length (phase (qk8 g) g.al.length (phase (q9n g) g.al.length (0,0)))):=by
 unfold q9b;refine k2k (k2l (l:=g.aw) (by omega) (λi=>∀j<i,qr2 g j=0) 0 (λrec i hi _ a e=>?_) (λrec a=>?_) (by intro j d;omega) (Xm _))
 .
  unfold qh2;rw[if_pos (by simpa using hi),jl8 c (by omega) hi];refine Ok.bind (Ok.some ?_);refine k2h (λb=>Ok.some ?_) (λb=>?_)
  . simp only[Xi,beq_eq_false_iff_ne,ne_eq]at b;rw[z2z a hi b]
  simp only[Xn,beq_iff_eq]at b;rw[iw hi (by omega)];refine e λj d=>?_;rcases Ys (Yx.1 d)with f|rfl
  . exact a j f
  exact b
 unfold qh2;rw[if_neg (by simp),j6z hw h8 hl hEl c a];exact Ok.some (bA a).symm
end
section
variable {g:aa} (hw:WP g.ae g.ae.length) (h8:g.ae.length<=8)
include hw h8
theorem j6f:q9c g=some (if g.al.length<1\/32<g.al.length\/64<g.aw.length then (11,0)
 else phase (q91 g) g.al.length (phase (qr2 g) g.aw.length (phase (qk8 g) g.al.length (phase (q9n g) g.al.length (0,0))))):=by
 unfold q9c;refine k2k (k2h (λh=>Ok.some ?_) (λh=>?_))
 . simp only[Ye,decide_eq_true_eq]at h;rw[if_pos (by omega)]
 simp only[X5,decide_eq_false_iff_not]at h;rw[if_neg (by omega)];refine k2l (l:=g.al) (by omega) (λi=>∀j<i,q91 g j=0) 0 (λrec i hi _ a d=>?_) (λrec a=>?_) (by intro j c;omega) (Xm _)
 .
  unfold qh1;rw[if_pos (by simpa using hi),jj2 hw h8 (by omega) hi (λf=>(q7t (a (i-1) (by omega))).2.1)];refine Ok.bind (Ok.some ?_);refine k2h (λb=>Ok.some ?_) (λb=>?_)
  . simp only[Xi,beq_eq_false_iff_ne,ne_eq]at b;rw[z2z a hi b]
  simp only[Xn,beq_iff_eq]at b;rw[iw hi (by omega)];refine d λj c=>?_;rcases Ys (Yx.1 c)with e|rfl
  . exact a j e
  exact b
 unfold qh1;rw[if_neg (by simp),j7c hw h8 (by omega) (by omega) a];exact Ok.some (bA a).symm
end
theorem zd9(g:aa):q8j g=some (chk g):=by
 unfold q8j chk;refine k2k (k2h (λh=>Ok.some ?_) (λh=>?_))
 . simp only[Ye,decide_eq_true_eq,Xi,beq_eq_false_iff_ne,ne_eq]at h;rw[if_pos (by omega)]
 simp only[X5,decide_eq_false_iff_not,Xn,beq_iff_eq]at h;rw[if_neg (by omega)];refine k2l (l:=g.ae) (by omega) (λi=>∀j<i,qm2 g j=0) 0 (λrec i hi _ a e=>?_) (λrec a=>?_) (by intro j d;omega) (Xm _)
 .
  unfold qh0;rw[if_pos (by simpa using hi),j8s (by omega) (by omega) hi (λt c=>zw8 (a t c))];refine Ok.bind (Ok.some ?_);refine k2h (λb=>Ok.some ?_) (λb=>?_)
  .
   rw[Xi]at b;have:qm2 g i=6:=by unfold qm2;rw[b];rfl
   rw[z2z a hi (by rw[this];decide),this]
  rw[Xn]at b;rw[iw hi (by omega)];refine e λj d=>?_;rcases Ys (Yx.1 d)with f|rfl
  . exact a j f
  unfold qm2;rw[if_pos b]
 unfold qh0;rw[if_neg (by simp),j6f (WP.of (Xt _) λt c=>zw8 (a t c)) (by omega)];exact Ok.some (bA a).symm
end VA
end
section
open Go Go.RowKit
namespace BG
def z8r(a b:Int):Int:=if a<b then -1 else if b<a then 1 else 0
theorem jy6(a b:Int):q6c a b=some (z8r a b):=by
 simp only[q6c,q8p,q9,Xs,beq_self_eq_true,Bool.not_true,X9,if_false,decide_eq_true_eq,z8r]
 split<;>(try rfl)
 split<;>rfl
theorem or2(a b:Int):qf4 [a,b]=some (if a=0 then b else a):=by
 refine k2k ?_;unfold qf4;refine k2l (l:=[a,b]) (by simp) (λi=>∀x∈[a,b].take i,x=0) 0 (λrec i hi _ d e=>?_) (λrec d=>?_) (by simp) (Xm _)
 .
  unfold ql8;refine k2h (λ_=>Ok.bind (k2i hi (k2h (λc=>Ok.some ?_) (λc=>?_)))) (λc=>by simp only[decide_eq_false_iff_not]at c;omega)
  .
   simp only[Xi,beq_eq_false_iff_ne,ne_eq]at c
   match i,hi with
   |0,_=>simp only[Yt]at c⊢;rw[if_neg c]
   |1,_=>
    have:=d a (by simp);simp only[Y7,Yt];rw[if_pos this]
  simp only[Xn,beq_iff_eq]at c;rw[wrap_i64 ((i:Int)+1) (by simp at hi;omega)];exact e ((qk4 hi).2 ⟨d,c⟩)
 unfold ql8;refine k2h (λc=>by simp only[decide_eq_true_eq]at c;omega) (λ_=>Ok.some ?_);have f:=d a (by simp);have g:=d b (by simp);rw[f,g];rfl
def lt(x y:aR):Prop:=x.K<y.K\/x.K=y.K/\x.V<y.V
instance (x y:aR):Decidable (lt x y):=by unfold lt;infer_instance
instance:DecidableEq aR:=λa b=>
 if h:a.K=b.K/\a.V=b.V then isTrue (by cases a;cases b;simp only at h;rw[h.1,h.2])else isFalse (λe=>h (by rw[e];exact⟨rfl,rfl⟩))
def ord(x y:aR):Int:=if z8r x.K y.K=0 then z8r x.V y.V else z8r x.K y.K
theorem z6i(x y:aR):ql1 x y=some (ord x y):=by
 simp only[ql1,jy6,or2,q9,Xs,ord]
theorem zl0(x y:aR):ord x y<0↔lt x y:=by
 unfold ord z8r lt
 split<;>split at*<;>(try split at*)<;>(try split)<;>(try split)<;>omega
theorem j63{x y:aR}(a:x.K=y.K)(b:x.V=y.V):x=y:=by
 cases x;cases y;simp only at a b;rw[a,b]
theorem j99(x y:aR):ord x y=0↔x=y:=by
 constructor
 . intro h;unfold ord z8r at h;apply j63<;>(split at h<;>split at*<;>(try split at*)<;>(try split at*)<;>omega)
 rintro rfl;simp[ord,z8r]
theorem z9a(x y:aR):z00 x y=some (decide (lt x y)):=by
 simp only[z00,z6i,q9,Xs,zl0]
theorem qi4(x:aR):¬lt x x:=by unfold lt;omega
theorem z3z{x y z:aR}(a:lt x y)(b:lt y z):lt x z:=by unfold lt at*;omega
theorem j6m(x y:aR):lt x y\/x=y\/lt y x:=by
 by_cases a:lt x y
 . exact .inl a
 by_cases b:lt y x
 . exact .inr (.inr b)
 unfold lt at a b;exact .inr (.inl (j63 (by omega) (by omega)))
def cnt:List a7->aR->Int
 |[],_=>0
 |x::b,r=>(if x.Rec=r then x.N else 0)+cnt b r
def tot(b:List a7):Int:=(b.map (·.N)).sum
def big:List a7->Int
 |[]=>0
 |x::b=>(x.N.natAbs:Int)+big b
theorem z2g(a b:List a7)(r:aR):cnt (a++b) r=cnt a r+cnt b r:=by
 induction a with
 |nil=>simp[cnt]
 |cons x a c=>simp only[Xz,cnt,c];omega
theorem q5s(a b:List a7):tot (a++b)=tot a+tot b:=by simp[tot]
theorem qi1(a b:List a7):big (a++b)=big a+big b:=by
 induction a with
 |nil=>simp[big]
 |cons x a c=>simp only[Xz,big,c];omega
theorem z2h:∀b:List a7,0<=big b
 |[]=>by simp[big]
 |x::b=>by have:=z2h b;simp only[big];omega
theorem z01:∀(b:List a7) (r:aR),-big b<=cnt b r/\cnt b r<=big b
 |[],_=>by simp[cnt,big]
 |x::b,r=>by
  have:=z01 b r;simp only[cnt,big]
  split<;>omega
theorem j0u{b:List a7}{r:aR}(h:∀x∈b,x.Rec≠r):cnt b r=0:=by
 induction b with
 |nil=>rfl
 |cons x b a=>
  simp only[cnt];rw[if_neg (h x (by simp)),a λy c=>h y (by simp[c])];rfl
theorem zd7{b:List a7}{r:aR}(h:cnt b r≠0):∃x∈b,x.Rec=r:=by
 refine Decidable.byContradiction λa=>h (j0u λx c e=>a ⟨x,c,e⟩)
structure Rt(b:List a7):Prop where
 inc:b.Pairwise (λp q=>lt p.Rec q.Rec)
 num:∀x∈b,x.N≠0/\-2147483648<=x.N/\x.N<=2147483648
theorem Rt.nil:Rt []:=⟨Wi,by simp⟩
theorem z3n{b:List a7}(h:b.Pairwise (λp q=>lt p.Rec q.Rec)){x:a7}(a:x∈b):cnt b x.Rec=x.N:=by
 induction b with
 |nil=>cases a
 |cons y b c=>
  rw[X4]at h;simp only[cnt];rcases Xw.1 a with rfl|a
  . rw[if_pos rfl,j0u λz d e=>qi4 z.Rec (by have:=h.1 z d;rwa [<-e]at this)];omega
  rw[if_neg (λe=>qi4 x.Rec (by have:=h.1 x a;rwa [e]at this)),c h.2 a];omega
theorem jk1{x y:a7}(a:x.Rec=y.Rec)(b:x.N=y.N):x=y:=by
 cases x;cases y;simp only at a b;rw[a,b]
theorem Rt.sub{a b:List a7}(c:Rt a)(hb:Rt b)(h:∀r,cnt a r=cnt b r):∀x∈a,x∈b:=by
 intro x d;have f:=z3n c.inc d;have k:=(c.num x d).1;obtain⟨y,g,e⟩:=zd7 (b:=b) (r:=x.Rec) (by rw[<-h,f];exact k);have j:=z3n hb.inc g;rw[e,<-h,f]at j;rw[jk1 e.symm j];exact g
theorem Rt.unique{a b:List a7}(d:Rt a)(hb:Rt b)(h:∀r,cnt a r=cnt b r):a=b:=by
 have nd:∀{l:List a7},l.Pairwise (λp q=>lt p.Rec q.Rec)->l.Nodup:=λh=>h.imp (λ{p q} (c:lt p.Rec q.Rec) (e:p=q)=>qi4 q.Rec (by rw[e]at c;exact c));have p:a.Perm b:=(List.perm_ext_iff_of_nodup (nd d.inc) (nd hb.inc)).2 λr=>⟨d.sub hb h r,hb.sub d (λr=>(h r).symm) r⟩;exact List.Perm.eq_of_pairwise (le:=λ(p q:a7)=>lt p.Rec q.Rec) (λx y _ _ f g=>absurd (z3z f g) (qi4 _)) d.inc hb.inc p
theorem zz1(n:Int):qo5 n=some (decide (-2147483648<=n/\n<=2147483648)):=by
 simp only[qo5];congr 1;simp
theorem q9o{b:List a7}(e:b.length<1000000000):Ok (q7x b) (λr=>r=true↔Rt b):=by
 unfold q7x;refine k2l (l:=b) (by omega) (λi=>Rt (b.take i)) 0 (λrec i hi _ g m=>?_) (λrec g=>?_) (by simpa using Rt.nil) (Xm _)
 .
  unfold qq9;have n:Rt b->Rt (b.take (i+1)):=λh=>⟨h.inc.sublist (Wj _ _),λx a=>h.num x (Yc a)⟩;have c:b[i]∈b:=Xj hi;refine k2h (λ_=>Ok.bind (k2i hi ?_)) (λa=>by simp only[decide_eq_false_iff_not]at a;omega);have d:b[i].N≠0->(-2147483648<=b[i].N/\b[i].N<=2147483648)->(∀x∈b.take i,lt x.Rec b[i].Rec)->Rt (b.take (i+1)):=λp q s=>by
   rw[Xb hi];refine⟨Xl.2 ⟨g.inc,by simp,λx a y o=>?_⟩,λx a=>?_⟩
   . rw[Xx]at o;rw[o];exact s x a
   rcases Xk.1 a with a|a
   . exact g.num x a
   rw[Xx]at a;rw[a];exact⟨p,q⟩
  rw[zz1,wrap_i64 ((i:Int)+1) (by omega)];refine k2h (λa=>Ok.some ⟨λh=>(by cases h),λh=>?_⟩) (λa=>Ok.bind (Ok.some (k2h (λf=>k2h (λk=>?_) (λk=>?_)) (λf=>Ok.some ⟨λh=>(by cases h),λh=>?_⟩))))
  . simp only[beq_iff_eq]at a;exact absurd a (h.num _ c).1
  .
   simp only[decide_eq_true_eq]at k f;simp only[beq_eq_false_iff_ne,ne_eq]at a;rw[wrap_i64 ((i:Int)-1) (by omega),show (i:Int)-1=((i-1:Nat):Int) by omega];refine Ok.bind (k2i (by omega) (Ok.bind (Ok.of_eq (z9a _ _) (k2h (λe=>Ok.some ⟨λh=>(by cases h),λh=>?_⟩) (λe=>m (d a f λx a=>?_))))))
   . simp only[Xi,decide_eq_false_iff_not]at e;exact absurd ((Yf.1 h.inc) (i-1) i (by omega) hi (by omega)) e
   simp only[Xn,decide_eq_true_eq]at e;obtain⟨j,t,rfl⟩:=Ya.1 a;rw[Xf]at t;rw[Yu];rcases Y0 j (i-1)with h|h
   . have:=(Yf.1 g.inc) j (i-1) (by rw[Xf];omega) (by rw[Xf];omega) h;rw[Yu,Yu]at this;exact z3z this e
   have:j=i-1:=by omega
   subst this;exact e
  .
   simp only[decide_eq_false_iff_not]at k;simp only[decide_eq_true_eq]at f;simp only[beq_eq_false_iff_ne,ne_eq]at a;have:i=0:=by omega
   subst this;exact m (d a f (by simp))
  simp only[decide_eq_false_iff_not]at f;exact absurd (h.num _ c).2 f
 unfold qq9;refine k2h (λa=>by simp only[decide_eq_true_eq]at a;omega) (λ_=>Ok.some ?_);rw[Xh]at g;exact⟨λ_=>g,λ_=>rfl⟩
theorem half(i j:Nat)(h:i+j<4611686018427387904):IntKind.i64.wrap (q2p .u64 (IntKind.u64.wrap (IntKind.i64.wrap ((i:Int)+(j:Int)))) 1)=(((i+j)/2:Nat):Int):=by
 rw[wrap_i64 ((i:Int)+(j:Int)) (by omega)];have a:IntKind.u64.wrap ((i:Int)+(j:Int))=((i+j:Nat):Int):=by simp[IntKind.wrap,IntKind.bits,IntKind.signed];omega
 rw[a];have b:q2p .u64 ((i+j:Nat):Int) 1=(((i+j)/2:Nat):Int):=by
  show Int.fdiv _ 2=_
  rw[Zi _ (by omega)];omega
 rw[b,wrap_i64 _ (by omega)]
theorem j5v{b:List a7}{r:aR}(h:b.Pairwise (λp q=>lt p.Rec q.Rec))(E:b.length<1000000000):
 Ok (q3p b r (λl m=>qd5 l m)) (λv=>∃A B,b=A++B/\(∀x∈A,lt x.Rec r)/\(∀x∈B,¬lt x.Rec r)/\v.1=(A.length:Int)/\v.2=(match B with|[]=>false|x::_=>decide (x.Rec=r))):=by
 have hp:=Yf.1 h;have o:∀x:a7,qd5 x r=some (ord x.Rec r):=λx=>by simp only[qd5,z6i,q9,Xs]
 unfold q3p;refine k2j (λs=>∃i j:Nat,s=((i:Int),(j:Int))/\i<=j/\j<=b.length/\(∀q (_:q<b.length),q<i->lt b[q].Rec r)/\(∀q (_:q<b.length),j<=q->¬lt b[q].Rec r)) (λs=>(s.2-s.1).toNat) ?_ ⟨0,b.length,rfl,Xm _,Xt _,λq _ h=>by omega,λq _ h=>by omega⟩ (by simp only[rounds];omega);rintro rec _ ⟨i,j,rfl,G,C,t,u⟩ w;unfold q6o;simp only;refine k2h (λd=>?_) (λd=>?_)
 .
  simp only[decide_eq_true_eq]at d;have D:i<j:=by omega
  rw[half i j (by omega)];have n:(i+j)/2<b.length:=by omega
  refine Ok.bind (k2i n (Ok.bind (Ok.of_eq (o _) (k2h (λk=>?_) (λk=>?_)))))
  .
   simp only[decide_eq_true_eq]at k;rw[wrap_i64 _ (by omega)];refine w _ ⟨(i+j)/2+1,j,rfl,by omega,C,λq e f=>?_,u⟩ (by simp only;omega);have a:=(zl0 _ _).1 k;rcases Y0 q ((i+j)/2)with h|h
   . exact z3z (hp q _ e n h) a
   have:q=(i+j)/2:=by omega
   subst this;exact a
  simp only[decide_eq_false_iff_not]at k;refine w _ ⟨i,(i+j)/2,rfl,by omega,by omega,t,λq e hle f=>?_⟩ (by simp only;omega);have a:=mt (zl0 _ _).2 k;rcases Y0 ((i+j)/2) q with h|h
  . exact a (z3z (hp _ q n e h) f)
  have:q=(i+j)/2:=by omega
  subst this;exact a f
 simp only[decide_eq_false_iff_not]at d;have:i=j:=by omega
 subst this;unfold q4l;have y:∀x∈b.take i,lt x.Rec r:=λx d=>by
  obtain⟨q,e,rfl⟩:=Ya.1 d;rw[Xf]at e;rw[Yu];exact t q (by omega) (by omega)
 have z:∀x∈b.drop i,¬lt x.Rec r:=λx d=>by
  obtain⟨q,e,rfl⟩:=Ya.1 d;rw[X6]at e;rw[Zj];exact u _ (by omega) (by omega)
 have c:(b.take i).length=i:=by rw[Xf];omega
 refine k2h (λg=>?_) (λg=>Ok.some ⟨b.take i,b.drop i,(Xe _ _).symm,y,z,by rw[c],?_⟩)
 .
  simp only[decide_eq_true_eq]at g;have hi:i<b.length:=by omega
  refine Ok.bind (k2i hi (Ok.bind (Ok.of_eq (o _) (Ok.some ⟨b.take i,b.drop i,(Xe _ _).symm,y,z,by rw[c],?_⟩))));rw[Xu hi]
  show (ord _ _==0)=decide _
  rw[Yj,beq_iff_eq,decide_eq_true_eq];exact j99 _ _
 simp only[decide_eq_false_iff_not]at g;rw[Yi (by omega)]
end BG
end
section
open Go Go.RowKit
namespace BG
structure Put(b c:List a7)(r:aR)(n:Int):Prop where
 rt:Rt c
 cnt:∀s,cnt c s=cnt b s+if r=s then n else 0
 tot:tot c=tot b+n
 big:big c<=big b+(n.natAbs:Int)
 len:c.length<=b.length+1
theorem Rt.mid{A B:List a7}(h:Rt (A++B)){x:a7}(f:∀y∈A,lt y.Rec x.Rec)(g:∀y∈B,lt x.Rec y.Rec)(j:x.N≠0/\-2147483648<=x.N/\x.N<=2147483648):Rt (A++x::B):=by
 have d:=Xl.1 h.inc;refine⟨Xl.2 ⟨d.1,X4.2 ⟨g,d.2.1⟩,λa e b hb=>?_⟩,λy c=>?_⟩
 .
  rcases Xw.1 hb with rfl|hb
  . exact f a e
  exact d.2.2 a e b hb
 rcases Xk.1 c with c|c
 . exact h.num y (Yl _ c)
 rcases Xw.1 c with rfl|c
 . exact j
 exact h.num y (Za _ c)
theorem j64{b:List a7}{r:aR}{n:Int}(h:Rt b)(P:b.length<100000000)(C:-2147483648<=n/\n<=2147483648)(w:-2147483648<=cnt b r+n/\cnt b r+n<=2147483648):
 Ok (q7o b r n) (λc=>Put b c r n):=by
 unfold q7o;refine k2g (j5v h.inc (by omega)) λv ⟨A,B,D,p,E,G,H⟩=>?_;refine k2h (λj=>Ok.some ?_) (λj=>Ok.bind (Ok.of_eq (zz1 n) (k2h (λd=>by simp only[Xi,decide_eq_false_iff_not]at d;omega) (λ_=>?_))))
 . simp only[beq_iff_eq]at j;subst j;exact⟨h,λs=>by split<;>omega,by omega,by simp,by omega⟩
 simp only[beq_eq_false_iff_ne,ne_eq]at j;subst D;have z:(A++B).length=A.length+B.length:=by simp
 have k:=Xl.1 h.inc;rw[G,H];have f:(∀y∈B,lt r y.Rec)->Ok (q9 (q4y (A++B) (A.length:Int) ([(⟨r,n⟩:a7)]:List a7)) (λ(q:List a7)=>some q)) (λc=>Put (A++B) c r n):=λt=>by
  unfold q4y zl9;refine Ok.bind (Ok.guard ⟨by omega,by omega,by simp,by simp;omega,by unfold maxLen;simp;omega⟩ (Ok.some (Ok.some ?_)));have e:List.take (A.length:Int).toNat (A++B)++[(⟨r,n⟩:a7)]++List.drop (A.length:Int).toNat (A++B)=A++⟨r,n⟩::B:=by
   rw[Xd,List.take_left,List.drop_left];simp
  rw[e];refine⟨h.mid p t ⟨j,C⟩,λs=>?_,?_,?_,by simp;omega⟩
  . simp only[z2g,BG.cnt];omega
  . simp only[q5s];simp[BG.tot];omega
  simp only[qi1,BG.big];omega
 cases B with
 |nil=>exact k2h (λ_=>f (by simp)) (λd=>by simp at d)
 |cons x B=>
  simp only;refine k2h (λd=>f ?_) (λd=>?_)
  .
   simp only[Xi,decide_eq_false_iff_not]at d;have l:lt r x.Rec:=by
    rcases j6m x.Rec r with h|h|h
    . exact absurd h (E x (by simp))
    . exact absurd h d
    exact h
   intro y a;rcases Xw.1 a with rfl|a
   . exact l
   exact z3z l ((X4.1 k.2.1).1 y a)
  simp only[Xn,decide_eq_true_eq]at d;subst d;have I:(A++x::B)[A.length]'(by simp)=x:=by simp
  have u:cnt (A++x::B) x.Rec=x.N:=z3n h.inc (by simp);rw[u]at w;have J:IntKind.i64.wrap (x.N+n)=x.N+n:=wrap_i64 _ (by omega);have K:=h.num x (by simp);have L:∀y∈A,y.Rec≠x.Rec:=λy a e=>qi4 x.Rec (by have:=p y a;rwa [e]at this);have m:=(X4.1 k.2.1).1;have M:∀y∈B,y.Rec≠x.Rec:=λy a e=>qi4 x.Rec (by have:=m y a;rwa [e]at this);have g:Rt (A++B):=by
   refine⟨h.inc.sublist (by simp),λy a=>h.num y ?_⟩;rcases Xk.1 a with a|a
   . exact Yl _ a
   exact Za _ (Ym _ a)
  refine Ok.bind (k2i (by simp) ?_);rw[I,J];refine k2h (λo=>?_) (λo=>Ok.bind (Ok.of_eq (zz1 _) (k2h (λ_=>Ok.some ?_) (λO=>by simp only[decide_eq_false_iff_not]at O;omega))))
  .
   simp only[beq_iff_eq]at o;unfold q8w z2m;rw[wrap_i64 _ (by omega)];refine Ok.bind (Ok.guard ⟨by omega,by omega,by simp;omega⟩ (Ok.some (Ok.some ?_)));have e:List.take (A.length:Int).toNat (A++x::B)++List.drop ((A.length:Int)+1).toNat (A++x::B)=A++B:=by
    rw[Xd,show ((A.length:Int)+1).toNat=A.length+1 by omega,List.take_left,List.drop_append];simp
   rw[e];refine⟨g,λs=>?_,?_,?_,by simp;omega⟩
   . simp only[z2g,BG.cnt];split<;>omega
   . simp only[q5s];simp[BG.tot];omega
   simp only[qi1,BG.big];omega
  simp only[beq_eq_false_iff_ne,ne_eq]at o;rw[Xd];have e:Wm (A++x::B) A.length (⟨x.Rec,x.N+n⟩:a7)=A++⟨x.Rec,x.N+n⟩::B:=by
   rw[Zb _ _ (Xt _)];simp
  rw[e];refine⟨g.mid (x:=⟨x.Rec,x.N+n⟩) p m ⟨o,w⟩,λs=>?_,?_,?_,by simp⟩
  . simp only[z2g,BG.cnt];split<;>omega
  . simp only[q5s];simp[BG.tot];omega
  simp only[qi1,BG.big];omega
structure dK(b c l:List a7):Prop where
 rt:Rt c
 cnt:∀s,cnt c s=cnt b s+cnt l s
 tot:tot c=tot b+tot l
 big:big c<=big b+big l
 len:c.length<=b.length+l.length
theorem dK.nil{b:List a7}(h:Rt b):dK b b []:=⟨h,λs=>by simp[BG.cnt],by simp[BG.tot],by simp[BG.big],by simp⟩
theorem dK.snoc{b c d l:List a7}{x:a7}(h:dK b c l)(hp:Put c d x.Rec x.N):dK b d (l++[x]):=by
 refine⟨hp.rt,λs=>?_,?_,?_,?_⟩
 . rw[hp.cnt,h.cnt,z2g];simp only[BG.cnt];omega
 . rw[hp.tot,h.tot,q5s];simp[BG.tot];omega
 . have:=h.big;have:=hp.big;rw[qi1];simp only[BG.big];omega
 have:=h.len;have:=hp.len;simp;omega
theorem j0z{l:List a7}(i:Nat):big (l.take i)<=big l:=by
 have h:=qi1 (l.take i) (l.drop i);rw[Xe]at h;have:=z2h (l.drop i);omega
theorem j34{l:List a7}{x:a7}(h:x∈l):(x.N.natAbs:Int)<=big l:=by
 induction l with
 |nil=>cases h
 |cons y l a=>
  have:=z2h l;simp only[big];rcases Xw.1 h with rfl|h
  . omega
  have:=a h;omega
theorem dK.next{b c l:List a7}{i:Nat}(hi:i<l.length)(hb:BG.big b+BG.big l<=2147483648)(a:b.length+l.length<100000000)(h:dK b c (l.take i)):Ok (q7o c l[i].Rec l[i].N) (λd=>dK b d (l.take (i+1))):=by
 have j:=j34 (Xj hi);have k:=z2h b;have m:=z01 b l[i].Rec;have f:=h.cnt l[i].Rec;have e:=qi1 (l.take i) [l[i]];rw[<-Xb hi]at e;have n:=j0z (l:=l) (i+1);have o:=z01 (l.take i) l[i].Rec;have g:=h.len;simp only[BG.big]at e;rw[Xf]at g;refine (j64 h.rt (by omega) (by omega) (by rw[f];omega)).mono λd hd=>?_;rw[Xb hi];exact h.snoc hd
theorem zd8{b:List a7}(h:Rt b)(a:b.length<1000000000):q7x b=some true:=by
 obtain⟨r,c,d⟩:=q9o a;rw[c,d.2 h]
theorem j0v{b:List a7}(a:b.length<1000000000):q6b b=some b:=by
 refine k2k ?_;unfold q6b;exact Ok.guard (by simp;omega) (Ok.some (by simp))
theorem jn9{a b:List a7}(j:Rt a)(hb:Rt b)(k:big a+big b<=2147483648)(g:a.length+b.length<100000000):Ok (q31 a b) (λc=>dK a c b):=by
 unfold q31 qz9;refine Ok.bind (Ok.bind (Ok.of_eq (j0v (by omega)) (Ok.bind (Ok.of_eq (zd8 j (by omega)) (k2h (λ_=>?_) (λf=>by cases f))))));refine Ok.bind (Ok.of_eq (zd8 hb (by omega)) (k2h (λf=>by cases f) (λ_=>?_)));refine Ok.each (l:=b) (by omega) (λi s=>dK a s (b.take i)) 0 (λrec i hi s _ e m=>?_) (λrec s e=>?_) (by simpa using dK.nil j) (Xm _)
 . unfold ql9;simp only;refine k2h (λ_=>Ok.bind (k2i hi ?_)) (λf=>by simp only[decide_eq_false_iff_not]at f;omega);have n:=(hb.num _ (Xj hi)).2;rw[Int.one_mul,wrap_i64 b[i].N (by omega),wrap_i64 ((i:Int)+1) (by omega)];exact k2g (e.next hi k g) λd hd=>m _ hd
 unfold ql9;simp only;refine k2h (λf=>by simp only[decide_eq_true_eq]at f;omega) (λ_=>Ok.some (Ok.some ?_));rw[Xh]at e;exact e
theorem jw5{b:List a7}{r:aR}{n:Int}(h:Rt b)(a:b.length<100000000)(d:-2147483648<=n/\n<=2147483648)(e:-2147483648<=cnt b r+n/\cnt b r+n<=2147483648):Ok (z1g b r n) (λc=>Put b c r n):=by
 unfold z1g;refine Ok.bind (Ok.of_eq (j0v (by omega)) (Ok.bind (Ok.of_eq (zd8 h (by omega)) (k2h (λf=>by cases f) (λ_=>?_)))));exact k2g (j64 h a d e) λc g=>Ok.some g
open Classical in
noncomputable def there(b:List a7):List a7:=if Rt b then b.filter (λx=>decide (0<x.N))else []
theorem j18{b:List a7}(g:b.length<1000000):ql2 b=some (there b):=by
 refine k2k ?_;unfold ql2;refine Ok.each (l:=b) (by omega) (λi s=>s=(b.take i).filter (λx=>decide (0<x.N))) 0 (λrec i hi s _ c d=>?_) (λrec s c=>?_) (by simp) (Xm _)
 .
  have e:s.length<=i:=by
   rw[c];refine Nat.le_trans (Yk _ _) ?_;rw[Xf];omega
  unfold qq8;simp only;refine k2h (λ_=>Ok.bind (k2i hi ?_)) (λa=>by simp only[decide_eq_false_iff_not]at a;omega);rw[wrap_i64 ((i:Int)+1) (by omega)];refine k2h (λa=>Ok.guard (by simp;omega) (d _ ?_)) (λa=>d _ ?_)
  . rw[Xb hi,Xq,c,Zp,if_pos a];rfl
  rw[Xb hi,Xq,c,Zp,if_neg (by rw[a];simp)];simp
 rw[Xh]at c;unfold qq8;simp only;refine k2h (λa=>by simp only[decide_eq_true_eq]at a;omega) (λ_=>?_);unfold qq7;refine k2g (q9o (by omega)) λv f=>k2h (λa=>Ok.some ?_) (λa=>Ok.some ?_)
 .
  have:¬Rt b:=λh=>by rw[f.2 h]at a;cases a
  unfold there;rw[if_neg this]
 have:Rt b:=f.1 (by simpa using a);unfold there;rw[if_pos this,c]
theorem zb0(b:List a7):Rt (there b)/\∀x∈there b,0<x.N:=by
 unfold there
 split
 .
  rename_i h
  exact⟨⟨h.inc.sublist Z9,λx a=>h.num x (X0.1 a).1⟩,λx a=>by simpa using (X0.1 a).2⟩
 exact⟨Rt.nil,by simp⟩
theorem zn8(b:List a7):(there b).length<=b.length:=by
 unfold there
 split
 . exact Yk _ _
 simp
theorem z16{b:List a7}(h:Rt b)(hp:∀x∈b,0<x.N):there b=b:=by
 unfold there;rw[if_pos h];exact Wa.2 λx a=>by simpa using hp x a
end BG
end
section
open Go Go.RowKit
namespace OP
theorem T1{α:Type}(a:α):Ok (some a) (λ_=>True):=Ok.some trivial
theorem zx7{p:List cy}:Ok (q84 p) (λr=>r=true->p.length<=64/\∀x∈p,(x.Op=14\/x.Op=15)->0<=x.N/\x.N<=p.length):=by
 unfold q84;refine k2h (λ_=>Ok.some (λh=>by cases h)) (λe=>?_);simp only[decide_eq_false_iff_not]at e;refine k2l (l:=p) (by omega) (λi=>∀x∈p.take i,(x.Op=14\/x.Op=15)->0<=x.N/\x.N<=p.length) 0 (λrec i hi _ a c=>?_) (λrec a=>?_) (by simp) (Xm _)
 .
  unfold q8b qo2;refine k2h (λ_=>Ok.bind (k2i hi ?_)) (λb=>by simp only[decide_eq_false_iff_not]at b;omega);rw[wrap_i64 ((i:Int)+1) (by omega)];refine k2h (λ_=>Ok.some (λh=>by cases h)) (λ_=>Ok.bind (Ok.some (k2h (λd=>k2h (λ_=>Ok.some (λh=>by cases h)) (λf=>c ?_)) (λd=>k2h (λ_=>Ok.some (λh=>by cases h)) (λ_=>c ?_)))))
  . simp only[X5,decide_eq_false_iff_not]at f;exact (qk4 hi).2 ⟨a,λ_=>by omega⟩
  simp only[X5,beq_eq_false_iff_ne,ne_eq]at d;exact (qk4 hi).2 ⟨a,λh=>by omega⟩
 unfold q8b;refine k2h (λb=>by simp only[decide_eq_true_eq]at b;omega) (λ_=>Ok.some (λ_=>?_));rw[Xh]at a;exact⟨by omega,a⟩
theorem jp6(op a b:Int):Ok (qz3 op a b) (λ_=>True):=by
 have c:∀n ok,Ok (q2w n ok) (λ_=>True):=λn ok=>by
  unfold q2w;exact k2h (λ_=>T1 _) (λ_=>T1 _)
 have d:∀b,Ok (qf1 b) (λ_=>True):=λb=>by
  unfold qf1;exact k2h (λ_=>T1 _) (λ_=>T1 _)
 have g:Ok (qo0 a b) (λ_=>True):=by
  have f:∀n,Ok (q92 n) (λ_=>True):=λn=>by
   unfold q92;exact k2h (λ_=>T1 _) (λ_=>T1 _)
  unfold qo0;refine k2g (f _) λ_ _=>k2g (f _) λ_ _=>?_;unfold q3y;exact Ok.bind (Ok.some (k2h (λ_=>T1 _) (λ_=>T1 _)))
 have e:∀t,Ok (qa4 op a b t) (λ_=>True):=λt=>by
  unfold qa4;refine k2h (λ_=>k2h (λ_=>T1 _) (λj=>k2h (λ_=>c _ _) (λ_=>k2h (λ_=>c _ _) (λ_=>k2h (λ_=>Ok.guard ?_ (c _ _)) (λ_=>Ok.guard ?_ (c _ _)))))) (λ_=>k2h (λ_=>k2g (d _) λ_ _=>c _ _) (λ_=>k2h (λ_=>k2g (d _) λ_ _=>c _ _) (λ_=>c _ _)))
  all_goals simpa using j
 unfold qz3;exact k2h (λ_=>c _ _) (λ_=>k2h (λ_=>c _ _) (λ_=>k2h (λ_=>k2g g λ_ _=>c _ _) (λ_=>k2h (λ_=>e _) (λ_=>e _))))
theorem z2k{m:az}(n:Int)(h:m.stack.length<=8):Ok (q0b m n) (λq=>q.stack.length<=8/\q.out=m.out/\q.at_=m.at_):=by
 unfold q0b;refine k2h (λ_=>Ok.some ⟨h,rfl,rfl⟩) (λa=>Ok.guard (by simp;omega) (Ok.some ⟨?_,rfl,rfl⟩));simp only[beq_eq_false_iff_ne,ne_eq]at a;simp;omega
theorem j9e{m:az}(x:cy)(h:m.stack.length<=8):Ok (q2t m x) (λq=>q.2.stack.length<=8/\q.2.out=m.out/\q.2.at_=m.at_):=by
 unfold q2t;have k:IntKind.i64.wrap ((Yg m.stack:Int)-1)=(Yg m.stack:Int)-1:=wrap_i64 _ (by omega);have l:IntKind.i64.wrap ((Yg m.stack:Int)-2)=(Yg m.stack:Int)-2:=wrap_i64 _ (by omega);rw[k,l];have hp:∀n,Ok (q9 (q0b m n) (λ(b:az)=>some (true,b))) (λq=>q.2.stack.length<=8/\q.2.out=m.out/\q.2.at_=m.at_):=λn=>k2g (z2k n h) λq o=>Ok.some o;refine k2h (λ_=>hp _) (λ_=>k2h (λ_=>hp _) (λ_=>k2h (λ_=>hp _) (λ_=>k2h (λ_=>?_) (λ_=>k2h (λ_=>?_) (λ_=>k2h (λ_=>?_) (λ_=>Ok.some ⟨h,rfl,rfl⟩))))))
 . refine k2h (λ_=>Ok.some ⟨h,rfl,rfl⟩) (λa=>Ok.guard (by simp at a;omega) (Ok.guard (by simp at a;omega) (Ok.guard (by simp at a;omega) (Ok.bind (Ok.dg (by omega) (by simp at a⊢;omega) λy _=>?_)))));refine k2g (z2k _ (by simp;omega)) λq ⟨c,d,e⟩=>k2g (z2k _ c) λp ⟨f,g,j⟩=>Ok.some ⟨f,g.trans d,j.trans e⟩
 . refine k2h (λ_=>Ok.some ⟨h,rfl,rfl⟩) (λa=>Ok.guard (by simp at a;omega) (Ok.guard (by simp at a;omega) (Ok.guard (by simp at a;omega) (Ok.bind (Ok.dg (by omega) (by simp at a⊢;omega) λy _=>Ok.bind (Ok.dg (by omega) (by simp at a⊢;omega) λz _=>?_))))));refine k2g (z2k _ (by simp;omega)) λq ⟨c,d,e⟩=>k2g (z2k _ c) λp ⟨f,g,j⟩=>Ok.some ⟨f,g.trans d,j.trans e⟩
 refine k2h (λ_=>Ok.some ⟨h,rfl,rfl⟩) (λa=>Ok.guard (by simp at a;omega) (Ok.guard (by simp at a;omega) (Ok.some ⟨by simp;omega,rfl,rfl⟩)))
structure Ms(m:az):Prop where
 st:m.stack.length<=8
 out:m.out.length<=8
 at0:0<=m.at_
theorem fB{m:az}{x:cy}(h:Ms m)(u:m.at_<1000000)(a:(x.Op=14\/x.Op=15)->0<=x.N):Ok (q2y m x) (λq=>Ms q):=by
 unfold q2y;have n:=h.at0;have w1:IntKind.i64.wrap (m.at_+1)=m.at_+1:=wrap_i64 _ (by omega);rw[w1];refine k2g (j9e x h.st) λv ⟨e,g,j⟩=>?_;simp only at g j;have c:=h.out;rw[<-g]at c;have k:Ms v.2:=⟨e,c,by rw[j];omega⟩;have b:=k.at0
 generalize v.2=f at e c k b
 clear g j;have o:IntKind.i64.wrap ((Yg f.stack:Int)-1)=(Yg f.stack:Int)-1:=wrap_i64 _ (by omega);have p:IntKind.i64.wrap ((Yg f.stack:Int)-2)=(Yg f.stack:Int)-2:=wrap_i64 _ (by omega);rw[o,p];refine k2h (λ_=>Ok.some k) (λ_=>k2h (λd=>Ok.some ⟨e,c,a (.inl (by simpa using d))⟩) (λ_=>k2h (λd=>?_) (λ_=>k2h (λ_=>?_) (λ_=>?_))))
 . have l:=a (.inr (by simpa using d));refine k2h (λ_=>Ok.some ⟨e,c,b⟩) (λa=>Ok.guard (by simp at a;omega) (Ok.guard (by simp at a;omega) (Ok.guard (by simp at a;omega) (Ok.bind (Ok.dg (by omega) (by simp at a⊢;omega) λy _=>?_)))));exact k2h (λ_=>Ok.some ⟨by simp;omega,c,l⟩) (λ_=>Ok.some ⟨by simp;omega,c,b⟩)
 . refine k2h (λ_=>Ok.some ⟨e,c,b⟩) (λa=>Ok.guard (by simp at a;omega) (Ok.guard (by simp at a;omega) (Ok.guard (by simp at a;omega) (k2h (λ_=>Ok.some ⟨by simp;omega,c,b⟩) (λs=>Ok.bind (Ok.dg (by omega) (by simp at a⊢;omega) λy _=>Ok.bind (Ok.dg (by omega) (by simp at a⊢;omega) λz _=>Ok.guard (by simp;omega) (Ok.some ⟨by simp;omega,?_,b⟩))))))));simp only[beq_eq_false_iff_ne,ne_eq]at s;simp;omega
 refine k2h (λ_=>Ok.some ⟨e,c,b⟩) (λa=>Ok.guard (by simp at a;omega) (Ok.guard (by simp at a;omega) (Ok.guard (by simp at a;omega) (Ok.bind (Ok.dg (by omega) (by simp at a⊢;omega) λy _=>Ok.bind (Ok.dg (by omega) (by simp at a⊢;omega) λz _=>?_))))));refine k2g (jp6 _ _ _) λt _=>k2g (z2k _ (by simp;omega)) λq ⟨g1,g2,g3⟩=>Ok.some ⟨g1,by rw[g2];exact c,by rw[g3];exact b⟩
theorem j1a(p:List cy)(r:aR):Ok (qz4 p r) (λv=>v.1.length<=8):=by
 unfold qz4;refine k2g zx7 λok g=>k2h (λ_=>Ok.some (by simp)) (λhb=>?_);obtain⟨B,t⟩:=g (by simpa using hb);have l:∀a b c d e (o:List aR),o.length<=8->Ok (qa5 r a b c d e o) (λv=>v.1.length<=8):=λa b c d e o u=>by
  unfold qa5;exact k2h (λ_=>Ok.some (by simp)) (λ_=>Ok.some u)
 refine k2j (λs=>∃n:Nat,s.1=(n:Int)/\n<=256/\Ms ⟨⟨s.2.1,s.2.2.1⟩,s.2.2.2.2.2.1,s.2.2.2.2.2.2,s.2.2.2.1,s.2.2.2.2.1⟩) (λs=>s.1.toNat) ?_ ⟨256,rfl,Xt _,⟨by simp,by simp,by simp⟩⟩ (by simp only[rounds];omega);rintro rec ⟨_,a,b,c,d,e,o⟩ ⟨n,rfl,C,f⟩ w;simp only at f;unfold z1n;simp only;refine k2h (λy=>k2h (λ_=>l _ _ _ _ _ _ f.out) (λz=>?_)) (λ_=>l _ _ _ _ _ _ f.out);simp only[Xg,decide_eq_true_eq,beq_iff_eq]at y;simp only[beq_eq_false_iff_ne,ne_eq]at z;have j:0<=c:=f.at0;obtain⟨k,rfl⟩:=Int.eq_ofNat_of_zero_le j;have m:k<p.length:=by omega
 refine Ok.bind (k2i m (k2g (fB f (by simp only;omega) λh=>(t _ (Xj m) h).1) λq A=>?_));rw[wrap_i64 _ (by omega)];exact w _ ⟨n-1,by simp only;omega,by omega,A⟩ (by simp only;omega)
theorem j2k(k a b:Int):Ok (qb7 k a b) (λr=>r.K=k):=by
 unfold qb7 ql0;exact k2h (λ_=>Ok.bind (Ok.some (Ok.some rfl))) (λ_=>Ok.some rfl)
theorem zo2(x:aN)(r:aR):Ok (q85 x r) (λl=>l.length<=8):=by
 unfold q85;refine k2h (λ_=>k2g (j1a _ _) λv a=>Ok.some a) (λ_=>k2h (λ_=>k2g (j2k _ _ _) λv _=>Ok.some (by simp)) (λ_=>k2h (λ_=>k2h (λ_=>Ok.some (by simp)) (λb=>Ok.guard ?_ (k2h (λ_=>Ok.some (by simp)) (λ_=>Ok.some (by simp))))) (λ_=>Ok.some (by simp))));simp only[decide_eq_false_iff_not]at b;omega
def eP(x:aN)(r:aR):List aR:=(q85 x r).getD []
theorem jh7(x:aN)(r:aR):q85 x r=some (eP x r):=by
 obtain⟨l,h,_⟩:=zo2 x r;rw[eP,h];rfl
theorem j8q(x:aN)(r:aR):(eP x r).length<=8:=by
 obtain⟨l,h,a⟩:=zo2 x r;rw[eP,h];exact a
end OP
end
section
open Go Go.RowKit BG
namespace OP
def Pos(l:List a7):Prop:=∀x∈l,0<x.N
theorem Pos.bp:∀{l:List a7},Pos l->(l.length:Int)<=tot l
 |[],_=>by simp[tot]
 |x::l,h=>by
  have b:=h x (by simp);have c:=Pos.bp (l:=l) λy a=>h y (by simp[a]);simp only[tot,X3,Yb,Xo]at*;omega
theorem Pos.big:∀{l:List a7},Pos l->big l=tot l
 |[],_=>by simp[tot,BG.big]
 |x::l,h=>by
  have b:=h x (by simp);have c:=Pos.big (l:=l) λy a=>h y (by simp[a]);simp only[tot,BG.big,X3,Yb]at*;omega
theorem Pos.append{a b:List a7}(c:Pos a)(d:Pos b):Pos (a++b):=λx e=>(Xk.1 e).elim (c x) (d x)
theorem Pos.left{a b:List a7}(h:Pos (a++b)):Pos a:=λx c=>h x (Yl _ c)
theorem Pos.right{a b:List a7}(h:Pos (a++b)):Pos b:=λx c=>h x (Za _ c)
structure Mk(m:ak):Prop where
 many:m.many=tot m.out
 pos:Pos m.out
 le:m.many<=65536
def Res(m:ak)(O:List a7)(v:Bool×ak):Prop:=(v.1=true/\v.2.out=m.out++O/\Mk v.2)\/(v.1=false/\65536<tot m.out+tot O)
theorem zj2{m:ak}{r:aR}{n:Int}(h:Mk m)(b:0<n)(c:n<=1099511627776):Ok (q1h m r n) (λv=>Res m [⟨r,n⟩] v):=by
 have e:=h.pos.bp;have d:=h.many;have f:=h.le;unfold q1h;rw[wrap_i64 (65536-m.many) (by omega),wrap_i64 (m.many+n) (by omega)];refine k2h (λa=>Ok.some (.inr ⟨rfl,?_⟩)) (λa=>Ok.guard (by simp;omega) (Ok.some (.inl ⟨rfl,rfl,?_⟩)))
 . simp only[decide_eq_true_eq]at a;simp[tot]at*;omega
 simp only[decide_eq_false_iff_not]at a;exact⟨by simp only[q5s,d];simp[tot],h.pos.append (by intro x a;simp at a;rw[a];exact b),by simp only;omega⟩
def lin(x:aN)(b:List a7):List a7:=b.flatMap λy=>(eP x y.Rec).map (⟨·,y.N⟩)
theorem z6o(x:aN)(a b:List a7):lin x (a++b)=lin x a++lin x b:=by simp[lin]
theorem j2r(x:aN)(y:a7):lin x [y]=(eP x y.Rec).map (⟨·,y.N⟩):=by simp[lin]
theorem z5n{x:aN}{b:List a7}(h:Pos b):Pos (lin x b):=by
 intro z a;obtain⟨y,c,a⟩:=Zq.1 a;obtain⟨r,_,rfl⟩:=Yn.1 a;exact h y c
theorem z8d{m:ak}{x:aN}{b:List a7}(h:Mk m)(hp:Pos b)(hb:∀y∈b,y.N<=1099511627776)(D:b.length<1000000):Ok (q2n m x b) (λv=>Res m (lin x b) v):=by
 unfold q2n;refine Ok.each (l:=b) (by omega) (λi (s:Int×List a7)=>s.2=m.out++lin x (b.take i)/\Mk ⟨s.2,s.1⟩) 0 (λrec i hi s _ g z=>?_) (λrec s g=>?_) ⟨by simp[lin],h⟩ (Xm _)
 .
  obtain⟨many,out⟩:=s;simp only at g;unfold q5d;simp only;refine k2h (λ_=>Ok.bind (k2i hi (Ok.bind (Ok.of_eq (jh7 _ _) ?_)))) (λc=>by simp only[decide_eq_false_iff_not]at c;omega);have k:=Xj hi;have A:=hp _ k;have q:=hb _ k;have t:=j8q x b[i].Rec;have f:lin x b=lin x (b.take i)++(eP x b[i].Rec).map (⟨·,b[i].N⟩)++lin x (b.drop (i+1)):=by
   rw[<-j2r,<-z6o,<-z6o,<-Xb hi,Xe]
  have d:=z5n (x:=x) hp;rw[f]at d
  generalize B:eP x b[i].Rec=S at t f d
  refine Ok.each (l:=S) (by omega) (λj (s:Int×List a7)=>s.2=m.out++lin x (b.take i)++(S.take j).map (⟨·,b[i].N⟩)/\Mk ⟨s.2,s.1⟩) 0 (λo j u s _ a w=>?_) (λo s a=>?_) ⟨by simp only[Z5,Zr,X7];exact g.1,g.2⟩ (Xm _)
  .
   obtain⟨n,p⟩:=s;simp only at a;unfold q5c;simp only;refine k2h (λ_=>Ok.bind (k2i u (k2g (zj2 a.2 A q) λv C=>?_))) (λc=>by simp only[decide_eq_false_iff_not]at c;omega);rw[wrap_i64 ((j:Int)+1) (by omega)];rcases C with⟨v1,v2,v3⟩|⟨v1,v2⟩
   . rw[v1];refine k2h (λc=>by cases c) (λ_=>w _ ⟨?_,v3⟩);simp only at v2⊢;rw[v2,a.1,Xb u,Zw];simp only[X3,Zr,Xc]
   rw[v1];refine k2h (λ_=>Ok.some (.inr ⟨rfl,?_⟩)) (λc=>by cases c);simp only at v2;rw[a.1]at v2;have e:S.map (λr=>(⟨r,b[i].N⟩:a7))=(S.take j).map (⟨·,b[i].N⟩)++[⟨S[j],b[i].N⟩]++(S.drop (j+1)).map (⟨·,b[i].N⟩):=by
    conv=>lhs;rw[<-Xe (j+1) S,Xb u]
    simp only[Zw,X3,Zr]
   rw[e]at f d;have E:=d.right.bp;have G:=d.left.right.right.bp;rw[f];simp only[q5s]at v2⊢;have H:tot [(⟨S[j],b[i].N⟩:a7)]=b[i].N:=by simp[tot]
   omega
  obtain⟨n,p⟩:=s;simp only at a;unfold q5c;simp only;refine k2h (λc=>by simp only[decide_eq_true_eq]at c;omega) (λ_=>?_);rw[wrap_i64 ((i:Int)+1) (by omega)];refine z _ ⟨?_,a.2⟩;simp only;rw[a.1,Xh,Xb hi,z6o,j2r,B,Xc]
 obtain⟨many,out⟩:=s;simp only at g;rw[Xh]at g;unfold q5d;simp only;exact k2h (λc=>by simp only[decide_eq_true_eq]at c;omega) (λ_=>Ok.some (.inl ⟨rfl,g.1,g.2⟩))
theorem jl9{m:ak}(h:Mk m):Ok (q5n m) (λv=>dK [] v.1 m.out):=by
 have k:=h.pos.bp;have n:=h.many;have o:=h.le;have c:=h.pos.big;unfold q5n;refine Ok.each (l:=m.out) (by omega) (λi s=>dK [] s (m.out.take i)) 0 (λrec i hi s _ a g=>?_) (λrec s a=>?_) (by simpa using dK.nil Rt.nil) (Xm _)
 . unfold q69;simp only;refine k2h (λ_=>Ok.bind (k2i hi ?_)) (λb=>by simp only[decide_eq_false_iff_not]at b;omega);rw[wrap_i64 ((i:Int)+1) (by omega)];have g1:=j34 (Xj hi);have j:=a.cnt m.out[i].Rec;have e:=qi1 (m.out.take i) [m.out[i]];rw[<-Xb hi]at e;have p:=j0z (l:=m.out) (i+1);have q:=z01 (m.out.take i) m.out[i].Rec;have f:=a.len;simp only[BG.big]at e;rw[Xf]at f;simp only[Yh]at f;refine k2g (jw5 a.rt (by omega) (by omega) (by rw[j];simp only[cnt];omega)) λd hd=>g _ ?_;rw[Xb hi];exact a.snoc hd
 unfold q69;simp only;refine k2h (λb=>by simp only[decide_eq_true_eq]at b;omega) (λ_=>Ok.some ?_);rw[Xh]at a;exact a
end OP
end
section
open Go Go.RowKit BG
namespace OP
theorem j5l(v:Int):0<=IntKind.u64.wrap v/\IntKind.u64.wrap v<18446744073709551616:=by
 simp only[IntKind.wrap,IntKind.bits,IntKind.signed,Bool.false_and,X9,if_false];omega
def Lo(w:aV):Prop:=0<=w.lo.n/\w.lo.n<18446744073709551616
theorem jf9{w:aV}(v n:Int)(h:Lo w):Ok (qf2 w v n) (λr=>Lo r):=by
 have a:∀s,Ok (q79 w v n s) (λr=>Lo r):=λs=>by
  unfold q79 q3y;refine Ok.bind (Ok.some ?_);simp only;have b:=j5l (s*IntKind.u64.wrap n);refine k2h (λ_=>?_) (λ_=>?_)
  . unfold qs2 zv9;refine Ok.bind (Ok.guard ⟨h.1,b.1,by omega,by omega,by omega⟩ (Ok.some (Ok.some ?_)));exact⟨Zx _ (by decide),We _ (by decide)⟩
  unfold qs3 j17;refine Ok.bind (Ok.guard ⟨h.1,b.1,by omega,by omega⟩ (Ok.some (Ok.some ?_)));exact⟨Zx _ (by decide),We _ (by decide)⟩
 unfold qf2;exact k2h (λ_=>a _) (λ_=>a _)
theorem jp9{l:List a7}(e:l.length<1000000):Ok (qf9 l) (λ_=>True):=by
 unfold qf9;refine Ok.each (l:=l) (by omega) (λ_ s=>Lo s) 0 (λrec i hi s _ b c=>?_) (λrec s b=>?_) ⟨by simp,by simp⟩ (Xm _)
 . unfold qz6;simp only;refine k2h (λ_=>Ok.bind (k2i hi (k2g (jf9 _ _ b) λw d=>?_))) (λa=>by simp only[decide_eq_false_iff_not]at a;omega);rw[wrap_i64 ((i:Int)+1) (by omega)];exact c _ d
 unfold qz6;simp only;exact k2h (λa=>by simp only[decide_eq_true_eq]at a;omega) (λ_=>T1 _)
theorem j62(w:aV)(k:Int):Ok (q4v w k) (λr=>r.K=k):=by
 unfold q4v ql0;exact k2h (λ_=>Ok.some rfl) (λ_=>Ok.bind (Ok.some (Ok.some rfl)))
def z7s(l:List a7)(k:Int):aR:=((qf9 l).bind λw=>q4v w k).getD ⟨0,0⟩
theorem z95{l:List a7}(c:l.length<1000000)(k:Int):∃w,qf9 l=some w/\q4v w k=some (z7s l k)/\(z7s l k).K=k:=by
 obtain⟨w,a,_⟩:=jp9 c;obtain⟨r,b,d⟩:=j62 w k;have:z7s l k=r:=by unfold z7s;rw[a];simp[b]
 exact⟨w,a,by rw[this];exact b,by rw[this];exact d⟩
def fK(l:List a7):Int:=l.foldl (λn x=>IntKind.i64.wrap (n+x.N)) 0
def z1i(kind k:Int)(la lb:List a7):aR:=if kind=7 then⟨k,fK la⟩else if kind=6 then z7s la k else z7s lb k
def key(k:Int)(l:List a7):List a7:=l.filter (λx=>x.Rec.K==k)
structure Gr(kind:Int)(a b O:List a7):Prop where
 inc:O.Pairwise (λp q=>p.Rec.K<q.Rec.K)
 row:∀o∈O,o.N=1/\o.Rec=z1i kind o.Rec.K (key o.Rec.K a) (key o.Rec.K b)/\key o.Rec.K a≠[]
 all:∀x∈a,∃o∈O,o.Rec.K=x.Rec.K
 small:tot O<=(a.length:Int)
theorem jq8(kind k:Int){la lb:List a7}(a:la.length<1000000)(b:lb.length<1000000):(z1i kind k la lb).K=k:=by
 unfold z1i
 split
 . rfl
 split
 . exact (z95 a k).choose_spec.2.2
 exact (z95 b k).choose_spec.2.2
theorem scan{a:List a7}(p:a.length<1000000){R:Type}{Q:R->Prop}{f:Nat}(j:f<a.length){J:Int->Option R}{body:(Int->Option R)->Int->Option R}
 (hb:∀rec t,body rec t=(if (decide (t<(Yg a:Int)))=true then q9 (idx a t) (λ(x:a7)=>q9 (idx a f) (λ(y:a7)=>(if (x.Rec.K==y.Rec.K)=true then rec (IntKind.i64.wrap (t+1))else J t)))else J t))
 (h:∀t:Nat,f<t->t<=a.length->(∀q (_:q<a.length),f<=q->q<t->a[q].Rec.K=a[f].Rec.K)->(∀_:t<a.length,a[t].Rec.K≠a[f].Rec.K)->Ok (J (t:Int)) Q):Ok (q02 body rounds (f:Int)) Q:=by
 refine k2j (λs:Int=>∃t:Nat,s=(t:Int)/\f<=t/\t<=a.length/\∀q (_:q<a.length),f<=q->q<t->a[q].Rec.K=a[f].Rec.K) (λs=>a.length-s.toNat) ?_ ⟨f,rfl,Xt _,by omega,λq _ k c=>by omega⟩ (by simp only[rounds];omega);rintro rec _ ⟨t,rfl,k,c,d⟩ l;rw[hb];refine k2h (λe=>?_) (λe=>?_)
 .
  simp only[decide_eq_true_eq]at e;have m:t<a.length:=by omega
  refine Ok.bind (k2i m (Ok.bind (k2i j (k2h (λb=>?_) (λb=>?_)))))
  .
   simp only[beq_iff_eq]at b;rw[wrap_i64 ((t:Int)+1) (by omega)];refine l _ ⟨t+1,rfl,by omega,by omega,λq n g1 g2=>?_⟩ (by omega);rcases Y0 q t with g|g
   . exact d q n g1 g
   have:q=t:=by omega
   subst this;exact b
  simp only[beq_eq_false_iff_ne,ne_eq]at b;refine h t ?_ c d (λ_=>b);rcases Y0 f t with g|g
  . exact g
  have:f=t:=by omega
  subst this;exact absurd rfl b
 simp only[decide_eq_false_iff_not]at e;exact h t (by omega) c d (λo=>by omega)
theorem qy3(k:Int)(a b:List a7):key k (a++b)=key k a++key k b:=by simp[key]
theorem z6q{k:Int}{l:List a7}(h:∀x∈l,x.Rec.K≠k):key k l=[]:=Zz.2 λx a=>by simpa using h x a
theorem zl7{k:Int}{l:List a7}(h:∀x∈l,x.Rec.K=k):key k l=l:=Wa.2 λx a=>by simpa using h x a
theorem zl6(k:Int)(l:List a7):(key k l).length<=l.length:=Yk _ _
theorem jd2{a:List a7}(h:a.Pairwise (λp q=>lt p.Rec q.Rec)):a.Pairwise (λp q=>p.Rec.K<=q.Rec.K):=h.imp λ{p q} h=>by unfold lt at h;omega
theorem j00{a:List a7}(h:a.Pairwise (λp q=>p.Rec.K<=q.Rec.K)){f t:Nat}(c:f<t)(s:t<=a.length)(m:f<a.length)(hb:∀x∈a.take f,x.Rec.K<a[f].Rec.K)
 (n:∀q (_:q<a.length),f<=q->q<t->a[q].Rec.K=a[f].Rec.K)(o:∀_:t<a.length,a[t].Rec.K≠a[f].Rec.K):key a[f].Rec.K a=(a.take t).drop f/\∀x∈a.drop t,a[f].Rec.K<x.Rec.K:=by
 have hp:=Yf.1 h;have hd:∀x∈a.drop t,a[f].Rec.K<x.Rec.K:=λx b=>by
  obtain⟨j,d,rfl⟩:=Ya.1 b;rw[X6]at d;rw[Zj];have u:=o (by omega);have w:=hp f t m (by omega) c;rcases Y4 j with g|g
  . subst g;simp only[Nat.add_zero];omega
  have:=hp t (t+j) (by omega) (by omega) (by omega);omega
 refine⟨?_,hd⟩;have e:a=a.take f++(a.take t).drop f++a.drop t:=by
  conv=>lhs;rw[<-Xe t a,<-Xe f (a.take t),Y6,Yy (by omega)]
 generalize y:a[f].Rec.K=k at*
 conv=>lhs;rw[e]
 rw[qy3,qy3,z6q (l:=a.take f) (λx b=>by have:=hb x b;omega),z6q (l:=a.drop t) (λx b=>by have:=hd x b;omega),zl7 (l:=(a.take t).drop f),X8,X7];intro x b;obtain⟨j,d,rfl⟩:=Ya.1 b;rw[X6,Xf]at d;rw[Zj,Yu];exact n (f+j) (by omega) (by omega) (by omega)
theorem j4p{l:List a7}{i:Nat}(h:i<l.length):fK (l.take (i+1))=IntKind.i64.wrap (fK (l.take i)+l[i].N):=by
 unfold fK;rw[Xb h,Zk];rfl
theorem j4m{kind:Int}{a b:List a7}(ha:a.Pairwise (λp q=>lt p.Rec q.Rec))(bi:a.length<=60000)(bk:b.length<=60000):
 Ok (q4f ⟨[],0⟩ kind a b) (λv=>v.1=true/\Gr kind a b v.2.out/\Mk v.2):=by
 have hK:=jd2 ha;unfold q4f;refine k2j (λs=>∃f:Nat,s.1=(f:Int)/\f<=a.length/\s.2.2.Pairwise (λp q=>p.Rec.K<q.Rec.K)/\(∀o∈s.2.2,o.N=1/\o.Rec=z1i kind o.Rec.K (key o.Rec.K a) (key o.Rec.K b)/\key o.Rec.K a≠[])/\(∀x∈a.take f,∃o∈s.2.2,o.Rec.K=x.Rec.K)/\
  (∀o∈s.2.2,∃x∈a.take f,x.Rec.K=o.Rec.K)/\(∀x∈a.take f,∀y∈a.drop f,x.Rec.K<y.Rec.K)/\Mk ⟨s.2.2,s.2.1⟩/\s.2.1<=(f:Int)) (λs=>a.length-s.1.toNat) ?_ ⟨0,rfl,Xm _,by simp,by simp,by simp,by simp,by simp,⟨rfl,by simp[Pos],by simp⟩,by simp⟩ (by simp only[rounds];omega)
 rintro rec ⟨_,many,out⟩ ⟨f,rfl,hf,W,X,T,Y,Z,G,h7⟩ hr;simp only at W X T Y G h7;unfold q20;simp only;refine k2h (λC=>?_) (λC=>?_)
 rotate_left
 .
  simp only[decide_eq_false_iff_not]at C;have:f=a.length:=by omega
  rw[this,Xh]at T;have a6:=G.many;simp only at a6;exact Ok.some ⟨rfl,⟨W,X,T,by simp only;omega⟩,G⟩
 simp only[decide_eq_true_eq]at C;have m:f<a.length:=by omega
 have H:a[f]∈a.drop f:=by rw[Xu m];exact Y3
 refine scan (a:=a) (by omega) m (J:=q2i kind a b (f:Int) many out rec) (λb5 t=>rfl) λt g1 g2 g3 g4=>?_;obtain⟨B,ao⟩:=j00 hK g1 g2 m (λx c=>Z x c _ H) g3 g4;have I:key a[f].Rec.K a≠[]:=λe=>by
  have:a[f]∈key a[f].Rec.K a:=X0.2 ⟨Xj m,by simp⟩;rw[e]at this;cases this
 have bs:=zl6 a[f].Rec.K a;have b6:=zl6 a[f].Rec.K b;have bv:((a.take t).drop f).length<=60000:=by rw[<-B];omega
 have d:Ok (q9 (q1h (⟨out,many⟩:ak) (z1i kind a[f].Rec.K (key a[f].Rec.K a) (key a[f].Rec.K b)) 1) (λ(v:Bool×ak)=>(if (!v.1)=true then some (false,v.2)else rec ((t:Int),v.2.many,v.2.out)))) (λv=>v.1=true/\Gr kind a b v.2.out/\Mk v.2):=by
  have k:=jq8 kind a[f].Rec.K (la:=key a[f].Rec.K a) (lb:=key a[f].Rec.K b) (by omega) (by omega)
  generalize ar:z1i kind a[f].Rec.K (key a[f].Rec.K a) (key a[f].Rec.K b)=U at k⊢
  have b0:a[f]∈a.take t:=Ya.2 ⟨f,by rw[Xf];omega,by simp⟩;have D:a.take t=a.take f++(a.take t).drop f:=by
   conv=>lhs;rw[<-Xe f (a.take t),Y6,Yy (by omega)]
  have L:∀x∈(a.take t).drop f,x.Rec.K=a[f].Rec.K:=λx c=>by
   rw[<-B]at c
   simpa using (X0.1 c).2
  have u:=G.many;simp only at u;refine k2g (zj2 (r:=U) (n:=1) G (by omega) (by omega)) λv hv=>?_;rcases hv with⟨v1,v2,v3⟩|⟨v1,v2⟩
  .
   rw[v1];simp only at v2;have b1:=v3.many;rw[v2,q5s,<-u]at b1;have M:tot [(⟨U,1⟩:a7)]=1:=rfl;refine k2h (λc=>by cases c) (λ_=>hr _ ⟨t,rfl,g2,?_,?_,?_,?_,?_,v3,by simp only;omega⟩ (by simp only;omega))
   . simp only[v2];refine Xl.2 ⟨W,by simp,λo g q hq=>?_⟩;rw[Xx]at hq;rw[hq];obtain⟨x,c,e⟩:=Y o g;have:=Z x c _ H;simp only[k];omega
   .
    simp only[v2];intro o g;rcases Xk.1 g with g|g
    . exact X o g
    rw[Xx]at g;rw[g];refine⟨rfl,?_,?_⟩
    . simp only[k];exact ar.symm
    simp only[k];exact I
   .
    simp only[v2];intro x c;rw[D]at c;rcases Xk.1 c with c|c
    . obtain⟨o,g,e⟩:=T x c;exact⟨o,Yl _ g,e⟩
    exact⟨⟨U,1⟩,by simp,by simp only[k];exact (L x c).symm⟩
   .
    simp only[v2];intro o g;rcases Xk.1 g with g|g
    . obtain⟨x,c,e⟩:=Y o g;exact⟨x,by rw[D];exact Yl _ c,e⟩
    rw[Xx]at g;exact⟨a[f],b0,by rw[g];exact k.symm⟩
   intro x c y hy;have b2:y∈a.drop f:=by
    have:a.drop t=(a.drop f).drop (t-f):=by rw[List.drop_drop];congr 1;omega
    rw[this]at hy;exact Yw hy
   rw[D]at c;rcases Xk.1 c with c|c
   . exact Z x c y b2
   rw[L x c];exact ao y hy
  have M:tot [(⟨U,1⟩:a7)]=1:=rfl;simp only at v2;omega
 unfold q2i;refine Ok.bind (k2i m (Ok.guard (by omega) ?_));rw[Xd,Xd,<-B];refine k2h (λz=>?_) (λz=>k2h (λA=>?_) (λA=>?_))
 .
  simp only[beq_iff_eq]at z;have O:z1i kind a[f].Rec.K (key a[f].Rec.K a) (key a[f].Rec.K b)=⟨a[f].Rec.K,fK (key a[f].Rec.K a)⟩:=by unfold z1i;rw[if_pos z]
  rw[O]at d;refine k2j (λs=>∃j:Nat,s.2=(j:Int)/\j<=(key a[f].Rec.K a).length/\s.1=fK ((key a[f].Rec.K a).take j)) (λs=>(key a[f].Rec.K a).length-s.2.toNat) ?_ ⟨0,rfl,Xm _,rfl⟩ (by simp only[rounds];omega);rintro bc ⟨n,_⟩ ⟨j,rfl,hj,V⟩ b3;simp only at V;unfold q75;rw[Xd,Xd,<-B];simp only;refine k2h (λC=>?_) (λC=>?_)
  .
   simp only[decide_eq_true_eq]at C;have P:j<(key a[f].Rec.K a).length:=by omega
   refine Ok.bind (k2i P ?_);rw[wrap_i64 ((j:Int)+1) (by omega)];exact b3 _ ⟨j+1,rfl,by omega,by rw[j4p P,V]⟩ (by simp only;omega)
  simp only[decide_eq_false_iff_not]at C;have:j=(key a[f].Rec.K a).length:=by omega
  rw[this,Xh]at V;rw[V];unfold q51;exact d
 .
  simp only[beq_iff_eq]at A;have Q:¬kind=7:=by omega
  obtain⟨w,M,e2,_⟩:=z95 (l:=key a[f].Rec.K a) (by omega) a[f].Rec.K;have O:z1i kind a[f].Rec.K (key a[f].Rec.K a) (key a[f].Rec.K b)=z7s (key a[f].Rec.K a) a[f].Rec.K:=by unfold z1i;rw[if_neg Q,if_pos A]
  rw[O]at d;exact Ok.bind (Ok.of_eq M (Ok.bind (Ok.of_eq e2 d)))
 simp only[beq_eq_false_iff_ne,ne_eq]at A z;obtain⟨w,M,e2,_⟩:=z95 (l:=key a[f].Rec.K b) (by omega) a[f].Rec.K;have O:z1i kind a[f].Rec.K (key a[f].Rec.K a) (key a[f].Rec.K b)=z7s (key a[f].Rec.K b) a[f].Rec.K:=by unfold z1i;rw[if_neg z,if_neg A]
 rw[O]at d;unfold q53;refine Ok.each (l:=b) (by omega) (λi s=>s=key a[f].Rec.K (b.take i)) 0 (λR i hi s _ E S=>?_) (λR s E=>?_) (by simp[key]) (Xm _)
 .
  have b4:=zl6 a[f].Rec.K (b.take i);rw[<-E,Xf]at b4;unfold q54;simp only;refine k2h (λ_=>Ok.bind (k2i hi ?_)) (λc=>by simp only[decide_eq_false_iff_not]at c;omega);rw[wrap_i64 ((i:Int)+1) (by omega)];refine k2h (λc=>Ok.guard (by simp;omega) (S _ ?_)) (λc=>S _ ?_)
  . rw[Xb hi,qy3,E,zl7 (l:=[b[i]]) (by simpa using c)]
  rw[Xb hi,qy3,E,z6q (l:=[b[i]]) (by simpa using c),X7]
 rw[Xh]at E;subst E;unfold q54;simp only;refine k2h (λc=>by simp only[decide_eq_true_eq]at c;omega) (λ_=>?_);unfold q52;exact Ok.bind (Ok.of_eq M (Ok.bind (Ok.of_eq e2 d)))
end OP
end
section
open Go Go.RowKit BG
namespace OP
def z1v(k a b:Int):aR:=(qb7 k a b).getD ⟨0,0⟩
theorem j91(k a b:Int):qb7 k a b=some (z1v k a b)/\(z1v k a b).K=k:=by
 obtain⟨r,h,c⟩:=j2k k a b;have:z1v k a b=r:=by unfold z1v;rw[h];rfl
 exact⟨by rw[this];exact h,by rw[this];exact c⟩
def dw(x:a7)(b:List a7):List a7:=(key x.Rec.K b).map λy=>⟨z1v x.Rec.K x.Rec.V y.Rec.V,x.N*y.N⟩
def jn(a b:List a7):List a7:=a.flatMap (dw · b)
theorem z5a(x:a7)(a b:List a7):dw x (a++b)=dw x a++dw x b:=by simp[dw,qy3]
theorem qw8(a c b:List a7):jn (a++c) b=jn a b++jn c b:=by simp[jn]
theorem j6w(x:a7)(b:List a7):jn [x] b=dw x b:=by simp[jn]
theorem j01{a b:List a7}(d:Pos a)(hb:Pos b):Pos (jn a b):=by
 intro z c;obtain⟨x,e,c⟩:=Zq.1 c;obtain⟨y,f,rfl⟩:=Yn.1 c;exact Int.mul_pos (d x e) (hb y (X0.1 f).1)
theorem jj3{O acc R:List a7}{z:a7}(hp:Pos O)(h:O=acc++[z]++R)(a:65536<tot acc+z.N):65536<tot O:=by
 rw[h]at hp⊢;have:=hp.right.bp;simp only[q5s];have e:tot [z]=z.N:=by simp[tot]
 omega
theorem jk0{a b:List a7}(ha:a.Pairwise (λp q=>lt p.Rec q.Rec))(pa:Pos a)(pb:Pos b)(bs:a.length<=60000)(bv:b.length<=60000):
 Ok (q5m ⟨[],0⟩ a b) (λv=>(v.1=true/\v.2.out=jn a b/\Mk v.2)\/(v.1=false/\65536<tot (jn a b))):=by
 have hK:=jd2 ha;have T:=j01 pa pb;unfold q5m;refine k2j (λs=>∃f:Nat,s.1=(f:Int)/\f<=a.length/\s.2.2=jn (a.take f) b/\(∀x∈a.take f,∀y∈a.drop f,x.Rec.K<y.Rec.K)/\Mk ⟨s.2.2,s.2.1⟩) (λs=>a.length-s.1.toNat) ?_ ⟨0,rfl,Xm _,by simp[jn],by simp,⟨rfl,by simp[Pos],by simp⟩⟩ (by simp only[rounds];omega);rintro rec ⟨_,many,out⟩ ⟨f,rfl,hf,Q,h5,U⟩ hr;simp only at Q U;unfold q68;simp only;refine k2h (λW=>?_) (λW=>?_)
 rotate_left
 .
  simp only[decide_eq_false_iff_not]at W;have:f=a.length:=by omega
  rw[this,Xh]at Q;exact Ok.some (.inl ⟨rfl,Q,U⟩)
 simp only[decide_eq_true_eq]at W;have m:f<a.length:=by omega
 have X:a[f]∈a.drop f:=by rw[Xu m];exact Y3
 refine scan (a:=a) (by omega) m (J:=q36 a b (f:Int) many out rec) (λbk t=>rfl) λt g1 g2 g3 g4=>?_;obtain⟨Y,Z⟩:=j00 hK g1 g2 m (λx c=>h5 x c _ X) g3 g4;unfold q36;refine Ok.bind (k2i m (Ok.guard (by omega) ?_));have o:a.take t=a.take f++(a.take t).drop f:=by
  conv=>lhs;rw[<-Xe f (a.take t),Y6,Yy (by omega)]
 have a6:a=a.take f++(a.take t).drop f++a.drop t:=by
  conv=>lhs;rw[<-Xe t a]
  rw[<-o]
 have C:∀x∈(a.take t).drop f,x.Rec.K=a[f].Rec.K:=λx c=>by
  rw[<-Y]at c
  simpa using (X0.1 c).2
 have ao:∀x∈(a.take t).drop f,x∈a:=λx c=>Yc (Yw c);have c1:((a.take t).drop f).length<=60000:=by rw[X6,Xf];omega
 generalize hP:(a.take t).drop f=P at*
 have ar:jn a b=jn (a.take f) b++jn P b++jn (a.drop t) b:=by rw[<-qw8,<-qw8,<-a6]
 generalize u:a[f].Rec.K=D at*
 refine Ok.each (l:=P) (by omega) (λi (s:Int×List a7)=>s.2=jn (a.take f) b++jn (P.take i) b/\Mk ⟨s.2,s.1⟩) 0 (λE i hi s _ n b0=>?_) (λE s n=>?_) ⟨by simp only[Z5,Q];simp[jn],U⟩ (Xm _)
 rotate_left
 .
  obtain⟨w,G⟩:=s;simp only at n;rw[Xh]at n;unfold q67;rw[Xd,Xd,hP];simp only;refine k2h (λc=>by simp only[decide_eq_true_eq]at c;omega) (λ_=>hr _ ⟨t,rfl,g2,?_,?_,n.2⟩ (by simp only;omega))
  . simp only;rw[n.1,o,qw8]
  intro x c y hy;have b1:y∈a.drop f:=by
   have:a.drop t=(a.drop f).drop (t-f):=by rw[List.drop_drop];congr 1;omega
   rw[this]at hy;exact Yw hy
  rw[o]at c;rcases Xk.1 c with c|c
  . exact h5 x c y b1
  rw[C x c];exact Z y hy
 obtain⟨w,G⟩:=s;simp only at n;unfold q67;rw[Xd,Xd,hP];simp only;refine k2h (λ_=>Ok.bind (k2i hi ?_)) (λc=>by simp only[decide_eq_false_iff_not]at c;omega);have b2:=pa _ (ao _ (Xj hi));have A:=C _ (Xj hi);have b3:jn P b=jn (P.take i) b++dw P[i] b++jn (P.drop (i+1)) b:=by
  rw[<-j6w,<-qw8,<-qw8,<-Xb hi,Xe]
 refine Ok.each (l:=b) (by omega) (λj (s:Int×List a7)=>s.2=jn (a.take f) b++jn (P.take i) b++dw P[i] (b.take j)/\Mk ⟨s.2,s.1⟩) 0 (λH j S s _ d I=>?_) (λH s d=>?_) ⟨by simp only[Z5];rw[n.1];simp[dw,key],n.2⟩ (Xm _)
 .
  obtain⟨B,g⟩:=s;simp only at d;unfold q66;simp only;refine k2h (λ_=>Ok.bind (k2i S ?_)) (λc=>by simp only[decide_eq_false_iff_not]at c;omega);rw[wrap_i64 ((j:Int)+1) (by omega)];have L:dw P[i] (b.take (j+1))=dw P[i] (b.take j)++dw P[i] [b[j]]:=by rw[Xb S,z5a]
  have b4:=pb _ (Xj S);refine k2h (λc=>I _ ⟨?_,d.2⟩) (λc=>?_)
  .
   have:dw P[i] [b[j]]=[]:=by
    unfold dw;rw[z6q (by simpa [A,u]using c)];rfl
   rw[L,this,X7];exact d.1
  have b5:b[j].Rec.K=D:=by simpa [u]using c
  have M:dw P[i] [b[j]]=[⟨z1v D P[i].Rec.V b[j].Rec.V,P[i].N*b[j].N⟩]:=by
   unfold dw;rw[zl7 (l:=[b[j]]) (by simpa [A]using b5),X3,Zr,A]
  have b6:dw P[i] b=dw P[i] (b.take j)++[⟨z1v D P[i].Rec.V b[j].Rec.V,P[i].N*b[j].N⟩]++dw P[i] (b.drop (j+1)):=by
   rw[<-M,<-z5a,<-z5a,<-Xb S,Xe]
  have O:65536<tot g+P[i].N*b[j].N->65536<tot (jn a b):=λh=>by
   refine jj3 (acc:=g) (z:=⟨z1v D P[i].Rec.V b[j].Rec.V,P[i].N*b[j].N⟩) (R:=dw P[i] (b.drop (j+1))++jn (P.drop (i+1)) b++jn (a.drop t) b) T ?_ h;rw[d.1,ar,b3,b6];simp only[Xc]
  have bc:=d.2.pos.bp;simp only at bc;refine k2h (λk=>Ok.some (.inr ⟨rfl,O ?_⟩)) (λk=>?_)
  .
   simp only[Ye,decide_eq_true_eq]at k;have m1:P[i].N<=P[i].N*b[j].N:=by
    have:=Zf (show 1<=b[j].N by omega) (show 0<=P[i].N by omega);omega
   have m2:b[j].N<=P[i].N*b[j].N:=by
    have:=Int.mul_le_mul_of_nonneg_right (show 1<=P[i].N by omega) (show 0<=b[j].N by omega);omega
   omega
  simp only[X5,decide_eq_false_iff_not]at k;have bi:0<P[i].N*b[j].N:=Int.mul_pos b2 b4;have c2:P[i].N*b[j].N<=4294967296:=by
   have m1:=Zf (show b[j].N<=65536 by omega) (show 0<=P[i].N by omega);omega
  rw[wrap_i64 (P[i].N*b[j].N) (by omega),u];refine Ok.bind (Ok.of_eq (j91 _ _ _).1 (k2g (zj2 d.2 bi (by omega)) λv hv=>?_));rcases hv with⟨v1,v2,v3⟩|⟨v1,v2⟩
  . rw[v1];refine k2h (λc=>by cases c) (λ_=>I _ ⟨?_,v3⟩);simp only at v2⊢;rw[v2,d.1,L,M];simp only[Xc]
  rw[v1];refine k2h (λ_=>Ok.some (.inr ⟨rfl,O ?_⟩)) (λc=>by cases c);have e:tot [(⟨z1v D P[i].Rec.V b[j].Rec.V,P[i].N*b[j].N⟩:a7)]=P[i].N*b[j].N:=by simp[tot]
  simp only at v2;omega
 obtain⟨B,g⟩:=s;simp only at d;rw[Xh]at d;unfold q66;simp only;refine k2h (λc=>by simp only[decide_eq_true_eq]at c;omega) (λ_=>?_);rw[wrap_i64 ((i:Int)+1) (by omega)];refine b0 _ ⟨?_,d.2⟩;simp only;rw[d.1,Xb hi,qw8,j6w,Xc]
end OP
end
section
open Go Go.RowKit BG
namespace OP
def j9j(k:Int):Bool:=(q9h k).getD false
theorem jj9(k:Int):q9h k=some (j9j k):=by
 have h:Ok (q9h k) (λ_=>True):=by
  have a:∀b,Ok (q2a b) (λ_=>True):=λb=>by
   unfold q2a;exact k2h (λ_=>T1 _) (λ_=>T1 _)
  unfold q9h
  repeat' (first|exact a _|refine k2h (λ_=>?_) (λ_=>?_))
 obtain⟨b,hb,_⟩:=h;rw[j9j,hb];rfl
noncomputable def j3o(n:Nat)(bo:List (List a7)):List a7:=match bo[n]? with
 |some l=>there l
 |none=>[]
theorem eA{bo:List (List a7)}(n:Nat)(b:∀l∈bo,l.length<1000000):q5p (n:Int) bo=some (j3o n bo):=by
 refine k2k ?_;unfold q5p;refine k2h (λa=>Ok.some ?_) (λa=>?_)
 . simp only[decide_eq_true_eq]at a;unfold j3o;rw[List.getElem?_eq_none (by omega)]
 simp only[decide_eq_false_iff_not]at a;have h:n<bo.length:=by omega
 refine Ok.bind (k2i h (Ok.bind (Ok.of_eq (j18 (b _ (Xj h))) (Ok.some ?_))));unfold j3o;rw[Xv h]
def z6k(l:List a7):List a7:=l.map λy=>⟨y.Rec,1⟩
def Out(x:aN)(A B O:List a7):Prop:=
 if x.Kind=5 then O=lin x A++lin x B
 else if j9j x.Kind=true then O=lin x A
 else if x.Kind=8 then O=z6k A
 else if x.Kind=9 then O=jn A B
 else if x.Kind=7\/x.Kind=6\/x.Kind=14 then Gr x.Kind A B O
 else O=[]
def Fin(O:List a7)(v:List a7×Bool):Prop:=(v.2=true/\dK [] v.1 O/\tot O<=65536)\/(v.2=false/\v.1=[]/\65536<tot O)
theorem z2n{m:ak}(h:Mk m):Ok (q2u true m.many m.out) (λv=>Fin m.out v):=by
 unfold q2u;refine k2h (λa=>by cases a) (λ_=>k2g (jl9 h) λv b=>Ok.some (.inl ⟨rfl,b,?_⟩));have:=h.many;have:=h.le;omega
theorem z7i{O:List a7}(b:Int)(a:List a7)(h:65536<tot O):Ok (q2u false b a) (λv=>Fin O v):=by
 unfold q2u;exact k2h (λ_=>Ok.some (.inr ⟨rfl,rfl,h⟩)) (λc=>by cases c)
theorem j1r(a b:List a7):z6k (a++b)=z6k a++z6k b:=by simp[z6k]
theorem j9b(a:List a7):Pos (z6k a):=λx b=>by
 obtain⟨y,_,rfl⟩:=Yn.1 b;exact Int.one_pos
theorem Mk0:Mk ⟨[],0⟩:=⟨rfl,by simp[Pos],by simp⟩
theorem Gr.pos{k:Int}{A B O:List a7}(h:Gr k A B O):Pos O:=λx a=>by have:=(h.row x a).1;omega
structure Good(A:List a7):Prop where
 rt:Rt A
 pos:Pos A
 len:A.length<=60000
theorem Good.big{A:List a7}(h:Good A):∀y∈A,y.N<=1099511627776:=λy a=>by have:=(h.rt.num y a).2;omega
theorem ee{x:aN}{bo:List (List a7)}{A B:List a7}(J:q5p 0 bo=some A)(K:q5p 1 bo=some B)(d:Good A)(g:Good B):
 Ok (q70 x bo) (λv=>∃O,Out x A B O/\Pos O/\Fin O v):=by
 unfold q70;refine Ok.bind (Ok.of_eq J (Ok.bind (Ok.of_eq K ?_)));have G:=d.len;have H:=g.len;refine k2h (λc=>?_) (λc=>Ok.bind (Ok.of_eq (jj9 _) (k2h (λm=>?_) (λm=>k2h (λf=>?_) (λf=>k2h (λj=>?_) (λj=>k2h (λt=>?_) (λt=>?_)))))))
 .
  simp only[beq_iff_eq]at c;have e:Out x A B (lin x A++lin x B):=by unfold Out;rw[if_pos c]
  have o:Pos (lin x A++lin x B):=(z5n d.pos).append (z5n g.pos);have Q:=(z5n (x:=x) g.pos).bp;refine k2g (z8d (x:=x) Mk0 d.pos d.big (by omega)) λv k=>?_;rcases k with⟨v1,v2,v3⟩|⟨v1,v2⟩
  .
   rw[v1];refine k2h (λ_=>k2g (z8d (x:=x) v3 g.pos g.big (by omega)) λw L=>?_) (λp=>by cases p);rcases L with⟨w1,w2,w3⟩|⟨w1,w2⟩
   . rw[w1];refine (z2n w3).mono λu a=>⟨_,e,o,?_⟩;rw[v2]at w2;rw[w2]at a;exact a
   rw[w1];refine (z7i (O:=lin x A++lin x B) _ _ ?_).mono λu a=>⟨_,e,o,a⟩;rw[v2]at w2;simp only[X8]at w2;rw[q5s];exact w2
  rw[v1];refine k2h (λp=>by cases p) (λ_=>(z7i (O:=lin x A++lin x B) _ _ ?_).mono λu a=>⟨_,e,o,a⟩);simp only[q5s]at*;have:tot ([]:List a7)=0:=rfl;omega
 .
  simp only[beq_eq_false_iff_ne,ne_eq]at c;have e:Out x A B (lin x A):=by unfold Out;rw[if_neg c,if_pos m]
  have o:=z5n (x:=x) d.pos;refine k2g (z8d (x:=x) Mk0 d.pos d.big (by omega)) λv k=>?_;rcases k with⟨v1,v2,v3⟩|⟨v1,v2⟩
  . rw[v1];refine (z2n v3).mono λu a=>⟨_,e,o,?_⟩;rw[v2]at a;exact a
  rw[v1];refine (z7i (O:=lin x A) _ _ ?_).mono λu a=>⟨_,e,o,a⟩;have:tot ([]:List a7)=0:=rfl;simp only at v2;omega
 .
  simp only[beq_eq_false_iff_ne,ne_eq]at c;simp only[beq_iff_eq]at f;have e:Out x A B (z6k A):=by unfold Out;rw[if_neg c,if_neg (by rw[m];simp),if_pos f]
  refine k2j (λs=>∃i:Nat,s.2.1=(i:Int)/\i<=A.length/\s.1=true/\s.2.2.2=z6k (A.take i)/\Mk ⟨s.2.2.2,s.2.2.1⟩/\s.2.2.1=(i:Int)) (λs=>A.length-s.2.1.toNat) ?_ ⟨0,rfl,Xm _,rfl,by simp[z6k],Mk0,rfl⟩ (by simp only[rounds];omega);rintro rec ⟨ok,_,many,out⟩ ⟨i,rfl,hi,C,y,z,M⟩ N;simp only at C y z M;unfold z0o;simp only;refine k2h (λD=>?_) (λD=>?_)
  .
   simp only[decide_eq_true_eq]at D;have q:i<A.length:=by omega
   refine Ok.bind (k2i q (k2h (λ_=>k2g (zj2 (r:=A[i].Rec) (n:=1) z (by omega) (by omega)) λv k=>?_) (λp=>by rw[C]at p;cases p)));rw[wrap_i64 ((i:Int)+1) (by omega)];have P:tot [(⟨A[i].Rec,1⟩:a7)]=1:=rfl;have I:=z.many;simp only at I;rcases k with⟨v1,v2,v3⟩|⟨v1,v2⟩
   . have E:=v3.many;simp only at v2;rw[v2,q5s,<-I,P]at E;refine N _ ⟨i+1,rfl,by omega,v1,?_,v3,by simp only;omega⟩ (by simp only;omega);simp only;rw[v2,y,Xb q,j1r];rfl
   simp only at v2;omega
  simp only[decide_eq_false_iff_not]at D;have:i=A.length:=by omega
  rw[this,Xh]at y;rw[C];refine (z2n z).mono λu a=>⟨_,e,j9b A,?_⟩;simp only at a;rw[y]at a;exact a
 .
  simp only[beq_eq_false_iff_ne,ne_eq]at c f;simp only[beq_iff_eq]at j;have e:Out x A B (jn A B):=by unfold Out;rw[if_neg c,if_neg (by rw[m];simp),if_neg f,if_pos j]
  refine k2g (jk0 d.rt.inc d.pos g.pos G H) λv k=>?_;rcases k with⟨v1,v2,v3⟩|⟨v1,v2⟩
  . rw[v1];refine (z2n v3).mono λu a=>⟨_,e,j01 d.pos g.pos,?_⟩;rw[v2]at a;exact a
  rw[v1];exact (z7i (O:=jn A B) _ _ v2).mono λu a=>⟨_,e,j01 d.pos g.pos,a⟩
 .
  simp only[beq_eq_false_iff_ne,ne_eq]at c f j;have l:x.Kind=7\/x.Kind=6\/x.Kind=14:=by simpa [or_assoc]using t
  refine k2g (j4m (kind:=x.Kind) (b:=B) d.rt.inc G H) λv ⟨v1,v2,v3⟩=>?_;rw[v1];exact (z2n v3).mono λu a=>⟨_,by unfold Out;rw[if_neg c,if_neg (by rw[m];simp),if_neg f,if_neg j,if_pos l];exact v2,v2.pos,a⟩
 simp only[beq_eq_false_iff_ne,ne_eq]at c f j;have l:¬(x.Kind=7\/x.Kind=6\/x.Kind=14):=by
  intro h;have:((x.Kind==7||x.Kind==6)||x.Kind==14)=true:=by simpa [or_assoc]using h
  rw[this]at t;cases t
 exact (z2n Mk0).mono λu a=>⟨_,by unfold Out;rw[if_neg c,if_neg (by rw[m];simp),if_neg f,if_neg j,if_neg l],by simp[Pos],a⟩
theorem dK.pos{c O:List a7}(h:dK [] c O)(hp:Pos O):Pos c:=λx a=>by
 have f:=z3n h.rt.inc a;have b:=h.cnt x.Rec;have g:=(h.rt.num x a).1;have j:0<=cnt O x.Rec:=by
  have:∀l:List a7,Pos l->0<=cnt l x.Rec:=λl=>by
   induction l with
   |nil=>intro _;simp[cnt]
   |cons y l d=>
    intro hp;have:=hp y (by simp);have:=d λz e=>hp z (by simp[e]);simp only[cnt];split<;>omega
  exact this O hp
 simp only[cnt]at b;omega
end OP
end
section
open Go Go.RowKit BG
namespace BG
def neg(l:List a7):List a7:=l.map λy=>⟨y.Rec,-y.N⟩
theorem zn1{l:List a7}(h:OP.Pos l)(z:aR):0<=cnt l z:=by
 induction l with
 |nil=>simp[cnt]
 |cons x l a=>
  have c:=h x (by simp);have d:=a λy b=>h y (by simp[b]);simp only[cnt]
  split<;>omega
end BG
namespace CE
structure fN(l:List a7):Prop where
 rt:Rt l
 pos:OP.Pos l
 big:BG.big l<=65536
 len:l.length<=65536
theorem fN.nil:fN []:=⟨Rt.nil,by simp[OP.Pos],by simp[BG.big],by simp⟩
theorem cG(a:List a7)(h:a.length<=60000):OP.Good (there a):=⟨(zb0 a).1,(zb0 a).2,by have:=zn8 a;omega⟩
theorem bo{a b:List a7}(la:a.length<=60000)(lb:b.length<=60000):q5p 0 [a,b]=some (there a)/\q5p 1 [a,b]=some (there b):=by
 have h:∀l∈[a,b],l.length<1000000:=λl c=>by
  rcases Xw.1 c with rfl|c
  . omega
  rw[Xx]at c;rw[c];omega
 exact⟨OP.eA (bo:=[a,b]) 0 h,OP.eA (bo:=[a,b]) 1 h⟩
theorem ez{x:aN}{a b:List a7}(la:a.length<=60000)(lb:b.length<=60000):Ok (q70 x [a,b]) (λv=>fN v.1):=by
 obtain⟨g,j⟩:=bo la lb;refine (OP.ee g j (cG a la) (cG b lb)).mono λv ⟨O,_,k,l⟩=>?_;rcases l with⟨_,hp,n⟩|⟨_,m,_⟩
 .
  have c:OP.Pos v.1:=λy e=>by
   have f:=hp.cnt y.Rec;rw[z3n hp.rt.inc e]at f;have o:=zn1 k y.Rec;have p:=(hp.rt.num y e).1;simp only[BG.cnt]at f;omega
  have d:tot v.1<=65536:=by rw[hp.tot];simp[BG.tot]at*;omega
  refine⟨hp.rt,c,by rw[c.big];exact d,?_⟩;have:=c.bp;omega
 rw[m];exact fN.nil
end CE
end
section
open Go Go.RowKit
namespace BG
theorem j89{n:Int}(a:0<=n)(b:n<18446744073709551616):IntKind.u64.wrap n=n:=by simp[IntKind.wrap,IntKind.bits,IntKind.signed];omega
theorem j8r{n:Int}(a:0<=n)(b:n<4294967296):q2p .u64 n 32=0:=by
 show Int.fdiv _ 4294967296=_
 rw[Zi _ (by omega)];omega
theorem jv5{n:Int}(b:0<=n)(c:n<4294967296):z0t .u64 n 4294967295=n:=by
 have e:(BitVec.ofInt 64 n &&& BitVec.ofInt 64 4294967295).toNat=(BitVec.ofInt 64 n).toNat%4294967296:=by
  rw[BitVec.toNat_and,show (BitVec.ofInt 64 4294967295).toNat=2^32-1 from rfl,Nat.and_two_pow_sub_one_eq_mod]
 have a:((BitVec.ofInt 64 n).toNat:Int)=n%18446744073709551616:=by
  rw[BitVec.toNat_ofInt,Int.toNat_of_nonneg (Zx _ (by decide))];rfl
 unfold z0t
 show IntKind.u64.wrap (((BitVec.ofInt 64 n &&& BitVec.ofInt 64 4294967295).toNat:Nat):Int)=_
 rw[e,Int.natCast_emod,a,j89 (by omega) (by omega)];omega
theorem k0x{n:Int}(a:0<=n)(b:n<4294967296):q3y 1 n=some (0,n):=by
 unfold q3y;rw[j8r (n:=1) (by omega) (by omega),jv5 (n:=1) (by omega) (by omega),j8r a b,jv5 a b];simp only[Int.zero_mul,Int.one_mul,Int.mul_zero];rw[j89 a (by omega),j8r a b,show IntKind.u64.wrap 0=0 from rfl,Int.add_zero,show IntKind.u64.wrap 0=0 from rfl,show q2p .u64 0 32=0 from rfl,show z0t .u64 0 4294967295=0 from rfl,Int.zero_add,show IntKind.u64.wrap 0=0 from rfl,show q2p .u64 0 32=0 from rfl,Int.add_zero,show IntKind.u64.wrap 0=0 from rfl]
theorem j7n{r:aR}{n:Int}(d:0<=n)(o:n<1000000):q7k [r] n=some (Zg n.toNat r):=by
 obtain⟨k,rfl⟩:∃k:Nat,n=(k:Int):=⟨n.toNat,by omega⟩;refine k2k ?_;unfold q7k q7w ql6;rw[if_neg (by simp),show IntKind.u64.wrap (([r]:List aR).length:Int)=1 from rfl,j89 d (by omega),k0x d (by omega)];refine Ok.bind (Ok.bind (Ok.some (Ok.some ?_)));rw[if_neg (by simp;omega)];unfold q7v;dsimp only;rw[wrap_i64 _ (by omega),Xd];refine Ok.guard (by omega) (Ok.guard (by simp) ?_);refine k2j (λs=>∃m:Nat,∃a:List aR,s=((m:Int),a)/\a.length=k/\m<=k/\(1<=k->1<=m)/\a.take m=Zg m r) (λs=>k-s.1.toNat) ?_ ⟨min 1 k,_,rfl,?_,by omega,by omega,?_⟩ (by simp only[rounds];omega)
 .
  rintro rec _ ⟨m,a,rfl,e,p,g,f⟩ b;unfold qd4;dsimp only;refine k2h (λc=>?_) (λc=>Ok.some ?_)
  .
   have j:m<k:=by simp at c;omega
   rw[Xd];refine Ok.guard (by omega) (Ok.guard (by omega) (Ok.guard (by omega) (Ok.guard (by omega) ?_)));rw[f,Yv,e,Wb,Yv];have l:IntKind.i64.wrap ((m:Int)+((min m (k-m):Nat):Int))=((m+min m (k-m):Nat):Int):=by rw[wrap_i64 _ (by omega)];omega
   rw[l];refine b _ ⟨m+min m (k-m),_,rfl,?_,by omega,λ_=>by omega,?_⟩ (by simp only[Xd];omega)
   . rw[Xf];simp;omega
   rw[Y6,Yy (by omega),Xc,<-Xc,List.replicate_append_replicate,show min (k-m) m=min m (k-m) by omega,List.take_append_of_le_length (by simp),Wb,Nat.min_self]
  obtain rfl:m=k:=by simp at c;omega
  rw[<-f,<-e,Xh]
 . rw[Xf];simp;omega
 rw[Y6];rcases k with _|k
 . simp
 simp[Yy]
def all(b:List a7):List aR:=b.flatMap λy=>Zg y.N.toNat y.Rec
theorem z0u:∀{b:List a7},(∀y∈b,0<y.N)->((all b).length:Int)=tot b
 |[],_=>rfl
 |y::b,h=>by
  have:=z0u (b:=b) λz a=>h z (by simp[a]);have c:=h y (by simp);simp only[all,tot,Zl,Xa,Yv,X3,Yb]at this⊢;omega
theorem z2r{b:List a7}(h:∀y∈b,0<y.N)(i:Nat):0<=tot (b.take i)/\tot (b.take i)<=tot b:=by
 have e:tot b=tot (b.take i)+tot (b.drop i):=by rw[<-q5s,Xe]
 have c:=z0u (b:=b.take i) λy a=>h y (Yc a);have d:=z0u (b:=b.drop i) λy a=>h y (Yw a);omega
theorem z6c{b:List a7}{i:Nat}(h:i<b.length):tot (b.take (i+1))=tot (b.take i)+b[i].N:=by
 rw[Xb h,q5s];simp[tot]
theorem j3c{b:List a7}(w:b.length<1000000):Ok (qr1 b) λv=>(tot (there b)<=65536->v=(all (there b),true))/\(65536<tot (there b)->v=([],false)):=by
 unfold qr1;obtain⟨j,hp⟩:=zb0 b;have m:=zn8 b;refine Ok.bind (Ok.of_eq (j18 (by omega)) ?_)
 generalize there b=c at*
 have n:c.length<1000000:=by omega
 refine k2j (λs=>∃i:Nat,s=(tot (c.take i),(i:Int))/\i<=c.length/\tot (c.take i)<=65536) (λs=>c.length-s.2.toNat) ?_ ⟨0,by simp[tot],Xm _,by simp[tot]⟩ (by simp only[rounds];omega);rintro rec _ ⟨i,rfl,hi,o⟩ d;unfold z1o;dsimp only;refine k2h (λf=>?_) (λf=>?_)
 .
  have hi':i<c.length:=by simpa using f
  have z:=z2r hp (i+1);have A:=z2r hp i;have p:=z6c hi';have q:=j.num _ (Xj hi');refine Ok.bind (k2i hi' ?_);rw[wrap_i64 (tot (c.take i)+c[i].N) (by omega),wrap_i64 ((i:Int)+1) (by omega),<-p];refine k2h (λg=>Ok.some ⟨λt=>?_,λ_=>rfl⟩) (λg=>?_)
  . simp only[decide_eq_true_eq]at g;omega
  exact d _ ⟨i+1,rfl,hi',by simpa using g⟩ (by simp only;omega)
 obtain rfl:i=c.length:=by simp at f;omega
 rw[Xh]at o;have k:=z0u hp;unfold qu6;refine Ok.each (l:=c) (by omega) (λi a=>a=all (c.take i)) 0 (λrec i hi a _ e d=>?_) (λrec a e=>?_) (by simp[all]) (Xm _)
 . subst e;unfold qu7;dsimp only;have q:=j.num _ (Xj hi);have B:=hp _ (Xj hi);have C:=z2r hp (i+1);have D:=z6c hi;have E:=z0u (b:=c.take i) λy u=>hp y (Yc u);rw[if_pos (by simpa using hi)];refine Ok.bind (k2i hi ?_);rw[j7n (by omega) (by omega)];refine Ok.bind (Ok.some (Ok.guard (by rw[Yv];omega) ?_));rw[wrap_i64 ((i:Int)+1) (by omega)];refine d _ ?_;unfold all;rw[j0a hi]
 subst e;unfold qu7;dsimp only;rw[if_neg (by simp),Xh];exact Ok.some ⟨λ_=>rfl,λt=>by omega⟩
end BG
end
section
open Go Go.RowKit TS VA BG
namespace MN
open Classical
structure Fn(l:List a7):Prop where
 rt:Rt l
 pos:OP.Pos l
theorem Fn.nil:Fn []:=⟨Rt.nil,by simp[OP.Pos]⟩
theorem Fn.len{l:List a7}(h:Fn l):(l.length:Int)<=tot l:=h.pos.bp
theorem Fn.of{l:List a7}(h:CE.fN l):Fn l/\tot l<=65536:=⟨⟨h.rt,h.pos⟩,by rw[<-h.pos.big];exact h.big⟩
theorem qe3{l:List a7}(h:Fn l)(a:l≠[]):1<=tot l:=by
 have:=h.len
 cases l with
 |nil=>exact absurd rfl a
 |cons x l=>simp only[Xo]at this;omega
theorem z9p{a b:List a7}(e:Fn a)(hb:Fn b)(h:tot a+tot b<=50000000):Ok (q31 a b) λc=>Fn c/\tot c=tot a+tot b/\∀x,cnt c x=cnt a x+cnt b x:=by
 have j:=e.len;have k:=hb.len;refine (jn9 e.rt hb.rt (by rw[e.pos.big,hb.pos.big];omega) (by omega)).mono λc d=>⟨⟨d.rt,λy f=>?_⟩,d.tot,d.cnt⟩;have g:=d.cnt y.Rec;rw[z3n d.rt.inc f]at g;have l:=zn1 e.pos y.Rec;have m:=zn1 hb.pos y.Rec;have n:=(d.rt.num y f).1;omega
def bt(x:aP (List a7)):Int:=tot x.a0+tot x.a1
theorem qs4{α:Type}{f:α->Int}:∀{l:List α},(∀x∈l,1<=f x)->(l.length:Int)<=(l.map f).sum
 |[],_=>by simp
 |x::l,h=>by
  have b:=h x (by simp);have c:=qs4 (l:=l) λy a=>h y (by simp[a]);simp only[X3,Yb,Xo];omega
theorem q7m{α:Type}{f:α->Int}:∀{l:List α},(∀x∈l,0<=f x)->∀x∈l,f x<=(l.map f).sum/\0<=(l.map f).sum
 |[],_,x,b=>by simp at b
 |y::l,h,x,b=>by
  have e:=h y (by simp);simp only[X3,Yb];rcases Xw.1 b with rfl|b
  .
   have:0<=(l.map f).sum:=by
    have c:∀z∈l,0<=f z:=λz c=>h z (Ym _ c);clear b h e
    induction l with
    |nil=>simp
    |cons a l g=>simp only[X3,Yb];have:=c a (by simp);have:=g λz d=>c z (Ym _ d);omega
   omega
  have:=q7m (l:=l) (λz c=>h z (Ym _ c)) x b;omega
theorem qw2{α:Type}{f:α->Int}:∀{l:List α} {i:Nat} (hi:i<l.length) (x:α),((l.set i x).map f).sum=(l.map f).sum-f l[i]+f x
 |y::l,0,_,x=>by simp only[Y5,X3,Yb,Yt];omega
 |y::l,i+1,hi,x=>by
  have:=qw2 (l:=l) (i:=i) (f:=f) (by simpa using hi) x;simp only[Zh,X3,Yb,Y7];omega
theorem zk3{α:Type}{f:α->Int}(l:List α)(x:α):((l++[x]).map f).sum=(l.map f).sum+f x:=by simp
theorem zo0{α:Type}{f:α->Int}:∀{l:List α} {i:Nat} (hi:i<l.length),((l.eraseIdx i).map f).sum=(l.map f).sum-f l[i]
 |y::l,0,_=>by simp only[Zu,X3,Yb,Yt];omega
 |y::l,i+1,hi=>by
  have:=zo0 (l:=l) (i:=i) (f:=f) (by simpa using hi);simp only[Zv,X3,Yb,Y7];omega
def z0:af:=⟨0,⟨0,0,0,0⟩⟩
def enT(t:af):af:=⟨t.D+1,t.C⟩
def leT(t:af):af:=if t.D=2 then⟨1,⟨t.C.a0,0,0,0⟩⟩else if t.D=3 then⟨2,⟨t.C.a0,t.C.a1,0,0⟩⟩else⟨3,⟨t.C.a0,t.C.a1,t.C.a2,0⟩⟩
def nxT(t:af):af:=if t.D=1 then⟨1,⟨t.C.a0+1,t.C.a1,t.C.a2,t.C.a3⟩⟩else if t.D=2 then⟨2,⟨t.C.a0,t.C.a1+1,t.C.a2,t.C.a3⟩⟩else if t.D=3 then⟨3,⟨t.C.a0,t.C.a1,t.C.a2+1,t.C.a3⟩⟩else⟨4,⟨t.C.a0,t.C.a1,t.C.a2,t.C.a3+1⟩⟩
def bj(t:af):Int:=if t.D=1 then t.C.a0 else if t.D=2 then t.C.a1 else if t.D=3 then t.C.a2 else t.C.a3
def q95(t:af):Int:=if t.D=1 then 1048576 else 64
theorem cR(t:af):q8v t=some (if ok t/\t.D≠4 then (enT t,true)else (z0,false)):=by
 unfold q8v;rw[TS.bg];refine k2k (Ok.bind (Ok.some ?_))
 by_cases h:ok t
 .
  have b:=h.1;have c:=h.2.1
  by_cases a:t.D=4
  . rw[if_pos (by simp[a]),if_neg (by simp[a])];exact Ok.some rfl
  rw[if_neg (by simp[a,h]),if_pos ⟨h,a⟩,wrap_i64 _ (by omega)];exact Ok.some rfl
 rw[if_pos (by simp[h]),if_neg (by simp[h])];exact Ok.some rfl
theorem cN(t:af):q8u t=some (if ok t/\t.D≠1 then (leT t,true)else (z0,false)):=by
 unfold q8u;rw[TS.bg];refine k2k (Ok.bind (Ok.some (k2h (λa=>?_) (λa=>?_))))
 .
  have:¬(ok t/\t.D≠1):=λh=>by simp[h.1]at a;exact h.2 a
  rw[if_neg this];exact Ok.some rfl
 have h:ok t/\t.D≠1:=by simpa using a
 rw[if_pos h];obtain⟨h,b⟩:=h;have c:=cL h;obtain⟨D,⟨a0,a1,a2,a3⟩⟩:=t;unfold ok at h;dsimp only at c b h⊢;rcases c with rfl|rfl|rfl|rfl
 . exact absurd rfl b
 .
  simp only[Yz,if_false]at h;obtain⟨rfl,rfl⟩:a2=0/\a3=0:=by omega
  refine Ok.guard (by decide) ?_;refine Ok.bind (Ok.some (Ok.bind (Ok.some (Ok.bind (Ok.some (Ok.bind (Ok.some (Ok.some ?_))))))));rfl
 .
  simp only[Yz,if_false]at h;obtain rfl:a3=0:=by omega
  refine Ok.guard (by decide) ?_;refine Ok.bind (Ok.some (Ok.bind (Ok.some (Ok.bind (Ok.some (Ok.bind (Ok.some (Ok.some ?_))))))));rfl
 refine Ok.guard (by decide) ?_;refine Ok.bind (Ok.some (Ok.bind (Ok.some (Ok.bind (Ok.some (Ok.bind (Ok.some (Ok.some ?_))))))));rfl
theorem dp(t:af):qb5 t=some (if ok t/\bj t≠q95 t then (nxT t,true)else (z0,false)):=by
 unfold qb5;rw[TS.bg];refine k2k (Ok.bind (Ok.some ?_))
 by_cases h:ok t
 .
  have c:=cL h;rw[if_pos (by simp[h])];obtain⟨D,⟨a0,a1,a2,a3⟩⟩:=t;have b:=h;unfold ok at b;dsimp only at c b⊢;unfold q8k;rcases c with rfl|rfl|rfl|rfl
  .
   refine Ok.guard (by decide) ?_;refine Ok.bind (Ok.of_eq rfl ?_);refine Ok.bind (Ok.of_eq rfl ?_);refine k2h (λa=>?_) (λa=>?_)
   . rw[if_neg (λe=>e.2 (by simpa [bj,q95]using a))];exact Ok.some rfl
   rw[if_pos ⟨h,by simpa [bj,q95]using a⟩];refine Ok.guard (by decide) ?_;refine Ok.bind (Ok.of_eq rfl ?_);refine Ok.guard (by decide) ?_;refine Ok.bind (Ok.some (Ok.bind (Ok.some (Ok.bind (Ok.some (Ok.bind (Ok.some ?_)))))))
   show Ok (some ((⟨1,⟨IntKind.i64.wrap (a0+1),a1,a2,a3⟩⟩:af),true)) _
   rw[wrap_i64 _ (by omega)];exact Ok.some rfl
  .
   refine Ok.guard (by decide) ?_;refine Ok.bind (Ok.of_eq rfl ?_);refine Ok.bind (Ok.of_eq rfl ?_);refine k2h (λa=>?_) (λa=>?_)
   . rw[if_neg (λe=>e.2 (by simpa [bj,q95]using a))];exact Ok.some rfl
   rw[if_pos ⟨h,by simpa [bj,q95]using a⟩];refine Ok.guard (by decide) ?_;refine Ok.bind (Ok.of_eq rfl ?_);refine Ok.guard (by decide) ?_;refine Ok.bind (Ok.some (Ok.bind (Ok.some (Ok.bind (Ok.some (Ok.bind (Ok.some ?_)))))))
   show Ok (some ((⟨2,⟨a0,IntKind.i64.wrap (a1+1),a2,a3⟩⟩:af),true)) _
   rw[wrap_i64 _ (by simp at b;omega)];exact Ok.some rfl
  .
   refine Ok.guard (by decide) ?_;refine Ok.bind (Ok.of_eq rfl ?_);refine Ok.bind (Ok.of_eq rfl ?_);refine k2h (λa=>?_) (λa=>?_)
   . rw[if_neg (λe=>e.2 (by simpa [bj,q95]using a))];exact Ok.some rfl
   rw[if_pos ⟨h,by simpa [bj,q95]using a⟩];refine Ok.guard (by decide) ?_;refine Ok.bind (Ok.of_eq rfl ?_);refine Ok.guard (by decide) ?_;refine Ok.bind (Ok.some (Ok.bind (Ok.some (Ok.bind (Ok.some (Ok.bind (Ok.some ?_)))))))
   show Ok (some ((⟨3,⟨a0,a1,IntKind.i64.wrap (a2+1),a3⟩⟩:af),true)) _
   rw[wrap_i64 _ (by simp at b;omega)];exact Ok.some rfl
  refine Ok.guard (by decide) ?_;refine Ok.bind (Ok.of_eq rfl ?_);refine Ok.bind (Ok.of_eq rfl ?_);refine k2h (λa=>?_) (λa=>?_)
  . rw[if_neg (λe=>e.2 (by simpa [bj,q95]using a))];exact Ok.some rfl
  rw[if_pos ⟨h,by simpa [bj,q95]using a⟩];refine Ok.guard (by decide) ?_;refine Ok.bind (Ok.of_eq rfl ?_);refine Ok.guard (by decide) ?_;refine Ok.bind (Ok.some (Ok.bind (Ok.some (Ok.bind (Ok.some (Ok.bind (Ok.some ?_)))))))
  show Ok (some ((⟨4,⟨a0,a1,a2,IntKind.i64.wrap (a3+1)⟩⟩:af),true)) _
  rw[wrap_i64 _ (by simp at b;omega)];exact Ok.some rfl
 rw[if_neg (by simp[h]),if_neg (by simp[h])];exact Ok.some rfl
theorem z3a{t:af}(h:ok t)(b:t.D≠4):ok (enT t):=by
 have a:=cL h;obtain⟨D,⟨a0,a1,a2,a3⟩⟩:=t;unfold ok enT at*;dsimp only at*;rcases a with rfl|rfl|rfl|rfl<;>simp at*<;>omega
theorem zy3{t:af}(h:ok t)(b:t.D≠1):ok (leT t):=by
 have a:=cL h;obtain⟨D,⟨a0,a1,a2,a3⟩⟩:=t;unfold ok leT at*;dsimp only at*;rcases a with rfl|rfl|rfl|rfl<;>simp at*<;>omega
theorem z5m{t:af}(h:ok t)(b:bj t≠q95 t):ok (nxT t):=by
 have a:=cL h;obtain⟨D,⟨a0,a1,a2,a3⟩⟩:=t;unfold ok nxT bj q95 at*;dsimp only at*;rcases a with rfl|rfl|rfl|rfl<;>simp at*<;>omega
def okz(t:af):Prop:=ok t\/t=z0
theorem j3x:okz z0:=.inr rfl
end MN
end
section
open Go Go.RowKit TS VA BG
namespace MN
open Classical
section
variable {α β:Type} [Key α]
def look(m:List α×List β)(d:β)(k:α):β:=match q3c m.1 k with
 |none=>d
 |some i=>m.2.getD i d
theorem q82(x:α)(r:List α)(v:β)(q:List β)(d:β)(k:α):look (x::r,v::q) d k=if x=k then v else look (r,q) d k:=by
 unfold look;simp only[q3c]
 by_cases h:x=k
 . rw[if_pos (Key.bX.2 h),if_pos h];rfl
 rw[if_neg (λe=>h (Key.bX.1 e)),if_neg h]
 cases q3c r k with
 |none=>rfl
 |some i=>simp only[Option.map_some,List.getD_cons_succ]
theorem za2:∀{a:List α} {k:α},k∉a->q3c a k=none
 |[],_,_=>rfl
 |x::r,k,h=>by
  simp only[Xw,not_or]at h;unfold q3c;rw[if_neg (λe=>h.1 (Key.bX.1 e).symm),za2 h.2];rfl
theorem q81{m:List α×List β}{d:β}{k:α}(h:k∉m.1):look m d k=d:=by unfold look;rw[za2 h]
theorem j6o{m:List α×List β}{d:β}{k:α}{i:Nat}(h:q3c m.1 k=some i):look m d k=m.2.getD i d:=by unfold look;rw[h]
theorem z3c:∀{a:List α} {vs:List β} {d:β} {k:α},a.length=vs.length->k∈a->look (a,vs) d k∈vs
 |[],_,_,_,_,h=>by simp at h
 |x::r,v::q,d,k,b,h=>by
  rw[q82]
  split
  . simp
  rename_i c
  have:k∈r:=by rcases Xw.1 h with rfl|h;exact absurd rfl c;exact h
  exact Ym _ (z3c (by simpa using b) this)
 |_::_,[],_,_,b,_=>by simp at b
theorem zc0:∀{b:List α} {vs:List β} {d:β} {k q:α} {x:β},b.length=vs.length->k∉b->look (b++[k],vs++[x]) d q=if q=k then x else look (b,vs) d q
 |[],[],d,k,q,x,_,_=>by
  simp only[X8];rw[q82]
  by_cases h:k=q
  . rw[if_pos h,if_pos h.symm]
  rw[if_neg h,if_neg (λe=>h e.symm)]
 |y::r,v::p,d,k,q,x,a,c=>by
  simp only[Xw,not_or]at c;simp only[Xz];rw[q82,q82,zc0 (by simpa using a) c.2]
  by_cases h:y=q
  . rw[if_pos h,if_neg (λe=>c.1 (by rw[h,e])),if_pos h]
  rw[if_neg h,if_neg h]
 |[],_::_,_,_,_,_,a,_=>by simp at a
 |_::_,[],_,_,_,_,a,_=>by simp at a
theorem zb9:∀{c:List α} {vs:List β} {d:β} {k q:α} {x:β} {i:Nat},c.length=vs.length->q3c c k=some i->look (c,vs.set i x) d q=if q=k then x else look (c,vs) d q
 |[],_,_,_,_,_,_,_,h=>by cases h
 |_::_,[],_,_,_,_,_,f,_=>by simp at f
 |y::r,v::p,d,k,q,x,i,f,h=>by
  unfold q3c at h
  split at h
  .
   rename_i b
   have b:=Key.bX.1 b
   cases h
   rw[Y5,q82,q82,b]
   by_cases a:k=q
   . rw[if_pos a,if_pos a.symm]
   rw[if_neg a,if_neg (λe=>a e.symm),if_neg a]
  rename_i b
  simp only[Z0]at h;obtain⟨j,g,rfl⟩:=h;rw[Zh,q82,q82,zb9 (by simpa using f) g]
  by_cases a:y=q
  . rw[if_pos a,if_neg (λe=>b (Key.bX.2 (by rw[a,e]))),if_pos a]
  rw[if_neg a,if_neg a]
theorem zz6:∀{c:List α} {vs:List β} {d:β} {k q:α} {i:Nat},c.length=vs.length->c.Nodup->q3c c k=some i->look (c.eraseIdx i,vs.eraseIdx i) d q=if q=k then d else look (c,vs) d q
 |[],_,_,_,_,_,_,_,h=>by cases h
 |_::_,[],_,_,_,_,f,_,_=>by simp at f
 |y::r,v::p,d,k,q,i,f,l,h=>by
  have g:=(Zc.1 l).1;unfold q3c at h
  split at h
  .
   rename_i b
   have b:=Key.bX.1 b
   cases h
   simp only[Zu];rw[q82]
   by_cases a:q=k
   . rw[if_pos a,q81 (by rw[a,<-b];exact g)]
   rw[if_neg a,if_neg (λe=>a (by rw[<-e,b]))]
  rename_i b
  simp only[Z0]at h;obtain⟨j,m,rfl⟩:=h;simp only[Zv];rw[q82,q82,zz6 (by simpa using f) (Zc.1 l).2 m]
  by_cases a:y=q
  . rw[if_pos a,if_neg (λe=>b (Key.bX.2 (by rw[a,e]))),if_pos a]
  rw[if_neg a,if_neg a]
theorem dH{vs:List β}{n:Nat}(h:n=vs.length)(a b:β):(vs++[a]).set n b=vs++[b]:=by
 subst h;rw[Zb _ _ (Xt _),Nat.sub_self,Y5]
theorem qi2{m:List α×List β}{d:β}{k:α}{i:Nat}(c:m.1.length=m.2.length)(h:q3c m.1 k=some i):i<m.2.length/\atK m.2 i=some (look m d k)/\m.2[i]?=some (look m d k)/\look m d k∈m.2:=by
 have e:=(List.getElem?_eq_some_iff.1 (z2e h)).1;have b:i<m.2.length:=by omega
 have a:m.2[i]?=some (look m d k):=by rw[j6o h,Xr,Xv b];rfl
 exact⟨b,a,a,Z6 a⟩
theorem j73{a:List α}{k:α}{i:Nat}(h:q3c a k=some i):k∈a:=Z6 (z2e h)
end
theorem qp5{b:List a7}(h:Fn b)(e:tot b<=100000000):qt1 b=some (tot b):=by
 have hp:=h.len;unfold qt1;refine k2k (k2j (λs=>∃i:Nat,s=(tot (b.take i),(i:Int))/\i<=b.length) (λs=>b.length-s.2.toNat) ?_ ⟨0,by simp[tot],Xm _⟩ (by simp only[rounds];omega));rintro rec _ ⟨i,rfl,hi⟩ a;unfold z0p;dsimp only;refine k2h (λc=>?_) (λc=>Ok.some ?_)
 .
  have hi':i<b.length:=by simpa using c
  have f:=z2r h.pos (i+1);have d:=z6c hi';refine Ok.bind (k2i hi' ?_);rw[<-d,wrap_i64 (tot (b.take (i+1))) (by omega),wrap_i64 ((i:Int)+1) (by omega)];exact a _ ⟨i+1,rfl,hi'⟩ (by simp only;omega)
 obtain rfl:i=b.length:=by simp at c;omega
 rw[Xh]
def dep(g:aa)(s:Int):Nat:=(anc g.ae s).length
def lev(g:aa)(n:Nat):Nat:=dep g (q0s g (nd g n))
def PtM(g:aa)(p:ah):Prop:=∃n:Nat,n<g.al.length/\p.node=(n:Int)/\ok p.time/\p.time.D=(lev g n:Int)
theorem zb6{n:Int}{t:af}(j:0<=n/\n<1000000)(g:ok t):Key.okb (⟨n,t⟩:ah)=true:=by
 obtain⟨a,b,c,d,e,f⟩:=g
 show (Key.okb n&&Key.okb t.D&&Key.okb t.C.a0&&Key.okb t.C.a1&&Key.okb t.C.a2&&Key.okb t.C.a3)=true
 have:∀x:Int,0<=x->x<=1048576->Key.okb x=true:=λx k l=>by
  show (decide (-9223372036854775808<=x)&&decide (x<9223372036854775808))=true
  rw[Xg];exact⟨decide_eq_true (by omega),decide_eq_true (by omega)⟩
 rw[this n (by omega) (by omega),this t.D (by omega) (by omega),this _ c.1 c.2,this _ d.1 (by have:=d.2;split at this<;>omega),this _ e.1 (by have:=e.2;split at this<;>omega),this _ f.1 (by have:=f.2;split at this<;>omega)];rfl
theorem zl1{x:Int}(a:0<=x)(b:x<=1048576):Key.okb x=true:=by
 show (decide (-9223372036854775808<=x)&&decide (x<9223372036854775808))=true
 rw[Xg];exact⟨decide_eq_true (by omega),decide_eq_true (by omega)⟩
theorem PtM.okb{g:aa}(a:VA.Good g){p:ah}(h:PtM g p):Key.okb p=true:=by
 obtain⟨n,c,d,b,_⟩:=h;have:=a.nl;exact zb6 (n:=p.node) (t:=p.time) (by omega) b
structure MS where
 ins:ah->aP (List a7)
 ay:Int->List aD
 aE:ah->List a7
 work:Int
 outs:List aB
 e:Int
def no2:aP (List a7):=⟨[],[]⟩
def ab(r:a8):MS:=⟨look r.ins no2,look r.ay [],look r.aE [],r.work,r.outs,r.e⟩
structure Inv(g:aa)(T:Int)(r:a8):Prop where
 gr:r.g=g
 il:r.ins.1.length=r.ins.2.length
 ind:r.ins.1.Nodup
 ipt:∀p∈r.ins.1,PtM g p
 eH:∀x∈r.ins.2,Fn x.a0/\Fn x.a1/\1<=bt x
 pl:r.ay.1.length=r.ay.2.length
 pnd:r.ay.1.Nodup
 bl:r.aE.1.length=r.aE.2.length
 bnd:r.aE.1.Nodup
 dS:∀b∈r.aE.2,Fn b/\tot b<=T
 pot:(r.ins.2.map bt).sum+(r.ay.2.map λl=>(l.length:Int)).sum+r.outs.length<=T
 ptm:∀l∈r.ay.2,∀c∈l,ok c.Time
 fy:(r.ins.2.map bt).sum+(r.aE.2.map tot).sum<=T
noncomputable def aS(a b:List a7):List a7:=(q31 a b).getD []
theorem aY{a b:List a7}(e:Fn a)(hb:Fn b)(h:tot a+tot b<=50000000):q31 a b=some (aS a b)/\Fn (aS a b)/\tot (aS a b)=tot a+tot b/\∀x,cnt (aS a b) x=cnt a x+cnt b x:=by
 obtain⟨c,d,f,g⟩:=z9p e hb h;have:aS a b=c:=by unfold aS;rw[d];rfl
 rw[this];exact⟨d,f,g⟩
noncomputable def upd{α β:Type}(f:α->β)(k:α)(x:β):α->β:=λq=>if q=k then x else f q
noncomputable def q6m(v:aP (List a7))(port:Int)(b:List a7):aP (List a7):=if port=0 then⟨aS v.a0 b,v.a1⟩else⟨v.a0,aS v.a1 b⟩
noncomputable def q6l(s:MS)(q:ah)(port:Int)(b:List a7):MS:=
 if b=[]then s else {s with ins:=upd s.ins q (q6m (s.ins q) port b)}
theorem Inv.eI{g:aa}{T:Int}{r:a8}(h:Inv g T r):0<=(r.ins.2.map bt).sum/\0<=(r.ay.2.map λl=>(l.length:Int)).sum/\∀x∈r.ins.2,bt x<=T:=by
 have e:=qs4 λx b=>(h.eH x b).2.2;have c:0<=(r.ay.2.map λl=>(l.length:Int)).sum:=by
  generalize r.ay.2=L
  induction L with
  |nil=>simp
  |cons a L j=>simp only[X3,Yb];omega
 refine⟨by omega,c,λx b=>?_⟩;have k:=(q7m (f:=bt) (λy d=>by have:=(h.eH y d).2.2;omega) x b).1;have:=h.pot;omega
theorem j30{g:aa}(N:VA.Good g){T:Int}{r:a8}(f:Inv g T r){n:Int}{t:af}(I:PtM g ⟨n,t⟩){port:Int}(hp:port=0\/port=1){b:List a7}(hb:Fn b)(W:T<=10000000)(B:tot b<=65536):
 Ok (q3f r n port t b) λv=>Inv g (T+tot b) v/\ab v=q6l (ab r) ⟨n,t⟩ port b/\v.aC=r.aC/\v.work=r.work:=by
 have C:=I.okb N;have O:=hb.len;have P:=f.pot;unfold q3f q6l;refine k2h (λh=>Ok.some ?_) (λh=>?_)
 .
  have m:b=[]:=by simpa using h
  subst m;rw[if_pos rfl];exact⟨by simpa [tot]using f,rfl,rfl,rfl⟩
 have m:b≠[]:=by simpa using h
 rw[if_neg m];have D:=qe3 hb m;have j:0<=port/\port<2:=by omega
 cases E:q3c r.ins.1 (⟨n,t⟩:ah)with
 |none=>
  have s:=qb3 E;obtain⟨y,z,A,_⟩:=aY Fn.nil hb (by simp[tot];simp[tot]at B;omega);have J:tot ([]:List a7)=0:=by simp[tot]
  unfold qu8;refine Ok.guard C (Ok.guard j ?_);have k:∀w:aP (List a7),w=q6m no2 port b->Ok (some (⟨r.g,(Prod.mk (r.ins.1++[(⟨n,t⟩:ah)]) (Wm (r.ins.2++[no2]) (Yg r.ins.1) w)),r.ay,r.aE,r.work,r.aC,r.outs,r.e⟩:a8)) λv=>Inv g (T+tot b) v/\ab v={ab r with ins:=upd (ab r).ins ⟨n,t⟩ (q6m ((ab r).ins ⟨n,t⟩) port b)}/\v.aC=r.aC/\v.work=r.work:=by
   rintro w rfl;have l:Fn (q6m no2 port b).a0/\Fn (q6m no2 port b).a1/\bt (q6m no2 port b)=tot b:=by
    unfold q6m bt no2;rcases hp with rfl|rfl
    . rw[if_pos rfl];exact⟨z,Fn.nil,by rw[A];simp only[J];omega⟩
    rw[if_neg (by omega)];exact⟨Fn.nil,z,by rw[A];simp only[J];omega⟩
   rw[dH f.il];refine Ok.some ⟨⟨f.gr,by simp[f.il],?_,?_,?_,f.pl,f.pnd,f.bl,f.bnd,λx o=>⟨(f.dS x o).1,by have:=(f.dS x o).2;omega⟩,?_,f.ptm,?_⟩,?_,rfl,rfl⟩
   . exact Wk.2 ⟨f.ind,by simp,λa G c K e=>s (by simp at K;rw[<-K,<-e];exact G)⟩
   .
    intro p hp';rcases Xk.1 hp' with h|h
    . exact f.ipt p h
    simp at h;rw[h];exact I
   .
    intro x o;rcases Xk.1 o with h|h
    . exact f.eH x h
    simp at h;rw[h];exact⟨l.1,l.2.1,by rw[l.2.2];exact D⟩
   . rw[zk3,l.2.2];dsimp only;omega
   . rw[zk3,l.2.2];have:=f.fy;dsimp only;omega
   unfold ab;simp only[MS.mk.injEq,and_true]
   funext q
   rw[zc0 f.il s];unfold upd;rw[show look r.ins no2 ⟨n,t⟩=no2 from q81 s]
  rcases hp with rfl|rfl
  . refine Ok.bind (Ok.some ?_);rw[y];refine Ok.bind (Ok.some (Ok.guard j (Ok.bind (Ok.some (Ok.bind (Ok.some ?_))))));exact k _ (by simp[q6m,no2])
  refine Ok.bind (Ok.some ?_);rw[y];refine Ok.bind (Ok.some (Ok.guard j (Ok.bind (Ok.some (Ok.bind (Ok.some ?_))))));exact k _ (by simp[q6m,no2])
 |some i=>
  obtain⟨hi,G,L,M⟩:=qi2 (d:=no2) f.il E;obtain⟨f0,f1,X⟩:=f.eH _ M;have H:=f.eI.2.2 _ M;have z0:=f0.len;have Y:=f1.len;unfold qu8;dsimp only;rw[G];refine Ok.bind (Ok.some (Ok.guard j ?_))
  generalize Q:look r.ins no2 (⟨n,t⟩:ah)=v at*
  have R:tot v.a0+tot v.a1<=T:=H;obtain⟨y,z,A,_⟩:=aY f0 hb (by omega);obtain⟨S,U,V,_⟩:=aY f1 hb (by omega);have k:∀w:aP (List a7),w=q6m v port b->Ok (some (⟨r.g,(Prod.mk r.ins.1 (Wm r.ins.2 i w)),r.ay,r.aE,r.work,r.aC,r.outs,r.e⟩:a8)) λv=>Inv g (T+tot b) v/\ab v={ab r with ins:=upd (ab r).ins ⟨n,t⟩ (q6m ((ab r).ins ⟨n,t⟩) port b)}/\v.aC=r.aC/\v.work=r.work:=by
   rintro w rfl;have l:Fn (q6m v port b).a0/\Fn (q6m v port b).a1/\bt (q6m v port b)=bt v+tot b:=by
    unfold q6m bt;rcases hp with rfl|rfl
    . rw[if_pos rfl];exact⟨z,f1,by rw[A];dsimp only;omega⟩
    rw[if_neg (by omega)];exact⟨f0,U,by rw[V];dsimp only;omega⟩
   have u:r.ins.2[i]=v:=by rw[Xv hi]at L;exact Zd L
   refine Ok.some ⟨⟨f.gr,by simp[f.il],f.ind,f.ipt,?_,f.pl,f.pnd,f.bl,f.bnd,λx o=>⟨(f.dS x o).1,by have:=(f.dS x o).2;omega⟩,?_,f.ptm,?_⟩,?_,rfl,rfl⟩
   .
    intro x o;rcases Zn o with h|rfl
    . exact f.eH x h
    exact⟨l.1,l.2.1,by rw[l.2.2];omega⟩
   . rw[qw2 hi,l.2.2,u];dsimp only;omega
   . rw[qw2 hi,l.2.2,u];have:=f.fy;dsimp only;omega
   unfold ab;simp only[MS.mk.injEq,and_true]
   funext q
   rw[zb9 f.il E];unfold upd;rw[Q]
  rcases hp with rfl|rfl
  . refine Ok.bind (Ok.some ?_);rw[y];refine Ok.bind (Ok.some (Ok.guard j (Ok.bind (Ok.some (Ok.bind (Ok.some ?_))))));exact k _ (by simp[q6m])
  refine Ok.bind (Ok.some ?_);rw[S];refine Ok.bind (Ok.some (Ok.guard j (Ok.bind (Ok.some (Ok.bind (Ok.some ?_))))));exact k _ (by simp[q6m])
end MN
end
section
open Go Go.RowKit TS VA BG
namespace MN
open Classical
noncomputable def zy4(s:MS)(n:Int)(t:af):List a7:=(s.ay n).foldl (λa c=>if le c.Time t then aS a (s.aE ⟨n,c.Time⟩)else a) []
theorem qr4{α R:Type}(a:Option R)(b:α->Option R):qu8 none a b=a:=rfl
theorem qr3{α R:Type}(i:α)(a:Option R)(b:α->Option R):qu8 (some i) a b=b i:=rfl
theorem j6n{R:Type}{body:(Unit->Option R)->Unit->Option R}{v:R}(h:∀rec,body rec ()=some v):q02 body rounds ()=some v:=by
 unfold rounds q02;exact h _
theorem zp9{α:Type}:∀{l m:List α},l.Nodup->(∀x∈l,x∈m)->l.length<=m.length
 |[],_,_,_=>Xm _
 |x::l,m,c,h=>by
  have d:=h x (by simp);have g:=zp9 (l:=l) (m:=m.erase x) (Zc.1 c).2 λy f=>(List.mem_erase_of_ne (a:=y) (b:=x) (λe=>(Zc.1 c).1 (by rw[<-e];exact f))).2 (h y (by simp[f]));rw[List.length_erase_of_mem d]at g;have:=Zy d;simp only[Xo];omega
theorem j3n{b:List a7}(h:Fn b):(b.map (·.Rec)).Nodup:=by
 have:=h.rt.inc;rw[List.Nodup,Wg];exact this.imp λ{x y} a (e:x.Rec=y.Rec)=>qi4 x.Rec (by rw[<-e]at a;exact a)
theorem j1o{g:aa}{T:Int}{r:a8}(k:Inv g T r)(hT:T<=7000){n:Nat}(hn:n<1000000)(t:af):
 Ok (q13 r n t) λv=>v.2=r/\v.1=zy4 (ab r) n t/\Fn v.1/\(v.1.length:Int)<=T:=by
 have G:=zl1 (x:=(n:Int)) (by omega) (by omega);have z:0<=T:=by have:=k.eI;have:=k.pot;omega
 unfold q13
 cases S:q3c r.ay.1 (n:Int)with
 |none=>
  rw[qr4];refine Ok.guard G ?_;have W:(ab r).ay n=[]:=q81 (qb3 S);rw[j6n (v:=(([]:List a7),r)) λrec=>by unfold q4m;simp];exact Ok.some ⟨rfl,by unfold zy4;rw[W];rfl,Fn.nil,by simpa using z⟩
 |some i=>
  obtain⟨hi,X,hg,H⟩:=qi2 (d:=[]) k.pl S;rw[qr3];rw[X];refine Ok.bind (Ok.some ?_);have Y:(ab r).ay n=look r.ay [] (n:Int):=rfl;unfold zy4;rw[Y]
  generalize look r.ay [] (n:Int)=L at H
  have Z:(L.length:Int)<=T:=by
   have p:=(q7m (f:=λl:List aD=>(l.length:Int)) (λy _=>by omega) L H).1;have q:=k.eI.1;have:=k.pot;omega
  have U:∀b∈r.aE.2,0<=tot b:=λb hb=>by have:=(k.dS b hb).1.len;omega
  let all:=(r.aE.2.flatMap λb=>b.map (·.Rec))
  have a6:(all.length:Int)<=T:=by
   have p:(all.length:Int)<=(r.aE.2.map tot).sum:=by
    have:∀l:List (List a7),(∀b∈l,Fn b)->((l.flatMap λb=>b.map (·.Rec)).length:Int)<=(l.map tot).sum:=by
     intro l
     induction l with
     |nil=>intro _;simp
     |cons b l ih=>
      intro h;have p:=(h b (by simp)).len;have q:=ih λc I=>h c (by simp[I]);simp only[Zl,Xa,Yr,X3,Yb];omega
    exact this _ λb hb=>(k.dS b hb).1
   have:=k.fy;have:=k.eI.1;omega
  refine Ok.each (l:=L) (by omega) (λi a=>a=(L.take i).foldl (λa c=>if le c.Time t then aS a ((ab r).aE ⟨n,c.Time⟩)else a) []/\Fn a/\tot a<=i*7000/\∀x∈a,x.Rec∈all) 0 (λrec i hi a _ s o=>?_) (λrec a s=>?_) ⟨by simp,Fn.nil,by simp[tot],by simp⟩ (Xm _)
  .
   obtain⟨p,q,h3,E⟩:=s;unfold q30;dsimp only;rw[if_pos (by simpa using hi),iw hi (by omega)];refine Ok.bind (k2i hi ?_);rw[TS.le_eq];have e:(L.take (i+1)).foldl (λa c=>if le c.Time t then aS a ((ab r).aE ⟨n,c.Time⟩)else a) []=if le L[i].Time t then aS a ((ab r).aE ⟨n,L[i].Time⟩)else a:=by
    rw[Xb hi,Zk,<-p];rfl
   have J:tot a<=(i+1:Nat)*7000:=by push_cast;omega
   refine Ok.bind (Ok.some (k2h (λhle=>?_) (λhle=>?_)))
   .
    have hle:le L[i].Time t:=by simpa using hle
    rw[if_pos hle]at e;have K:Key.okb (⟨n,L[i].Time⟩:ah)=true:=zb6 ⟨by omega,by omega⟩ (k.ptm _ H _ (Xj hi));have A:∀b,b=(ab r).aE ⟨n,L[i].Time⟩->Fn b->tot b<=T->(∀x∈b,x.Rec∈all)->Ok (q9 (q31 a b) λB=>rec (((i+1:Nat):Int),B)) λv=>v.2=r/\v.1=L.foldl (λa c=>if le c.Time t then aS a ((ab r).aE ⟨n,c.Time⟩)else a) []/\Fn v.1/\(v.1.length:Int)<=T:=by
     intro b hb M ao N;have ar:(i:Int)<7000:=by omega
     obtain⟨p1,O,p3,p4⟩:=aY q M (by omega);rw[p1];refine Ok.bind (Ok.some (o _ ⟨by rw[e,hb],O,by push_cast;omega,λx w=>?_⟩));have I:=z3n O.rt.inc w;rw[p4]at I;have V:=O.pos x w
     by_cases P:cnt a x.Rec=0
     . obtain⟨y,C,Q⟩:=zd7 (b:=b) (r:=x.Rec) (by omega);rw[<-Q];exact N y C
     obtain⟨y,C,Q⟩:=zd7 P;rw[<-Q];exact E y C
    cases D:q3c r.aE.1 (⟨n,L[i].Time⟩:ah)with
    |none=>
     rw[qr4];refine Ok.guard K ?_;exact A [] (q81 (qb3 D)).symm Fn.nil (by simp[tot];exact z) (by simp)
    |some j=>
     obtain⟨_,R,_,u⟩:=qi2 (d:=[]) k.bl D;rw[qr3];rw[R];refine Ok.bind (Ok.some ?_);refine A _ rfl (k.dS _ u).1 (k.dS _ u).2 λx w=>?_;exact Zq.2 ⟨_,u,Yn.2 ⟨x,w,rfl⟩⟩
   have hle:¬le L[i].Time t:=by simpa using hle
   rw[if_neg hle]at e;exact o _ ⟨e.symm,q,J,E⟩
  obtain⟨p,q,h3,E⟩:=s;unfold q30;dsimp only;rw[if_neg (by simp)];rw[Xh]at p;refine Ok.some ⟨rfl,p,q,?_⟩;have:=zp9 (j3n q) (m:=all) λy C=>by
   obtain⟨x,w,rfl⟩:=Yn.1 C;exact E x w
  rw[Yr]at this;dsimp only;omega
def seen(s:MS)(n:Int)(t:af):List (List a7):=((s.ay n).filter λc=>decide (le c.Time t)).map λc=>s.aE ⟨n,c.Time⟩
noncomputable def dW(s:MS)(n:Int)(t:af):List a7:=if (seen s n t).length<=7000/\∀b∈seen s n t,Fn b/\tot b<=7000 then (seen s n t).foldl aS []else []
theorem j6d(s:MS)(n:Int)(t:af):zy4 s n t=(seen s n t).foldl aS []:=by
 unfold zy4 seen
 generalize ([]:List a7)=a
 induction s.ay n generalizing a with
 |nil=>rfl
 |cons c l b=>
  rw[List.foldl_cons]
  by_cases h:le c.Time t
  . rw[if_pos h,Yd (by simpa using h),X3,List.foldl_cons];exact b _
  rw[if_neg h,Yp (by simpa using h)];exact b _
theorem ji1{g:aa}{T:Int}{r:a8}(a:Inv g T r)(p:T<=7000)(n:Int)(t:af):(seen (ab r) n t).length<=7000/\∀b∈seen (ab r) n t,Fn b/\tot b<=7000:=by
 have k:0<=T:=by have:=a.eI;have:=a.pot;omega
 have m:((ab r).ay n).length<=7000:=by
  by_cases h:n∈r.ay.1
  .
   have d:(ab r).ay n∈r.ay.2:=z3c a.pl h;have j:=(q7m (f:=λl:List aD=>(l.length:Int)) (λy _=>by omega) _ d).1;have o:=a.eI.1;have:=a.pot;have:0<=(r.outs.length:Int):=by omega
   omega
  have e:(ab r).ay n=[]:=q81 h;rw[e];simp
 refine⟨?_,λb hb=>?_⟩
 . unfold seen;rw[Yr];exact Nat.le_trans (Yk _ _) m
 obtain⟨c,_,rfl⟩:=Yn.1 hb
 by_cases h:(⟨n,c.Time⟩:ah)∈r.aE.1
 . have d:(ab r).aE ⟨n,c.Time⟩∈r.aE.2:=z3c a.bl h;obtain⟨j,o⟩:=a.dS _ d;exact⟨j,by omega⟩
 have e:(ab r).aE ⟨n,c.Time⟩=[]:=q81 h;rw[e];exact⟨Fn.nil,by simp[tot]⟩
theorem z5z{g:aa}{T:Int}{r:a8}(a:Inv g T r)(b:T<=7000){n:Nat}(c:n<1000000)(t:af):
 Ok (q13 r n t) λv=>v.2=r/\v.1=dW (ab r) n t/\Fn v.1/\(v.1.length:Int)<=T:=
 (j1o a b c t).mono λv ⟨d,e,f⟩=>⟨d,by rw[e,j6d];unfold dW;rw[if_pos (ji1 a b _ _)],f⟩
end MN
end
section
open Go Go.RowKit TS VA BG
namespace MN
open Classical
def bnd(g:aa)(s:Int):Int:=g.aG.getD s.toNat 0
noncomputable def q05(g:aa)(n:Nat)(t:af):af×Bool:=
 if (nd g n).Kind=10 then (if ok t/\t.D≠4 then (enT t,true)else (z0,false))
 else if (nd g n).Kind=11 then (if ok t/\t.D≠1 then (leT t,true)else (z0,false))
 else if (nd g n).Kind=12 then (if ok t/\bj t≠q95 t then (nxT t,decide (bj (nxT t)<bnd g (nd g n).Scope))else (z0,false))
 else (t,true)
section
variable {g:aa} {n:Nat} {t:af}
theorem bY(h:(nd g n).Kind=10):q05 g n t=if ok t/\t.D≠4 then (enT t,true)else (z0,false):=by unfold q05;rw[if_pos h]
theorem bN(h:(nd g n).Kind=11):q05 g n t=if ok t/\t.D≠1 then (leT t,true)else (z0,false):=by unfold q05;rw[if_neg (by omega),if_pos h]
theorem bz(h:(nd g n).Kind=12):q05 g n t=if ok t/\bj t≠q95 t then (nxT t,decide (bj (nxT t)<bnd g (nd g n).Scope))else (z0,false):=by unfold q05;rw[if_neg (by omega),if_neg (by omega),if_pos h]
theorem cg(h:(nd g n).Kind≠10)(a:(nd g n).Kind≠11)(b:(nd g n).Kind≠12):q05 g n t=(t,true):=by unfold q05;rw[if_neg h,if_neg a,if_neg b]
end
theorem z6m{t:af}(h:ok t):(nxT t).D=t.D:=by
 have a:=cL h;obtain⟨D,⟨a0,a1,a2,a3⟩⟩:=t;dsimp only at a;rcases a with rfl|rfl|rfl|rfl<;>rfl
theorem z9b{t:af}(h:ok t)(a:t.D≠1):(leT t).D=t.D-1:=by
 have b:=cL h;obtain⟨D,⟨a0,a1,a2,a3⟩⟩:=t;dsimp only at b a;rcases b with rfl|rfl|rfl|rfl
 . exact absurd rfl a
 all_goals rfl
theorem eh{t:af}(h:ok t):(0<=IntKind.i64.wrap (t.D-1)/\IntKind.i64.wrap (t.D-1)<4)/\idx ([t.C.a0,t.C.a1,t.C.a2,t.C.a3]:List Int) (IntKind.i64.wrap (t.D-1))=some (bj t):=by
 have a:=cL h;obtain⟨D,⟨a0,a1,a2,a3⟩⟩:=t;dsimp only at a⊢;rcases a with rfl|rfl|rfl|rfl<;>exact⟨by decide,rfl⟩
section
variable {g:aa} (hG:VA.Good g)
include hG
theorem bb{s:Int}(d:0<=s)(e:s<g.ae.length):1<=dep g s/\dep g s<=4/\(s≠0->0<=g.ae.getD s.toNat 0/\g.ae.getD s.toNat 0<g.ae.length/\dep g s=dep g (g.ae.getD s.toNat 0)+1/\2<=dep g s):=by
 have c:=hG.wp;have b:dep g s=dep g (g.ae.getD s.toNat 0)+1:=by unfold dep;rw[q46 c d e];rfl
 have a:=hG.sc s.toNat (by omega);unfold sOk at a
 by_cases f:s=0
 .
  subst f;rw[if_pos (by rfl)]at a;have hp:g.ae.getD (0:Int).toNat 0=-1:=by simp at a;exact a.1
  have hd:dep g 0=1:=by rw[b,hp];unfold dep;rw[q6p];rfl
  rw[hd];exact⟨by omega,by omega,λh=>absurd rfl h⟩
 rw[if_neg (by omega)]at a;simp only[Xg,decide_eq_true_eq]at a;have j:dep g s<=4:=by
  have:=a.2;unfold dep;rw[show s=((s.toNat:Nat):Int) by omega];exact this
 have hp1:1<=dep g (g.ae.getD s.toNat 0):=by
  unfold dep;rw[q46 c a.1.1 (by omega)];simp
 exact⟨by omega,j,λ_=>⟨a.1.1,by omega,b,by omega⟩⟩
theorem aQ{v:Nat}(a:v<g.al.length):0<=(nd g v).Scope/\(nd g v).Scope<g.ae.length/\(((nd g v).Kind=10\/(nd g v).Kind=11\/(nd g v).Kind=12)->(nd g v).Scope≠0):=by
 have:=q7t (hG.no v a);exact⟨this.2.1.1,this.2.1.2,this.2.2.1⟩
theorem dq{n:Nat}(A:n<g.al.length){t:af}(B:PtM g ⟨n,t⟩)(b:(q05 g n t).2=true){e:aU}(C:e∈g.aw)(E:e.aO=n):PtM g ⟨e.To,(q05 g n t).1⟩/\(e.Port=0\/e.Port=1):=by
 obtain⟨m,H,G,u,o⟩:=B;obtain rfl:n=m:=by have:(n:Int)=m:=G;omega
 obtain⟨j,k,_,I,w,_⟩:=hG.ed.at C;have p:e.To.toNat<g.al.length:=by have:=k.1;have:=k.2;omega
 have q:ndI g e.aO=nd g n:=by rw[E];unfold ndI;rw[Xd]
 rw[q]at w;obtain⟨k1,k2,y⟩:=aQ hG A;obtain⟨J,K,z⟩:=bb hG k1 k2;have s:lev g e.To.toNat=dep g (q3n g (nd g n)):=by unfold lev;rw[w];rfl
 dsimp only at u o;have a:ok (q05 g n t).1/\(q05 g n t).1.D=(dep g (q3n g (nd g n)):Int):=by
  by_cases d:(nd g n).Kind=10
  .
   rw[bY d]at b⊢;have j:q3n g (nd g n)=(nd g n).Scope:=by unfold q3n;rw[if_neg (by omega)]
   have k:lev g n=dep g (g.ae.getD (nd g n).Scope.toNat 0):=by unfold lev q0s;rw[if_pos d]
   by_cases c:ok t/\t.D≠4
   . rw[if_pos c,j];have:=z (y (by omega));exact⟨z3a c.1 c.2,by show t.D+1=_;omega⟩
   rw[if_neg c]at b;cases b
  have k:lev g n=dep g (nd g n).Scope:=by unfold lev q0s;rw[if_neg d]
  by_cases f:(nd g n).Kind=11
  .
   rw[bN f]at b⊢;have j:q3n g (nd g n)=g.ae.getD (nd g n).Scope.toNat 0:=by unfold q3n;rw[if_pos f]
   by_cases c:ok t/\t.D≠1
   . rw[if_pos c,j];have:=z (y (by omega));exact⟨zy3 c.1 c.2,by rw[z9b c.1 c.2];omega⟩
   rw[if_neg c]at b;cases b
  have j:q3n g (nd g n)=(nd g n).Scope:=by unfold q3n;rw[if_neg f]
  by_cases l:(nd g n).Kind=12
  .
   rw[bz l]at b⊢
   by_cases c:ok t/\bj t≠q95 t
   . rw[if_pos c,j];exact⟨z5m c.1 c.2,by rw[z6m c.1,o,k]⟩
   rw[if_neg c]at b;cases b
  rw[cg d f l,j,<-k];exact⟨u,o⟩
 refine⟨⟨e.To.toNat,p,by have:=k.1;show e.To=_;omega,a.1,by rw[s];exact a.2⟩,?_⟩;have:bo (ndI g e.To).Kind<=2:=by unfold bo;repeat' split<;>try omega
 omega
theorem zc5{r:a8}(b:r.g=g){n:Nat}(a:n<g.al.length)(t:af):q4g r n t=some ((q05 g n t).1,(q05 g n t).2,r):=by
 obtain⟨k1,k2,_⟩:=aQ hG a;have d:=hG.bl;unfold q4g;rw[b];refine k2k (Ok.bind (k2i a ?_));rw[q7i a];refine k2h (λh=>?_) (λh=>?_)
 . rw[cR,bY (by simpa using h)];exact Ok.bind (Ok.some (Ok.some rfl))
 have e:¬(nd g n).Kind=10:=by simpa using h
 refine k2h (λh=>?_) (λh=>?_)
 . rw[cN,bN (by simpa using h)];exact Ok.bind (Ok.some (Ok.some rfl))
 have f:¬(nd g n).Kind=11:=by simpa using h
 refine k2h (λh=>?_) (λh=>?_)
 .
  have c3:(nd g n).Kind=12:=by simpa using h
  rw[dp,bz c3];refine Ok.bind (Ok.some ?_)
  by_cases c:ok t/\bj t≠q95 t
  . rw[if_pos c];obtain⟨i1,i2⟩:=eh (z5m c.1 c.2);refine k2h (λ_=>?_) (λh=>by cases h);refine Ok.guard i1 ?_;rw[show idx _ _=_ from i2];refine Ok.bind (Ok.some ?_);rw[qn3 0 k1 (by omega)];exact Ok.bind (Ok.some (Ok.some (by rw[if_pos c];rfl)))
  rw[if_neg c];exact k2h (λh=>by cases h) (λ_=>Ok.some (by rw[if_neg c]))
 have c3:¬(nd g n).Kind=12:=by simpa using h
 rw[cg e f c3];exact Ok.some rfl
end
noncomputable def bM(x:aN)(a b:List a7):Option (List a7):=match q70 x [a,b]with
 |some (o,true)=>if Fn o/\tot o<=65536 then some o else none
 |_=>none
theorem z4n{x:aN}{a b o:List a7}(h:bM x a b=some o):Fn o/\tot o<=65536:=by
 unfold bM at h
 split at h
 .
  split at h
  . cases h;assumption
  cases h
 cases h
theorem de{x:aN}{a b:List a7}(la:a.length<=60000)(lb:b.length<=60000):∃o k,q70 x [a,b]=some (o,k)/\Fn o/\tot o<=65536/\bM x a b=if k=true then some o else none:=by
 obtain⟨⟨o,k⟩,c,f⟩:=CE.ez (x:=x) la lb;obtain⟨d,e⟩:=Fn.of f;refine⟨o,k,c,d,e,?_⟩;unfold bM;rw[c]
 cases k
 . rfl
 exact if_pos ⟨d,e⟩
theorem j5r{x:aN}(a:x.Kind=15)(r:aR):OP.eP x r=[r]:=by
 unfold OP.eP q85;rw[if_neg (by rw[a];decide),if_neg (by rw[a];decide),if_neg (by rw[a];decide)];rfl
theorem zz7{x:aN}(a:x.Kind=15):∀b:List a7,OP.lin x b=b
 |[]=>rfl
 |y::b=>by
  have:=zz7 a b;unfold OP.lin at this⊢;rw[Zl,this,j5r a];rfl
theorem j52{x:aN}(g:x.Kind=15){a b:List a7}(c:Fn a)(la:a.length<=60000)(lb:b.length<=60000):bM x a b=if tot a<=65536 then some a else none:=by
 obtain⟨j,l⟩:=CE.bo la lb;obtain⟨v,m,O,d,_,n⟩:=OP.ee (x:=x) j l (CE.cG a la) (CE.cG b lb);have e:O=a:=by
  unfold OP.Out at d;rw[if_neg (by omega),if_pos (by rw[g];decide),zz7 g,z16 c.rt c.pos]at d;exact d
 subst e;unfold bM;rw[m];obtain⟨o,k⟩:=v;rcases n with⟨rfl,hp,f⟩|⟨rfl,_,f⟩
 .
  rw[if_pos f];have:o=O:=Rt.unique hp.rt c.rt λr=>by rw[hp.cnt];simp[cnt]
  rw[this];exact if_pos ⟨c,f⟩
 rw[if_neg (by omega)]
noncomputable def ba(n:Nat)(u:af)(out:List a7)(s:MS)(e:aU):MS:=if e.aO=n then {q6l s ⟨e.To,u⟩ e.Port out with work:=s.work+tot out}else s
noncomputable def q3b(n:Nat)(u:af)(out:List a7)(a:List aU)(s:MS):MS:=a.foldl (ba n u out) s
noncomputable def cm(g:aa)(aC:Int)(n:Nat)(t:af)(a b:List a7)(s:MS):Bool×MS:=
 match bM (nd g n) a b with
 |none=>(false,{s with e:=9})
 |some out=>
  if (nd g n).Kind=15 then (false,{s with outs:=s.outs++(all out).map λr=>⟨n,t.C.a0,r⟩})
  else if (q05 g n t).2=false\/out=[]then (false,s)
  else (true,if aC<(q3b n (q05 g n t).1 out g.aw s).work then {q3b n (q05 g n t).1 out g.aw s with e:=9}else q3b n (q05 g n t).1 out g.aw s)
noncomputable def aX(g:aa)(n:Nat)(t:af)(s:MS):MS:=
 if (nd g n).Kind=14 then {s with ins:=upd s.ins ⟨n,t⟩ no2,ay:=upd s.ay n (s.ay n++[⟨t,1⟩]),aE:=upd s.aE ⟨n,t⟩ (s.ins ⟨n,t⟩).a0}else {s with ins:=upd s.ins ⟨n,t⟩ no2}
noncomputable def bh(g:aa)(aC:Int)(s:MS)(n:Nat)(t:af):Bool×MS:=
 if s.ins ⟨n,t⟩=no2\/s.e≠0 then (false,s)
 else cm g aC n t (s.ins ⟨n,t⟩).a0 (if (nd g n).Kind=14 then dW (aX g n t s) n t else (s.ins ⟨n,t⟩).a1) (aX g n t s)
structure St(g:aa)(C aC:Int)(r:a8):Prop where
 inv:Inv g (C+r.work) r
 mo:r.aC=aC
 w0:0<=r.work
 wm:r.e=0->r.work<=aC
 wx:r.work<=aC+6553600
theorem Inv.we{g:aa}{T:Int}{r:a8}(h:Inv g T r)(w e:Int):Inv g T ⟨r.g,r.ins,r.ay,r.aE,w,r.aC,r.outs,e⟩:=⟨h.gr,h.il,h.ind,h.ipt,h.eH,h.pl,h.pnd,h.bl,h.bnd,h.dS,h.pot,h.ptm,h.fy⟩
theorem Inv.mono{g:aa}{T a:Int}{r:a8}(h:Inv g T r)(k:T<=a):Inv g a r:=⟨h.gr,h.il,h.ind,h.ipt,h.eH,h.pl,h.pnd,h.bl,h.bnd,λb hb=>⟨(h.dS b hb).1,Wf (h.dS b hb).2 k⟩,Wf h.pot k,h.ptm,Wf h.fy k⟩
theorem j15{g:aa}(I:VA.Good g){C aC:Int}(hC:0<=C)(Y:0<=aC)(Z:C+aC<=7000){r:a8}(j:St g C aC r)(O:r.e=0){n:Nat}(P:n<g.al.length){t:af}(ht:PtM g ⟨n,t⟩){a b:List a7}
 (ha:Fn a)(la:a.length<=60000)(lb:b.length<=60000)(G:(r.ins.2.map bt).sum+(r.ay.2.map λl=>(l.length:Int)).sum+r.outs.length+tot a<=C+r.work\/(nd g n).Kind≠15):
 Ok (q14 n t (nd g n) [a,b] r) λv=>v.1=(cm g aC n t a b (ab r)).1/\St g C aC v.2/\ab v.2=(cm g aC n t a b (ab r)).2:=by
 have a6:=j.wm O;have ao:=j.w0;have c:=j.inv;have Q:=c.eI;have R:=c.pot;obtain⟨o,k,h1,u,T,U⟩:=de (x:=nd g n) la lb;have ar:=u.len;unfold q14 cm;rw[h1,U];refine Ok.bind (Ok.some (k2h (λz=>?_) (λz=>?_)))
 .
  have z:k=false:=by simpa using z
  rw[z,if_neg (by simp)];refine Ok.some ⟨rfl,⟨c.we _ _,j.mo,j.w0,λh=>?_,j.wx⟩,rfl⟩;exact absurd h (by show ¬(9:Int)=0;decide)
 have z:k=true:=by simpa using z
 subst z;rw[if_pos rfl];dsimp only;refine k2h (λd=>?_) (λd=>?_)
 .
  have d:(nd g n).Kind=15:=by simpa using d
  rw[if_pos d];have J:o=a:=by
   have:=j52 d ha la lb;rw[U,if_pos rfl]at this
   split at this
   . exact Zd this
   cases this
  subst J;have G:=G.resolve_right (by simp[d]);have b0:=z0u (b:=o) u.pos;refine k2g (j3c (by omega)) λv D=>?_;have D:=D.1 (by rw[z16 u.rt u.pos];exact T);rw[z16 u.rt u.pos]at D;subst D;refine Ok.each (l:=all o) (by omega) (λi (b:a8)=>b=⟨r.g,r.ins,r.ay,r.aE,r.work,r.aC,r.outs++((all o).take i).map (λq=>⟨n,t.C.a0,q⟩),r.e⟩) 0 (λrec i hi s _ A f=>?_) (λrec s A=>?_) (by simp) (Xm _)
  .
   subst A;unfold q3r;dsimp only;rw[if_pos (by simpa using hi),iw hi (by omega)];refine Ok.bind (k2i hi (Ok.guard ?_ (f _ ?_)))
   . simp only[Xa,Yr,Xf,Xo,Yh];omega
   rw[Xb hi,Zw,Xc];rfl
  subst A;unfold q3r;dsimp only;rw[if_neg (by simp),Xh];refine Ok.some ⟨rfl,⟨⟨c.gr,c.il,c.ind,c.ipt,c.eH,c.pl,c.pnd,c.bl,c.bnd,c.dS,?_,c.ptm,c.fy⟩,j.mo,j.w0,j.wm,j.wx⟩,rfl⟩;dsimp only;rw[Xa,Yr]
  push_cast
  omega
 have d:¬(nd g n).Kind=15:=by simpa using d
 rw[if_neg d];unfold q5f;rw[zc5 I c.gr P];refine Ok.bind (Ok.some (k2h (λB=>?_) (λB=>?_)))
 . rw[if_pos (by simpa using B)];exact Ok.some ⟨rfl,j,rfl⟩
 have B:¬((q05 g n t).2=false\/o=[]):=by simpa using B
 rw[if_neg B];have K:(q05 g n t).2=true:=by simpa using λe=>B (.inl e)
 have ho:o≠[]:=λe=>B (.inr e);have b1:=qe3 u ho;have L:=I.el;have V:r.g.aw.length<=64:=by rw[c.gr];exact L
 refine VA.dm (l:=r.g.aw) (by rw[c.gr];omega) (λi (s:a8)=>(o,i,s)) (λq=>q.2.1) (λ_ _=>rfl)
  (λi s=>Inv g (C+s.work) s/\s.aC=aC/\s.e=0/\r.work<=s.work/\s.work<=r.work+65536*i/\ab s=q3b n (q05 g n t).1 o (g.aw.take i) (ab r)) 0 (λrec i hi s _ A f=>?_) (λrec s A=>?_) ⟨c,j.mo,O,Y8 _,by simp,rfl⟩ (Xm _)
 .
  obtain⟨s1,w,M,W,X,E⟩:=A;have H:i<g.aw.length:=by rw[<-c.gr];exact hi
  have N:r.g.aw[i]=g.aw[i]:=by simp only[c.gr]
  have m:∀S,q3b n (q05 g n t).1 o (g.aw.take (i+1)) S=ba n (q05 g n t).1 o (q3b n (q05 g n t).1 o (g.aw.take i) S) g.aw[i]:=λS=>by
   unfold q3b;rw[Xb H,Zk];rfl
  unfold q3s;dsimp only;rw[if_pos (by simpa using hi),iw hi (by omega)];refine Ok.bind (k2i hi ?_);rw[N];refine k2h (λy=>?_) (λy=>?_)
  .
   have y:g.aw[i].aO=n:=by simpa using y
   obtain⟨q1,q2⟩:=dq I P ht K (Xj H) y;refine k2g (j30 I s1 q1 q2 u (by omega) T) λv D=>?_;obtain⟨v1,v2,v3,v4⟩:=D;rw[qp5 u (by omega)];refine Ok.bind (Ok.some (f _ ?_));rw[v4,wrap_i64 _ (by omega)];refine⟨?_,by rw[<-w];exact v3,?_,by dsimp only;omega,by dsimp only;push_cast;omega,?_⟩
   . have:=v1.we (s.work+tot o) v.e;exact this.mono (by dsimp only;omega)
   .
    have:(ab v).e=(q6l (ab s) ⟨g.aw[i].To,(q05 g n t).1⟩ g.aw[i].Port o).e:=by rw[v2]
    have h9:(q6l (ab s) ⟨g.aw[i].To,(q05 g n t).1⟩ g.aw[i].Port o).e=(ab s).e:=by unfold q6l;split<;>rfl
    rw[h9]at this;exact this.trans M
   rw[m,<-E];unfold ba;rw[if_pos y,<-v2];rfl
  have y:¬g.aw[i].aO=n:=by simpa using y
  refine f _ ⟨s1,w,M,W,by push_cast;omega,?_⟩;rw[m,<-E];unfold ba;rw[if_neg y]
 obtain⟨s1,w,M,W,X,E⟩:=A;rw[c.gr]at X E;rw[Xh]at E;unfold q3s;dsimp only;rw[if_neg (by simp),<-E];unfold q5e;refine k2h (λp=>Ok.some ⟨rfl,?_,?_⟩) (λp=>Ok.some ⟨rfl,?_,?_⟩)
 . exact⟨s1.we _ _,w,by dsimp only;omega,λh=>absurd h (by show ¬(9:Int)=0;decide),by dsimp only;omega⟩
 .
  have p:aC<s.work:=by rw[<-w];simpa using p
  rw[if_pos (show aC<(ab s).work from p)];rfl
 .
  have p:s.work<=aC:=by rw[<-w];simpa using p
  exact⟨s1,w,by dsimp only;omega,λ_=>p,by dsimp only;omega⟩
 have p:¬aC<s.work:=by
  have:s.work<=aC:=by rw[<-w];simpa using p
  omega
 rw[if_neg (show ¬aC<(ab s).work from p)]
end MN
end
section
open Go Go.RowKit TS VA BG
namespace MN
open Classical
structure Put{α β:Type}[Key α](m m':List α×List β)(d:β)(k:α)(x:β):Prop where
 len:m'.1.length=m'.2.length
 nd:m'.1.Nodup
 look:look m' d=upd (look m d) k x
 mem:∀y∈m'.2,y∈m.2\/y=x
 sum:∀f:β->Int,f d=0->(m'.2.map f).sum=(m.2.map f).sum-f (MN.look m d k)+f x
section
variable {α β:Type} [Key α]
theorem zb5{m:List α×List β}{d x:β}{k:α}(n:β)(g:m.1.length=m.2.length)(o:m.1.Nodup)(p:q3c m.1 k=none):Put m (m.1++[k],(m.2++[n]).set m.1.length x) d k x:=by
 have b:=qb3 p;rw[dH g];refine⟨by simp[g],Wk.2 ⟨o,by simp,λa s c l e=>b (by simp at l;rw[<-l,<-e];exact s)⟩,?_,λy t=>?_,λf j=>?_⟩
 . funext q;rw[zc0 g b];rfl
 .
  rcases Xk.1 t with h|h
  . exact .inl h
  simp at h;exact .inr h
 rw[zk3,q81 b,j];omega
theorem zb4{m:List α×List β}{d x:β}{k:α}{i:Nat}(a:m.1.length=m.2.length)(e:m.1.Nodup)(b:q3c m.1 k=some i):Put m (m.1,m.2.set i x) d k x:=by
 obtain⟨hi,_,c,_⟩:=qi2 (d:=d) a b;refine⟨by simp[a],e,?_,λy g=>Zn g,λf _=>?_⟩
 . funext q;rw[zb9 a b];rfl
 rw[qw2 hi];have:m.2[i]=look m d k:=by rw[Xv hi]at c;exact Zd c
 rw[this]
end
theorem zn9{g:aa}{C aC:Int}{r:a8}(j:St g C aC r){n:Nat}{t:af}{i:Nat}(D:q3c r.ins.1 (⟨n,t⟩:ah)=some i){ay:List Int×List (List aD)}{aE:List ah×List (List a7)}{k:Int}(m:ay.1.length=ay.2.length)(o:ay.1.Nodup)(q:aE.1.length=aE.2.length)(s:aE.1.Nodup)
 (E:(ay.2.map λl=>(l.length:Int)).sum=(r.ay.2.map λl=>(l.length:Int)).sum+k)(M:k<=1)(G:(aE.2.map tot).sum<=(r.aE.2.map tot).sum+tot ((ab r).ins ⟨n,t⟩).a0)(u:∀l∈ay.2,∀c∈l,ok c.Time)(w:∀b∈aE.2,Fn b/\tot b<=C+r.work):
 St g C aC ⟨r.g,(r.ins.1.eraseIdx i,r.ins.2.eraseIdx i),ay,aE,r.work,r.aC,r.outs,r.e⟩/\((r.ins.2.eraseIdx i).map bt).sum+bt ((ab r).ins ⟨n,t⟩)=(r.ins.2.map bt).sum:=by
 have a:=j.inv;obtain⟨hi,_,B,H⟩:=qi2 (d:=no2) a.il D;have y:=a.eH _ H;have z:r.ins.2[i]=(ab r).ins ⟨n,t⟩:=by rw[Xv hi]at B;exact Zd B
 have A:=zo0 (f:=bt) hi;rw[z]at A;have I:1<=bt ((ab r).ins ⟨n,t⟩):=y.2.2;have J:tot ((ab r).ins ⟨n,t⟩).a0<=bt ((ab r).ins ⟨n,t⟩):=by
  have:=y.2.1.len
  show tot _<=tot _+tot _
  have:0<=tot ((ab r).ins ⟨n,t⟩).a1:=by have:=y.2.1.len;show 0<=tot (look r.ins no2 _).a1;omega
  omega
 have N:=a.pot;have O:=a.fy;refine⟨⟨⟨a.gr,?_,(List.eraseIdx_sublist _ _).nodup a.ind,λp hp=>a.ipt p (Zs hp),λx K=>a.eH x (Zs K),m,o,q,s,w,?_,u,?_⟩,j.mo,j.w0,j.wm,j.wx⟩,by omega⟩
 . have L:=a.il;dsimp only;rw[Z7,Z7,L]
 . dsimp only;omega
 dsimp only;omega
theorem jl4{g:aa}(N:VA.Good g){C aC:Int}(X:0<=C)(I:0<=aC)(J:C+aC<=7000){r:a8}(E:St g C aC r){n:Nat}(L:n<g.al.length){t:af}(O:okz t):
 Ok (q4s r n t) λv=>v.1=(bh g aC (ab r) n t).1/\St g C aC v.2/\ab v.2=(bh g aC (ab r) n t).2:=by
 have a:=E.inv;have b0:=N.nl;have A:Key.okb (⟨n,t⟩:ah)=true:=by
  rcases O with O|rfl
  . exact zb6 ⟨by omega,by omega⟩ O
  show (Key.okb (n:Int)&&Key.okb (0:Int)&&Key.okb (0:Int)&&Key.okb (0:Int)&&Key.okb (0:Int)&&Key.okb (0:Int))=true
  rw[zl1 (x:=(n:Int)) (by omega) (by omega)];decide
 unfold q4s
 cases G:q3c r.ins.1 (⟨n,t⟩:ah)with
 |none=>
  rw[qr4];refine Ok.guard A ?_;have h0:(ab r).ins ⟨n,t⟩=no2:=q81 (qb3 G);unfold bh;rw[if_pos (.inl h0)];exact Ok.some ⟨rfl,E,rfl⟩
 |some i=>
  obtain⟨hi,ha,hg,Y⟩:=qi2 (d:=no2) a.il G;have B:PtM g ⟨n,t⟩:=a.ipt _ (j73 G);have w:=a.eH _ Y;rw[qr3,ha];have hL:look r.ins no2 ⟨n,t⟩=(ab r).ins ⟨n,t⟩:=rfl;rw[hL]at w⊢;refine Ok.bind (Ok.some ?_);have P:(ab r).ins ⟨n,t⟩≠no2:=λe=>by rw[e]at w;have:=w.2.2;simp[no2,bt,tot]at this
  refine k2h (λh=>?_) (λh=>?_)
  .
   have h:r.e≠0:=by simpa using h
   unfold bh;rw[if_pos (.inr h)];exact Ok.some ⟨rfl,E,rfl⟩
  have M:r.e=0:=by simpa using h
  have b1:=E.wm M;unfold bh;rw[if_neg (λh=>h.elim P (λh=>h M))];rw[a.gr];refine Ok.bind (k2i L (Ok.guard (by decide) ?_));rw[q7i L];have Q:=a.eI.2.2 _ Y;have b2:=w.1.len;have b3:=w.2.1.len;have b4:bt ((ab r).ins ⟨n,t⟩)=tot ((ab r).ins ⟨n,t⟩).a0+tot ((ab r).ins ⟨n,t⟩).a1:=rfl;have Z:bt ((ab r).ins ⟨n,t⟩)<=C+r.work:=Q;have z:look (r.ins.1.eraseIdx i,r.ins.2.eraseIdx i) no2=upd (look r.ins no2) ⟨n,t⟩ no2:=by
   funext q;rw[zz6 a.il a.ind G];rfl
  refine k2h (λm=>?_) (λm=>?_)
  .
   have m:(nd g n).Kind=14:=by simpa using m
   rw[if_pos m]
   have key:∀(ay:List Int×List (List aD)) (aE:List ah×List (List a7)),Put r.ay ay [] (n:Int) ((ab r).ay n++[⟨t,1⟩])->Put r.aE aE [] ⟨n,t⟩ ((ab r).ins ⟨n,t⟩).a0->
    Ok (q9 (q13 ⟨g,(r.ins.1.eraseIdx i,r.ins.2.eraseIdx i),ay,aE,r.work,r.aC,r.outs,r.e⟩ n t) λv=>q14 n t (nd g n) [((ab r).ins ⟨n,t⟩).a0,v.1] v.2) λv=>
     v.1=(cm g aC n t ((ab r).ins ⟨n,t⟩).a0 (dW (aX g n t (ab r)) n t) (aX g n t (ab r))).1/\St g C aC v.2/\ab v.2=(cm g aC n t ((ab r).ins ⟨n,t⟩).a0 (dW (aX g n t (ab r)) n t) (aX g n t (ab r))).2:=by
    intro ay aE hp hb;have b5:=hb.sum tot (by simp[tot]);have a6:0<=tot (look r.aE [] ⟨n,t⟩):=by
     by_cases K:(⟨n,t⟩:ah)∈r.aE.1
     . have:=(a.dS _ (z3c (d:=[]) a.bl K)).1.len;have h2:look (r.aE.1,r.aE.2) [] ⟨n,t⟩=look r.aE [] ⟨n,t⟩:=rfl;rw[h2]at this;omega
     rw[q81 K];simp[tot]
    have hp0:=hp.sum (λl=>(l.length:Int)) (by simp);have R:(((ab r).ay n++[(⟨t,1⟩:aD)]).length:Int)=(look r.ay [] (n:Int)).length+1:=by
     rw[Xa];rfl
    obtain⟨p,_⟩:=zn9 E G (k:=1) hp.len hp.nd hb.len hb.nd (by rw[hp0,R];omega) (Y8 _) (by omega) (λl hl c hc=>by
     rcases hp.mem l hl with h|rfl
     . exact a.ptm l h c hc
     .
      rcases Xk.1 hc with h|h
      .
       by_cases K:(n:Int)∈r.ay.1
       . exact a.ptm _ (z3c (d:=[]) a.pl K) c h
       have:(ab r).ay n=[]:=q81 K;rw[this]at h;cases h
      simp at h;rw[h];obtain⟨_,_,_,h3,_⟩:=B;exact h3) (λb S=>by
     rcases hb.mem b S with h|rfl
     . exact a.dS b h
     exact⟨w.1,by omega⟩)
    rw[a.gr]at p;have s:ab ⟨g,(r.ins.1.eraseIdx i,r.ins.2.eraseIdx i),ay,aE,r.work,r.aC,r.outs,r.e⟩=aX g n t (ab r):=by
     unfold aX;rw[if_pos m];unfold ab;simp only[MS.mk.injEq,and_true];exact⟨z,hp.look,hb.look⟩
    refine k2g (z5z p.inv (by show C+r.work<=7000;omega) (by omega) t) λv T=>?_;obtain⟨v1,v2,v3,v4⟩:=T;rw[v1,v2,s];have U:(v.1.length:Int)<=C+r.work:=v4;rw[v2,s]at v3 U;have:=j15 (b:=dW (aX g n t (ab r)) n t) N X I J p M L B w.1 (by omega) (by omega) (.inr (by omega));rw[s]at this;exact this
   have b6:(n:Int)<1000000:=by omega
   cases u:q3c r.ay.1 (n:Int)with
   |none=>
    rw[qr4];refine Ok.guard (zl1 (by omega) (by omega)) (Ok.guard (by simp) ?_);have hp0:(ab r).ay n=[]:=q81 (qb3 u);have H:=zb5 (d:=[]) (x:=(ab r).ay n++[(⟨t,1⟩:aD)]) ([(⟨t,1⟩:aD)]:List aD) a.pl a.pnd u;rw[hp0,X8]at H
    cases o:q3c r.aE.1 (⟨n,t⟩:ah)with
    |none=>
     rw[qr4];refine Ok.guard A ?_;exact key _ _ (by rw[hp0];exact H) (zb5 ((ab r).ins ⟨n,t⟩).a0 a.bl a.bnd o)
    |some j=>
     obtain⟨_,D,_,_⟩:=qi2 (d:=[]) a.bl o;rw[qr3,D];refine Ok.bind (Ok.some ?_);exact key _ _ (by rw[hp0];exact H) (zb4 a.bl a.bnd o)
   |some j=>
    obtain⟨_,V,_,W⟩:=qi2 (d:=[]) a.pl u;rw[qr3,V];have ao:((look r.ay [] (n:Int)).length:Int)<=C+r.work:=by
     have h1:=(q7m (f:=λl:List aD=>(l.length:Int)) (λy _=>by omega) _ W).1;have h2:=a.eI.1;have:=a.pot;omega
    refine Ok.bind (Ok.some (Ok.guard (by simp only[Xo,Yh];omega) ?_));have H:=zb4 (d:=[]) (x:=(ab r).ay n++[(⟨t,1⟩:aD)]) a.pl a.pnd u
    cases o:q3c r.aE.1 (⟨n,t⟩:ah)with
    |none=>
     rw[qr4];refine Ok.guard A ?_;exact key _ _ H (zb5 ((ab r).ins ⟨n,t⟩).a0 a.bl a.bnd o)
    |some k=>
     obtain⟨_,D,_,_⟩:=qi2 (d:=[]) a.bl o;rw[qr3,D];refine Ok.bind (Ok.some ?_);exact key _ _ H (zb4 a.bl a.bnd o)
  have m:¬(nd g n).Kind=14:=by simpa using m
  rw[if_neg m];obtain⟨p,ar⟩:=zn9 E G (ay:=r.ay) (aE:=r.aE) (k:=0) a.pl a.pnd a.bl a.bnd (by omega) (by omega) (by omega) a.ptm a.dS;have s:ab ⟨g,(r.ins.1.eraseIdx i,r.ins.2.eraseIdx i),r.ay,r.aE,r.work,r.aC,r.outs,r.e⟩=aX g n t (ab r):=by
   unfold aX;rw[if_neg m];unfold ab;simp only[MS.mk.injEq,and_true];exact z
  rw[a.gr]at p;have:=j15 (b:=((ab r).ins ⟨n,t⟩).a1) N X I J p M L B w.1 (by omega) (by omega) (.inl (by dsimp only;have:=a.pot;omega));rw[s]at this;exact this
end MN
end
section
open Go Go.RowKit TS VA BG
namespace MN
open Classical
noncomputable def q5v(t:af):af:=if ok t/\t.D≠4 then enT t else z0
noncomputable def q3o(t:af):af:=if ok t/\t.D≠1 then leT t else z0
noncomputable def q9q(t:af):af:=if ok t/\bj t≠q95 t then nxT t else z0
theorem j6a(t:af):okz (q5v t):=by unfold q5v;split;exact .inl (z3a (by rename_i h;exact h.1) (by rename_i h;exact h.2));exact j3x
theorem j69(t:af):okz (q3o t):=by unfold q3o;split;exact .inl (zy3 (by rename_i h;exact h.1) (by rename_i h;exact h.2));exact j3x
theorem j9c(t:af):okz (q9q t):=by unfold q9q;split;exact .inl (z5m (by rename_i h;exact h.1) (by rename_i h;exact h.2));exact j3x
theorem zm2{α β:Type}(c:Prop)[Decidable c](a b:α)(x y:β):(if c then (a,x)else (b,y)).1=if c then a else b:=by split<;>rfl
noncomputable def q9i(g:aa)(s1:Int)(to:Nat):Nat->Nat->Nat
 |0,e=>e
 |f+1,e=>if e<to/\s1∈anc g.ae (nd g e).Scope then q9i g s1 to f (e+1)else e
noncomputable def z4a(a:af->MS->Bool×MS):Nat->af->MS->MS
 |0,_,s=>s
 |k+1,u,s=>if (a u s).1=true then z4a a k (q9q u) (a u s).2 else (a u s).2
noncomputable def atA(g:aa)(n:Nat)(t:af):af:=if (nd g n).Kind=10 then q3o t else t
noncomputable def qe7(g:aa)(aC:Int)(self:Nat->Nat->Int->af->MS->Bool×MS)(to:Nat)(sc:Int)(t:af):Nat->Bool->Nat->MS->Bool×MS
 |0,a,_,s=>(a,s)
 |f+1,a,n,s=>
  if n<to then
   if (nd g n).Scope≠sc then qe7 g aC self to sc t f a (q9i g (nd g n).Scope to (to-n) n) (z4a (self n (q9i g (nd g n).Scope to (to-n) n) (nd g n).Scope) (bnd g (nd g n).Scope).toNat (q5v t) s)
   else qe7 g aC self to sc t f (a||((bh g aC s n (atA g n t)).1&&(nd g n).Kind==12)) (n+1) (bh g aC s n (atA g n t)).2
  else (a,s)
noncomputable def q4q(g:aa)(aC:Int):Nat->Nat->Nat->Int->af->MS->Bool×MS
 |0,_,_,_,_,s=>(false,s)
 |d+1,from_,to,sc,t,s=>qe7 g aC (q4q g aC d) to sc t (to-from_) false from_ s
theorem z3q{g:aa}(j:VA.Good g){r:a8}(k:r.g=g){s o:Int}(l:0<=s)(m:s<g.ae.length):q43 r s o=some (decide (o∈anc g.ae s),r):=by
 have f:=j.wp;have q:=j.pl;unfold q43;refine k2k (k2j (λp:Int=>inS g.ae.length p/\∃pre,anc g.ae s=pre++anc g.ae p/\o∉pre) (λp=>(p+1).toNat) ?_ ⟨.inr ⟨l,m⟩,[],by simp,by simp⟩ (by simp only[rounds];omega));rintro rec p ⟨hi,pre,e,a⟩ b;unfold q6y;rcases hi with rfl|hi
 . rw[if_neg (by simp)];rw[q6p,X7]at e;exact Ok.some (by rw[e,decide_eq_false a])
 rw[if_pos (by simpa using hi.1)];have c:=q46 f hi.1 hi.2;refine k2h (λd=>Ok.some ?_) (λd=>?_)
 . rw[beq_iff_eq]at d;rw[decide_eq_true (by rw[e,c,d];simp)]
 rw[beq_eq_false_iff_ne]at d;rw[k,qn3 0 hi.1 hi.2];refine Ok.bind (Ok.some ?_);have n:=(f.2 p hi.1 hi.2).1;exact b _ ⟨f.down hi.1 hi.2,pre++[p],by rw[e,c];simp,by rw[Xk,not_or,Xx];exact⟨a,Ne.symm d⟩⟩ (by first|omega|(simp only;omega))
theorem qc0(g:aa)(s1:Int)(to:Nat):∀(f e:Nat),e<=to->e<=q9i g s1 to f e/\q9i g s1 to f e<=to/\(∀m,e<=m->m<q9i g s1 to f e->s1∈anc g.ae (nd g m).Scope)/\(to-e<=f->q9i g s1 to f e<to->s1∉anc g.ae (nd g (q9i g s1 to f e)).Scope)
 |0,e,h=>by
  unfold q9i;exact⟨Xt _,h,λm c a=>by omega,λc a=>by omega⟩
 |f+1,e,h=>by
  unfold q9i
  split
  .
   rename_i b
   obtain⟨c,a,d,k⟩:=qc0 g s1 to f (e+1) b.1;refine⟨by omega,a,λm j l=>?_,λk1 k2=>k (by omega) k2⟩;rcases Nat.eq_or_lt_of_le j with rfl|j
   . exact b.2
   exact d m j l
  rename_i b
  exact⟨Xt _,h,λm c a=>by omega,λ_ a d=>b ⟨a,d⟩⟩
theorem z9h{g:aa}{s1:Int}{to n:Nat}(h:n<to)(a:s1∈anc g.ae (nd g n).Scope):n<q9i g s1 to (to-n) n:=by
 obtain⟨f,b⟩:∃f,to-n=f+1:=⟨to-n-1,by omega⟩;rw[b];unfold q9i;rw[if_pos ⟨h,a⟩];have:=(qc0 g s1 to f (n+1) h).1;omega
theorem bQ{g:aa}(a:VA.Good g){s:Int}(b:0<=s)(c:s<g.ae.length):s∈anc g.ae s:=by rw[q46 a.wp b c];simp
theorem dR{g:aa}(c:VA.Good g){s:Int}(d:0<=s)(e:s<g.ae.length):0<=bnd g s/\bnd g s<=64:=by
 have a:=c.sc s.toNat (by omega);unfold sOk at a;unfold bnd
 by_cases b:s.toNat=0
 . rw[if_pos b]at a;rw[b];simp at a;have:=a.2;simp;omega
 rw[if_neg b]at a;simp only[Xg,decide_eq_true_eq]at a;have:=a.1.2;omega
section
variable {g:aa} (hG:VA.Good g) {C aC:Int} (hC:0<=C) (hmo:0<=aC) (hCm:C+aC<=7000)
include hG hC hmo hCm
theorem zx1:∀(d k:Nat) {from_ to:Nat} {sc:Int} {t:af} {r:a8},from_<=to->to<=g.al.length->okz t->0<=sc->sc<g.ae.length->(∀m,from_<=m->m<to->sc∈anc g.ae (nd g m).Scope)->
 g.ae.length-sc.toNat<=d->g.ae.length-sc.toNat<=k->St g C aC r->
 Ok (q1k k r from_ to sc t) λv=>v.1=(q4q g aC d from_ to sc t (ab r)).1/\St g C aC v.2/\ab v.2=(q4q g aC d from_ to sc t (ab r)).2
 |0,_,_,_,sc,_,_,_,_,_,h0,h1,_,hd,_,_=>by omega
 |_+1,0,_,_,sc,_,_,_,_,_,h0,h1,_,_,B,_=>by omega
 |d+1,k+1,from_,to,sc,t,r,Y,bv,ht,h0,h1,Z,hd,B,hS=>by
  have c1:=hG.nl
  show Ok (q3q (q1k k) r from_ to sc t) _
  unfold q3q;have M:q4q g aC (d+1) from_ to sc t (ab r)=qe7 g aC (q4q g aC d) to sc t (to-from_) false from_ (ab r):=rfl;rw[M]
  generalize hT:qe7 g aC (q4q g aC d) to sc t (to-from_) false from_ (ab r)=target
  refine k2j (λq=>∃(n f:Nat),q.2.1=(n:Int)/\from_<=n/\n<=to/\to-n<=f/\St g C aC q.2.2/\qe7 g aC (q4q g aC d) to sc t f q.1 n (ab q.2.2)=target) (λq=>to-q.2.1.toNat) ?_ ⟨from_,to-from_,rfl,Xt _,Y,Xt _,hS,hT⟩ (by simp only[rounds];omega);rintro rec ⟨W,nv,b⟩ ⟨n,f,hn,a6,O,hf,s,a⟩ w;dsimp only at hn s a w;subst hn;have D:=s.inv.gr;unfold q2l;dsimp only;refine k2h (λl=>?_) (λl=>?_)
  .
   have l:n<to:=by simpa using l
   have y:n<g.al.length:=by omega
   obtain⟨P,rfl⟩:∃P,f=P+1:=⟨f-1,by omega⟩;obtain⟨k1,k2,_⟩:=aQ hG y;unfold qe7 at a;rw[if_pos l]at a;rw[D];refine Ok.bind (k2i y ?_);rw[q7i y];refine k2h (λH=>?_) (λH=>?_)
   .
    have H:(nd g n).Scope≠sc:=by simpa using H
    rw[if_pos H]at a;have Q:=Z n a6 l;have bi:sc<(nd g n).Scope:=by
     have:=z9l hG.wp ((nd g n).Scope.toNat+1) (nd g n).Scope (.inr ⟨k1,k2⟩) (by omega) sc Q;omega
    have I:=bQ hG k1 k2;have c2:=z9h (g:=g) l I;obtain⟨_,c4,ao,_⟩:=qc0 g (nd g n).Scope to (to-n) n O;obtain⟨b1,b2⟩:=dR hG k1 k2;have c5:=hG.bl
    generalize hE:q9i g (nd g n).Scope to (to-n) n=E at*
    refine k2j (λq:Int×a8=>q.2=b/\∃e L:Nat,q.1=(e:Int)/\n<=e/\e<=to/\to-e<=L/\q9i g (nd g n).Scope to L e=E) (λq=>to-q.1.toNat) ?_ ⟨rfl,n,to-n,rfl,Xt _,O,Xt _,hE⟩ (by simp only[rounds];omega);rintro bk ⟨ev,b6⟩ ⟨R,e,L,he,c6,b0,c7,o⟩ z;dsimp only at R he z;subst R he
    have S:e=E->Ok (q2j t (q1k k) W (n:Int) rec (nd g n) (e:Int) b6) λv=>v.1=target.1/\St g C aC v.2/\ab v.2=target.2:=by
     rintro rfl;unfold q2j;rw[cR];refine Ok.bind (Ok.some ?_);rw[zm2,D,qn3 0 k1 (by omega)];refine Ok.bind (Ok.some ?_)
     generalize b3:z4a (q4q g aC d n e (nd g n).Scope) (bnd g (nd g n).Scope).toNat (q5v t) (ab b6)=S2 at a
     refine k2j (λq:Int×a8×af=>∃i:Nat,q.1=(i:Int)/\(i:Int)<=bnd g (nd g n).Scope/\okz q.2.2/\St g C aC q.2.1/\z4a (q4q g aC d n e (nd g n).Scope) ((bnd g (nd g n).Scope).toNat-i) q.2.2 (ab q.2.1)=S2) (λq=>64-q.1.toNat) ?_ ⟨0,rfl,b1,j6a t,s,b3⟩ (by simp only[rounds];omega);rintro bs ⟨iv,b5,u⟩ ⟨i,hi,c8,X,J,c⟩ A;dsimp only at hi X J c A;subst hi;have T:∀(v:a8),St g C aC v->ab v=S2->Ok (rec (W,(e:Int),v)) λv=>v.1=target.1/\St g C aC v.2/\ab v.2=target.2:=λv U b4=>by
      refine w _ ⟨e,P,rfl,by omega,b0,by omega,U,?_⟩ (by dsimp only;omega);dsimp only;rw[b4];exact a
     unfold q77;dsimp only;refine k2h (λp=>?_) (λp=>?_)
     .
      have p:(i:Int)<bnd g (nd g n).Scope:=by simpa [bnd]using p
      obtain⟨j,hj⟩:∃j,(bnd g (nd g n).Scope).toNat-i=j+1:=⟨(bnd g (nd g n).Scope).toNat-i-1,by omega⟩;rw[hj]at c;unfold z4a at c;refine k2g (zx1 d k (by omega) (by omega) X k1 k2 ao (by omega) (by omega) J) λv U=>?_;obtain⟨v1,v2,v3⟩:=U;refine k2h (λhb=>?_) (λhb=>?_)
      .
       have hb:v.1=false:=by simpa using hb
       rw[<-v1,hb,if_neg (by simp)]at c;exact T _ v2 (v3.trans c)
      have hb:v.1=true:=by simpa using hb
      rw[<-v1,hb,if_pos rfl]at c;rw[dp];refine Ok.bind (Ok.some ?_);rw[zm2,iw (N:=64) (by omega) (by omega)];refine A _ ⟨i+1,rfl,by omega,j9c u,v2,?_⟩ (by dsimp only;omega);dsimp only;rw[v3,show (bnd g (nd g n).Scope).toNat-(i+1)=j by omega];exact c
     have p:¬(i:Int)<bnd g (nd g n).Scope:=by simpa [bnd]using p
     rw[show (bnd g (nd g n).Scope).toNat-i=0 by omega]at c;exact T _ J c
    unfold q76;dsimp only;refine k2h (λp=>?_) (λp=>?_)
    .
     have p:e<to:=by simpa using p
     have G:e<g.al.length:=by omega
     obtain⟨f3,rfl⟩:∃f3,L=f3+1:=⟨L-1,by omega⟩;obtain⟨e1,e2,_⟩:=aQ hG G;rw[D];refine Ok.bind (k2i G ?_);rw[q7i G,z3q hG D e1 e2];refine Ok.bind (Ok.some ?_);unfold q9i at o;refine k2h (λK=>?_) (λK=>?_)
     .
      have K:(nd g n).Scope∈anc g.ae (nd g e).Scope:=by simpa using K
      rw[if_pos ⟨p,K⟩]at o;rw[iw G (by omega)];exact z _ ⟨rfl,e+1,f3,rfl,by omega,p,by omega,o⟩ (by dsimp only;omega)
     have K:(nd g n).Scope∉anc g.ae (nd g e).Scope:=by simpa using K
     rw[if_neg (λh=>K h.2)]at o;exact S o
    have p:e=to:=by
     have:¬e<to:=by simpa using p
     omega
    refine S ?_;rw[<-o]
    cases L with
    |zero=>rfl
    |succ f3=>unfold q9i;rw[if_neg (λh=>by omega)]
   have H:(nd g n).Scope=sc:=by simpa using H
   rw[if_neg (λh=>h H)]at a;have V:∀u,u=atA g n t->okz u->Ok (q2k W (n:Int) b rec (nd g n) u) λv=>v.1=target.1/\St g C aC v.2/\ab v.2=target.2:=by
    rintro u rfl X;unfold q2k;refine k2g (jl4 hG hC hmo hCm s y X) λv U=>?_;obtain⟨v1,v2,v3⟩:=U;rw[iw y (by omega)];refine w _ ⟨n+1,P,rfl,by omega,l,by omega,v2,?_⟩ (by dsimp only;omega);dsimp only;rw[v1,v3];exact a
   unfold q55;refine k2h (λB=>?_) (λB=>?_)
   .
    have B:(nd g n).Kind=10:=by simpa using B
    rw[cN];refine Ok.bind (Ok.some ?_);rw[zm2];exact V _ (by unfold atA q3o;rw[if_pos B]) (j69 t)
   have B:¬(nd g n).Kind=10:=by simpa using B
   exact V _ (by unfold atA;rw[if_neg B]) ht
  have bc:¬n<to:=by simpa using l
  have:target=(W,ab b):=by
   rw[<-a]
   cases f with
   |zero=>rfl
   |succ P=>unfold qe7;rw[if_neg bc]
  rw[this];exact Ok.some ⟨rfl,s,rfl⟩
end
end MN
end
section
open Go Go.RowKit
namespace SO
theorem dD{α:Type}(A B:List α)(x y:α):(A++x::B).set A.length y=A++y::B:=by
 rw[Zb _ _ (Xt _),Nat.sub_self,Y5]
theorem zm1{α:Type}(A B:List α)(x:α)(h:A.length<(A++x::B).length):(A++x::B)[A.length]=x:=by
 rw[Zo (Xt _)];simp
theorem z2s{cmp:aB->aB->Option Int}{A M B:List aB}:∀{U V:List aB},U.length=V.length->(A++U++M++V++B).length<4611686018427387904->
 Ok (q1i (A++U++M++V++B) (A.length:Int) (((A++U++M).length:Nat):Int) (U.length:Int) cmp) (λr=>r=A++V++M++U++B):=by
 intro U V c b;simp only[Xa]at b;unfold q1i;refine k2j (λs=>∃i:Nat,s.1=(i:Int)/\i<=U.length/\s.2=A++V.take i++U.drop i++M++U.take i++V.drop i++B) (λs=>U.length-s.1.toNat) ?_ ⟨0,rfl,Xm _,by simp⟩ (by simp only[rounds];omega);rintro rec ⟨t,q⟩ ⟨i,j,hi,d⟩ n;simp only at j d;subst j;unfold q5a;simp only;refine k2h (λe=>?_) (λe=>Ok.some ?_)
 .
  simp only[decide_eq_true_eq]at e;have k:i<U.length:=by omega
  have l:i<V.length:=by omega
  have o:U.drop i=U[i]::U.drop (i+1):=Xu k;have p:V.drop i=V[i]::V.drop (i+1):=Xu l
  let P:=A++V.take i
  let N:=U.drop (i+1)++M++U.take i
  let S:=V.drop (i+1)++B
  have m:P.length=A.length+i:=by simp only[P,Xa,Xf];omega
  have u:N.length=U.length-(i+1)+M.length+i:=by simp only[N,Xa,Xf,X6];omega
  have f:q=P++U[i]::(N++V[i]::S):=by rw[d,o,p];simp only[P,N,S,Xc,Xz]
  have a:∀x,P++x::(N++V[i]::S)=(P++x::N)++V[i]::S:=λx=>by simp only[Xc,Xz]
  have w:IntKind.i64.wrap ((((A++U++M).length:Nat):Int)+(i:Int))=(((P++U[i]::N).length:Nat):Int):=by
   rw[wrap_i64 _ (by simp only[Xa];omega)];simp only[Xa,Xo,m,u];omega
  have y:IntKind.i64.wrap ((A.length:Int)+(i:Int))=((P.length:Nat):Int):=by
   rw[wrap_i64 _ (by omega),m];omega
  rw[w,y,f];have g:(P++U[i]::(N++V[i]::S)).length=P.length+1+N.length+1+S.length:=by simp only[Xa,Xo];omega
  refine Ok.bind (k2i (by rw[g];simp only[Xa,Xo];omega) ?_);refine Ok.bind (k2i (by rw[g];omega) ?_);have g1:∀h:(P++U[i]::N).length<(P++U[i]::(N++V[i]::S)).length,(P++U[i]::(N++V[i]::S))[(P++U[i]::N).length]'h=V[i]:=λh=>by
   have:=zm1 (P++U[i]::N) S V[i] (by rw[<-a];exact h);simp only[<-a]at this;exact this
  rw[g1,zm1];refine Ok.bind (k2i (by simp only[Ze];rw[g];simp only[Xa,Xo];omega) ?_);rw[Xd,Xd,dD,a,show (P++U[i]::N).length=(P++V[i]::N).length by simp,dD,wrap_i64 _ (by omega)];refine n _ ⟨i+1,by simp,by omega,?_⟩ (by simp only;omega);simp only;rw[Xb k,Xb l];simp only[P,N,S,Xc,Xz,X8]
 simp only[decide_eq_false_iff_not]at e;have:i=U.length:=by omega
 rw[d,this,Xh,Y9,c,Xh,Y9];simp
theorem j60{cmp:aB->aB->Option Int}{A X Y B:List aB}(K:X≠[])(L:Y≠[])(l:(A++X++Y++B).length<4611686018427387904):
 Ok (q3a (A++X++Y++B) (A.length:Int) (((A++X).length:Nat):Int) (((A++X++Y).length:Nat):Int) cmp) (λr=>r=A++Y++X++B):=by
 simp only[Xa]at l;have o:0<X.length:=Yo.2 K;have p:0<Y.length:=Yo.2 L;unfold q3a;rw[wrap_i64 _ (by simp only[Xa];omega),wrap_i64 _ (by simp only[Xa];omega)];refine k2j (λs=>∃P U V Q:List aB,s.1=(U.length:Int)/\s.2.1=(V.length:Int)/\s.2.2=A++P++U++V++Q++B/\A.length+P.length+U.length=A.length+X.length/\V.length+Q.length=Y.length/\Y++X=P++V++U++Q/\0<U.length/\0<V.length)
  (λs=>(s.1+s.2.1).toNat) ?_ ⟨[],X,Y,[],by simp only[Xa];omega,by simp only[Xa];omega,by simp,by simp,by simp,by simp,o,p⟩ (by simp only[rounds,Xa];omega)
 rintro rec ⟨u,v,q⟩ ⟨P,U,V,Q,G,H,I,t,w,n,y,z⟩ J;simp only at G H I;subst G H I;have hle:=congrArg Yg n;simp only[Xa]at hle;unfold q62;simp only;have em:((((A++X).length:Nat):Int))=(((A++P++U).length:Nat):Int):=by simp only[Xa];omega
 refine k2h (λC=>k2h (λhd=>?_) (λhd=>?_)) (λC=>?_)
 .
  simp only[decide_eq_true_eq]at hd;have j:V.length<U.length:=by omega
  obtain⟨b,e,rfl,D⟩:∃b e,U=b++e/\b.length=V.length:=⟨U.take V.length,U.drop V.length,(Xe _ _).symm,by rw[Xf];omega⟩;rw[Xa]at j t hle y;have c:=z2s (cmp:=cmp) (A:=A++P) (M:=e) (B:=Q++B) (U:=b) (V:=V) D (by simp only[Xa];omega);have m:IntKind.i64.wrap ((((A++X).length:Nat):Int)-(((b++e).length:Nat):Int))=(((A++P).length:Nat):Int):=by
   rw[wrap_i64 _ (by simp only[Xa];omega)];simp only[Xa];omega
  rw[m,em];have a:A++P++(b++e)++V++Q++B=A++P++b++e++V++(Q++B):=by simp
  have k:(((A++P++(b++e)).length:Nat):Int)=(((A++P++b++e).length:Nat):Int):=by simp
  rw[a,k,show (V.length:Int)=(b.length:Int) by omega];refine Ok.bind (c.mono λr d=>?_);subst d;refine Ok.guard (by simp only[Xa];omega) ?_;rw[wrap_i64 _ (by simp only[Xa];omega)];refine J _ ⟨P++V,e,b,Q,?_,rfl,?_,?_,?_,?_,by omega,by omega⟩ ?_
  . simp only[Xa];omega
  . simp
  . simp only[Xa];omega
  . omega
  . rw[n];simp
  simp only[Xa];omega
 .
  simp only[decide_eq_false_iff_not]at hd;have E:U.length≠V.length:=by
   intro h;simp[h]at C
  have j:U.length<V.length:=by omega
  obtain⟨f,g,rfl,D⟩:∃f g,V=f++g/\g.length=U.length:=⟨V.take (V.length-U.length),V.drop (V.length-U.length),(Xe _ _).symm,by rw[X6];omega⟩;rw[Xa]at j w hle z;have c:=z2s (cmp:=cmp) (A:=A++P) (M:=f) (B:=Q++B) (U:=U) (V:=g) D.symm (by simp only[Xa];omega);have m:IntKind.i64.wrap ((((A++X).length:Nat):Int)-((U.length:Nat):Int))=(((A++P).length:Nat):Int):=by
   rw[wrap_i64 _ (by simp only[Xa];omega)];simp only[Xa];omega
  have N:IntKind.i64.wrap (IntKind.i64.wrap ((((A++X).length:Nat):Int)+(((f++g).length:Nat):Int))-(U.length:Int))=(((A++P++U++f).length:Nat):Int):=by
   rw[wrap_i64 ((((A++X).length:Nat):Int)+(((f++g).length:Nat):Int)) (by simp only[Xa];omega),wrap_i64 _ (by simp only[Xa];omega)];simp only[Xa];omega
  rw[m,N];have a:A++P++U++(f++g)++Q++B=A++P++U++f++g++(Q++B):=by simp
  rw[a];refine Ok.bind (c.mono λr d=>?_);subst d;refine Ok.guard (by simp only[Xa];omega) ?_;rw[wrap_i64 _ (by simp only[Xa];omega)];refine J _ ⟨P,g,f,U++Q,?_,?_,?_,?_,?_,?_,by omega,by omega⟩ ?_
  . simp only;omega
  . simp only[Xa];omega
  . simp
  . omega
  . simp only[Xa];omega
  . rw[n];simp
  simp only[Xa];omega
 have E:(U.length:Int)=(V.length:Int):=by simpa using C
 unfold q3x;have c:=z2s (cmp:=cmp) (A:=A++P) (M:=[]) (B:=Q++B) (U:=U) (V:=V) (by omega) (by simp only[Xa,Yh];omega);have m:IntKind.i64.wrap ((((A++X).length:Nat):Int)-((U.length:Nat):Int))=(((A++P).length:Nat):Int):=by
  rw[wrap_i64 _ (by simp only[Xa];omega)];simp only[Xa];omega
 rw[m,em];have a:A++P++U++V++Q++B=A++P++U++[]++V++(Q++B):=by simp
 have k:(((A++P++U).length:Nat):Int)=(((A++P++U++[]).length:Nat):Int):=by simp
 rw[a,k];refine Ok.bind (c.mono λr d=>?_);subst d;refine Ok.guard (by simp only[Xa,Yh];omega) (Ok.some ?_);have:A++Y++X++B=A++(Y++X)++B:=by simp
 rw[this,n];simp
end SO
end
section
open Go Go.RowKit
namespace SO
section
variable {key:aB->Int}
structure Srt(key:aB->Int)(S Z:List aB):Prop where
 inc:Z.Pairwise λx y=>key x<=key y
 fil:∀k:Int,Z.filter (λx=>decide (key x=k))=S.filter (λx=>decide (key x=k))
theorem Srt.refl{S:List aB}(h:S.Pairwise λx y=>key x<=key y):Srt key S S:=⟨h,λ_=>rfl⟩
theorem Srt.trans{S Z a:List aB}(h:Srt key S Z)(k:Srt key Z a):Srt key S a:=⟨k.inc,λx=>(k.fil x).trans (h.fil x)⟩
theorem Srt.mem{S Z:List aB}(h:Srt key S Z)(x:aB):x∈Z↔x∈S:=by
 have:=h.fil (key x);have a:x∈Z.filter (λy=>decide (key y=key x))↔x∈S.filter (λy=>decide (key y=key x)):=by rw[this]
 simpa [X0]using a
theorem j2v:∀(n:Nat) (Z S:List aB),Z.length=n->(∀k:Int,Z.filter (λx=>decide (key x=k))=S.filter (λx=>decide (key x=k)))->S.length=n
 |n,Z,S,b,h=>by
  have hp:Z.Perm S:=by
   classical
   rw[Wc];intro x;have a:∀L:List aB,L.count x=(L.filter (λy=>decide (key y=key x))).count x:=λL=>by
    rw[Wl (by simp)]
   rw[a Z,a S,h]
  rw[<-hp.length_eq];exact b
theorem Srt.perm{S Z:List aB}(h:Srt key S Z):Z.Perm S:=by
 classical
 rw[Wc];intro x;have a:∀L:List aB,L.count x=(L.filter (λy=>decide (key y=key x))).count x:=λL=>by
  rw[Wl (by simp)]
 rw[a Z,a S,h.fil]
theorem Srt.len{S Z:List aB}(h:Srt key S Z):Z.length=S.length:=(j2v _ Z S rfl h.fil).symm
theorem Srt.unique:∀{Z d:List aB},Z.Pairwise (λx y=>key x<=key y)->d.Pairwise (λx y=>key x<=key y)->(∀k:Int,Z.filter (λx=>decide (key x=k))=d.filter (λx=>decide (key x=k)))->Z=d
 |[],[],_,_,_=>rfl
 |[],y::r,_,_,h=>by have:=h (key y);simp at this
 |x::r,[],_,_,h=>by have:=h (key x);simp at this
 |x::r,y::q,e,f,h=>by
  obtain⟨a1,a2⟩:=X4.1 e;obtain⟨g,j⟩:=X4.1 f;have l:key x=key y:=by
   have b:x∈(y::q).filter (λz=>decide (key z=key x)):=by rw[<-h (key x)];simp
   have c:y∈(x::r).filter (λz=>decide (key z=key y)):=by rw[h (key y)];simp
   have b:=(X0.1 b).1;have c:=(X0.1 c).1;have m:key y<=key x:=by
    rcases Xw.1 b with rfl|b
    . exact Y8 _
    exact g _ b
   have n:key x<=key y:=by
    rcases Xw.1 c with rfl|c
    . exact Y8 _
    exact a1 _ c
   omega
  have o:x=y:=by
   have:=h (key x);rw[Yd (by simp),Yd (by simp[l])]at this;exact (List.cons.inj this).1
  subst o;rw[Srt.unique a2 j λk=>?_];have:=h k
  by_cases a:key x=k
  . rw[Yd (by simpa using a),Yd (by simpa using a)]at this;exact (List.cons.inj this).2
  rw[Yp (by simpa using a),Yp (by simpa using a)]at this;exact this
theorem z6u{L:List aB}{k:Int}(h:∀x∈L,key x≠k):L.filter (λx=>decide (key x=k))=[]:=Zz.2 λx a=>by simpa using h x a
theorem zc8{X Y:List aB}(h:∀x∈X,∀y∈Y,key y<key x)(k:Int):Y.filter (λx=>decide (key x=k))++X.filter (λx=>decide (key x=k))=X.filter (λx=>decide (key x=k))++Y.filter (λx=>decide (key x=k)):=by
 by_cases a:∃y∈Y,key y=k
 . obtain⟨y,a,d⟩:=a;rw[z6u (L:=X) λx c e=>by have:=h x c y a;omega];simp
 rw[z6u (L:=Y) λy b e=>a ⟨y,b,e⟩];simp
theorem swp(P Q:List aB)(x y:aB):((P++x::y::Q).set P.length y).set (P.length+1) x=P++y::x::Q:=by
 rw[dD];have:P++y::y::Q=(P++[y])++y::Q:=by simp
 rw[this,show P.length+1=(P++[y]).length by simp,dD];simp
theorem get_at{P Q:List aB}{x:aB}{i:Nat}(hi:i=P.length)(h:i<(P++x::Q).length):(P++x::Q)[i]=x:=by
 subst hi;exact zm1 P Q x h
theorem z9j{L:List aB}(h:L.Pairwise λx y=>key x<=key y){s:Nat}(b:s<L.length):∀x∈L.drop s,key L[s]<=key x:=λx a=>by
 rw[Xu b]at a;rcases Xw.1 a with rfl|a
 . exact Y8 _
 have:=h.sublist (List.drop_sublist s L);rw[Xu b]at this;exact (X4.1 this).1 x a
theorem z92{L:List aB}(h:L.Pairwise λx y=>key x<=key y){s:Nat}(b:s<L.length):∀x∈L.take (s+1),key x<=key L[s]:=λx a=>by
 rw[Xb b]at a;rcases Xk.1 a with a|a
 . have:=h.sublist (Wj (s+1) L);rw[Xb b]at this;exact (Xl.1 this).2.2 x a _ (by simp)
 simp at a;rw[a];exact Y8 _
variable {D:aB->Prop} {cmp:aB->aB->Option Int} (hc:∀x y,D x->D y->∃n,cmp x y=some n/\(n<0↔key x<key y))
include hc
theorem j02{A B:List aB}:∀{S:List aB},(∀x∈S,D x)->(A++S++B).length<1000000000->Ok (q19 (A++S++B) (A.length:Int) (((A++S).length:Nat):Int) cmp) (λr=>∃Z,r=A++Z++B/\Srt key S Z):=by
 intro S E Y;simp only[Xa]at Y;unfold q19;rw[wrap_i64 _ (by omega)]
 by_cases T:S=[]
 . subst T;refine k2j (λs=>s=((A.length:Int)+1,A++[]++B)) (λ_=>0) ?_ rfl (by simp only[rounds];omega);rintro rec _ rfl U;unfold q2o;dsimp only;rw[if_neg (by simp;omega)];exact Ok.some ⟨[],rfl,Srt.refl Wi⟩
 have N:0<S.length:=Yo.2 T;refine k2j (λs=>∃i:Nat,∃P:List aB,s=(((A.length+i:Nat):Int),A++P++S.drop i++B)/\1<=i/\i<=S.length/\Srt key (S.take i) P) (λs=>(A.length+S.length)-s.1.toNat) ?_
  ⟨1,S.take 1,by rw[Xc A (S.take 1),Xe];simp,Xt _,N,Srt.refl (by
   have:(S.take 1).length<=1:=by rw[List.length_take];omega
   match S.take 1,this with
   |[],_=>exact List.Pairwise.nil
   |[x],_=>exact List.pairwise_singleton _ _
   |_::_::_,h=>simp at h)⟩ (by simp only[rounds];omega)
 rintro rec _ ⟨i,P,rfl,h1,h2,C⟩ U;have G:P.length=i:=by rw[C.len,Xf];omega
 unfold q2o;dsimp only;refine k2h (λo=>?_) (λo=>?_)
 rotate_left
 .
  have o:¬i<S.length:=by simp only[decide_eq_false_iff_not,Xa]at o;omega
  obtain rfl:i=S.length:=by omega
  refine Ok.some ⟨P,by rw[Y9];simp,?_⟩;rw[Xh]at C;exact C
 have o:i<S.length:=by simp only[decide_eq_true_eq,Xa]at o;omega
 rw[Xu o]
 generalize H:S[i]=x
 refine k2j (λs=>∃j d:List aB,s=(((A.length+j.length:Nat):Int),A++j++x::d++S.drop (i+1)++B)/\j++d=P/\∀y∈d,key x<key y) (λs=>s.1.toNat) ?_ ⟨P,[],by rw[G];simp,by simp,by simp⟩ (by simp only[rounds];omega);rintro V _ ⟨j,d,rfl,g,p⟩ O;have q:j.length+d.length=i:=by rw[<-G,<-g,Xa]
 have l:(j++d).Pairwise λx y=>key x<=key y:=by rw[g];exact C.inc
 have t:(∀y∈j,key y<=key x)->Ok (rec (IntKind.i64.wrap (((A.length+i:Nat):Int)+1),A++j++x::d++S.drop (i+1)++B)) (λr=>∃Z,r=A++Z++B/\Srt key S Z):=λhle=>by
  rw[wrap_i64 _ (by omega)];refine U _ ⟨i+1,j++x::d,by simp only[Xc];congr 1,by omega,o,?_,?_⟩ (by dsimp only;omega)
  .
   obtain⟨Q,q2,q3⟩:=Xl.1 l;refine Xl.2 ⟨Q,X4.2 ⟨λy c=>Zt (p y c),q2⟩,λa W b hb=>?_⟩;rcases Xw.1 hb with rfl|hb
   . exact hle a W
   exact q3 a W b hb
  intro k;rw[Xb o,H,Xq,Xq,<-C.fil k,<-g,Xq,Xc]
  congr 1
  by_cases M:key x=k
  . rw[z6u (L:=d) λy c e=>by have:=p y c;omega,Yd (by simpa using M),z6u (L:=d) λy c e=>by have:=p y c;omega];simp[M]
  rw[Yp (by simpa using M)];simp[M]
 unfold q4c;dsimp only;refine k2h (λc=>?_) (λc=>t ?_)
 rotate_left
 . simp only[decide_eq_false_iff_not]at c;have:j=[]:=Xy (by omega);rw[this];simp
 simp only[decide_eq_true_eq]at c;rcases List.eq_nil_or_concat j with rfl|⟨f,z,rfl⟩
 . simp at c
 rw[List.concat_eq_append]at g q l t⊢;simp only[Xa,Xo,Yh,Nat.zero_add]at q;have hw:IntKind.i64.wrap (((A.length+(f++[z]).length:Nat):Int)-1)=((A.length+f.length:Nat):Int):=by rw[wrap_i64 _ (by simp;omega)];simp;omega
 rw[hw];have m:A++(f++[z])++x::d++S.drop (i+1)++B=(A++f)++z::x::(d++S.drop (i+1)++B):=by simp only[Xc,Xz,X8]
 have X:((A++f)++z::x::(d++S.drop (i+1)++B)).length=A.length+S.length+B.length:=by
  simp only[Xa,Xo,X6];omega
 have u:(A++f).length=A.length+f.length:=Xa;rw[m];have I:A.length+(f++[z]).length=A.length+f.length+1:=by simp;omega
 rw[I];have g1:((A++f)++z::x::(d++S.drop (i+1)++B))[A.length+f.length+1]'(by omega)=x:=by
  have:((A++f)++z::x::(d++S.drop (i+1)++B))=(A++f++[z])++x::(d++S.drop (i+1)++B):=by simp
  simp only[this];exact get_at (by simp;omega) _
 have g2:((A++f)++z::x::(d++S.drop (i+1)++B))[A.length+f.length]'(by omega)=z:=get_at (by rw[u]) _;refine Ok.bind (k2i (by omega) (Ok.bind (k2i (by omega) ?_)));rw[g1,g2];obtain⟨n,R,J⟩:=hc x z (by rw[<-H];exact E _ (Xj o)) (E z (Yc ((C.mem z).1 (by rw[<-g];simp))));rw[R];refine Ok.bind (Ok.some (k2h (λw=>?_) (λK=>?_)))
 .
  have w:=J.1 (by simpa using w);refine Ok.bind (k2i (by rw[Ze];omega) ?_);rw[Xd,Xd,List.set_comm _ _ (by omega),<-u,swp];refine O _ ⟨f,x::d |>.tail.cons z,by simp[u],by rw[<-g];simp,λy c=>?_⟩ (by dsimp only;simp only[Xd,Xa];simp;try omega);simp only[List.tail_cons,Xw]at c;rcases c with rfl|c
  . exact w
  exact p y c
 have K:¬key x<key z:=λh=>by have:=J.2 h;simp at K;omega
 rw[<-m];refine t λy c=>?_;obtain⟨Q,_,_⟩:=Xl.1 l;rcases Xk.1 c with c|c
 . have:=(Xl.1 Q).2.2 y c z (by simp);omega
 simp at c;rw[c];omega
end
end SO
end
section
open Go Go.RowKit
namespace SO
section
variable {key:aB->Int}
abbrev Inc(key:aB->Int)(L:List aB):Prop:=L.Pairwise λx y=>key x<=key y
theorem gX{A X R:List aB}{i:Nat}(a:A.length<=i)(b:i<A.length+X.length)(h:i<(A++X++R).length):(A++X++R)[i]=X[i-A.length]'(by omega):=by
 rw[List.getElem_append_left (by rw[Xa];omega),Zo a]
theorem ji6{x:aB}{Y:List aB}(g:Inc key Y){t:Nat}(d:∀y∈Y.take t,key y<key x)(j:∀y∈Y.drop t,key x<=key y):Srt key ([x]++Y) (Y.take t++x::Y.drop t):=by
 have f:=g;rw[<-Xe t Y]at f;obtain⟨l,m,n⟩:=Xl.1 f;refine⟨Xl.2 ⟨l,X4.2 ⟨j,m⟩,λa c b hb=>?_⟩,λk=>?_⟩
 .
  rcases Xw.1 hb with rfl|hb
  . exact Zt (d a c)
  exact n a c b hb
 have:=zc8 (key:=key) (X:=[x]) (Y:=Y.take t) (λa c b hb=>by simp at c;rw[c];exact d b hb) k;have e:x::Y.drop t=[x]++Y.drop t:=rfl;rw[e,Xq,Xq,<-Xc,this,Xc,<-Xq,Xe,Xq]
theorem j8y{y:aB}{X:List aB}(g:Inc key X){t:Nat}(j:∀x∈X.take t,key x<=key y)(d:∀x∈X.drop t,key y<key x):Srt key (X++[y]) (X.take t++y::X.drop t):=by
 have f:=g;rw[<-Xe t X]at f;obtain⟨l,m,n⟩:=Xl.1 f;refine⟨Xl.2 ⟨l,X4.2 ⟨λx o=>Zt (d x o),m⟩,λa c b hb=>?_⟩,λk=>?_⟩
 .
  rcases Xw.1 hb with rfl|hb
  . exact j a c
  exact n a c b hb
 have:=zc8 (key:=key) (X:=X.drop t) (Y:=[y]) (λa c b hb=>by simp at hb;rw[hb];exact d a c) k;have e:y::X.drop t=[y]++X.drop t:=rfl;rw[e,Xq,Xq,this,<-Xc,<-Xq,Xe,Xq]
theorem zq0{d e f g m n:List aB}(p:Inc key (d++e))(q:Inc key (f++g))(o:∀x∈e,∀y∈f,key y<key x)(s:∀x∈d,∀y∈g,key x<=key y)(j:Srt key (d++f) m)(l:Srt key (e++g) n):
 Srt key ((d++e)++(f++g)) (m++n):=by
 obtain⟨_,_,a3⟩:=Xl.1 p;obtain⟨_,_,t⟩:=Xl.1 q;refine⟨Xl.2 ⟨j.inc,l.inc,λa c b hb=>?_⟩,λk=>?_⟩
 .
  rcases Xk.1 ((j.mem a).1 c)with c|c<;>rcases Xk.1 ((l.mem b).1 hb)with hb|hb
  . exact a3 a c b hb
  . exact s a c b hb
  . exact Zt (o b hb a c)
  exact t a c b hb
 have:=zc8 (key:=key) o k;rw[Xq,j.fil,l.fil];simp only[Xq,Xc]
 congr 1
 rw[<-Xc,this,Xc]
variable {D:aB->Prop} {cmp:aB->aB->Option Int} (hc:∀x y,D x->D y->∃n,cmp x y=some n/\(n<0↔key x<key y))
include hc
set_option maxHeartbeats 4000000 in
theorem z4q:∀(n:Nat) {A X Y B data:List aB} {a m b:Nat},(∀x∈data,D x)->data=A++X++Y++B->a=A.length->m=a+X.length->b=m+Y.length->X≠[]->Y≠[]->Inc key X->Inc key Y->data.length<1000000000->b-a<n->
 Ok (q0d n data (a:Int) (m:Int) (b:Int) cmp) (λr=>∃Z,r=A++Z++B/\Srt key (X++Y) Z)
 |0,_,_,_,_,_,_,_,_,_,_,_,_,_,_,_,_,_,_,h=>absurd h (by omega)
 |n+1,A,X,Y,B,data,a,m,b,E,f,ha,c1,cp,c2,c4,hX,hY,h4,h5=>by
  have cs:=Yo.2 c2;have cz:=Yo.2 c4;have d0:data.length=b+B.length:=by rw[f];simp only[Xa];omega
  have h1:a<m:=by omega
  have h2:m<b:=by omega
  have h3:b<=data.length:=by omega
  have gx:∀i (_:a<=i) (h2:i<m) (h:i<data.length),data[i]=X[i-a]'(by omega):=λi q1 q2 h=>by
   subst f ha;have e:A++X++Y++B=A++X++(Y++B):=by simp
   simp only[e];exact gX q1 (by omega) _
  have gy:∀i (_:m<=i) (h2:i<b) (h:i<data.length),data[i]=Y[i-m]'(by omega):=λi q1 q2 h=>by
   subst f;have:=gX (A:=A++X) (X:=Y) (R:=B) (i:=i) (by rw[Xa];omega) (by rw[Xa];omega) h;rw[this]
   congr 1
   rw[Xa];omega
  show Ok (q2h (q0d n) data a m b cmp) _
  unfold q2h;rw[wrap_i64 ((m:Int)-a) (by omega)];refine k2h (λhm=>?_) (λhm=>?_)
  .
   simp only[beq_iff_eq]at hm;obtain⟨x,rfl⟩:∃x,X=[x]:=Z3.1 (by omega);have d1:m=a+1:=by omega
   have g:data[a]'(by omega)=x:=by rw[gx a (Xt _) h1];simp
   refine k2j (λs=>∃i j:Nat,s=((i:Int),(j:Int))/\m<=i/\i<=j/\j<=b/\(∀y∈Y.take (i-m),key y<key x)/\(∀y∈Y.drop (j-m),key x<=key y)) (λs=>(s.2-s.1).toNat) ?_ ⟨m,b,rfl,by omega,by omega,by omega,by simp,by rw[Yi (by omega)];simp⟩ (by simp only[rounds];omega);rintro rec _ ⟨i,j,rfl,g1,g2,g3,g4,g5⟩ H;unfold q57;dsimp only;rw[BG.half i j (by omega)];refine k2h (λk=>?_) (λk=>?_)
   .
    simp only[decide_eq_true_eq]at k;refine Ok.bind (k2i (show (i+j)/2<data.length by omega) (Ok.bind (k2i (show a<data.length by omega) ?_)));obtain⟨c,K,o⟩:=hc (data[(i+j)/2]'(by omega)) (data[a]'(by omega)) (E _ (Xj _)) (E _ (Xj _));have U:=gy ((i+j)/2) (by omega) (by omega) (by omega);rw[K,wrap_i64 _ (by omega)];rw[g,U]at o;refine Ok.bind (Ok.some (k2h (λG=>H _ ⟨(i+j)/2+1,j,by simp,by omega,by omega,g3,λy p=>?_,g5⟩ (by dsimp only;omega)) (λw=>H _ ⟨i,(i+j)/2,rfl,g1,by omega,by omega,g4,λy p=>?_⟩ (by dsimp only;omega))))
    . have G:=o.1 (by simpa using G);have:=z92 hY (s:=(i+j)/2-m) (by omega) y (by rw[show (i+j)/2-m+1=(i+j)/2+1-m by omega];exact p);omega
    have w:¬key (Y[(i+j)/2-m]'(by omega))<key x:=λh=>by have:=o.2 h;simp at w;omega
    have:=z9j hY (s:=(i+j)/2-m) (by omega) y p;omega
   have L:i=j:=by simp only[decide_eq_false_iff_not]at k;omega
   subst L;unfold q3d;have d2:Y.length=b-m:=by omega
   refine k2j (λs=>∃u:Nat,s=(((a+u:Nat):Int),A++Y.take u++x::Y.drop u++B)/\u<=i-m) (λs=>(i:Nat)-s.1.toNat) ?_ ⟨0,by rw[f];simp,by omega⟩ (by simp only[rounds];omega);rintro b1 _ ⟨u,rfl,hu⟩ z;unfold q58;dsimp only;rw[wrap_i64 ((i:Int)-1) (by omega)];refine k2h (λU=>?_) (λU=>?_)
   .
    simp only[decide_eq_true_eq]at U;have b2:u<Y.length:=by omega
    have hw:IntKind.i64.wrap (((a+u:Nat):Int)+1)=((a+u+1:Nat):Int):=by rw[wrap_i64 _ (by omega)];omega
    rw[hw,Xu b2];have I:A++Y.take u++x::Y[u]::Y.drop (u+1)++B=(A++Y.take u)++x::Y[u]::(Y.drop (u+1)++B):=by simp only[Xc,Xz]
    have C:(A++Y.take u).length=a+u:=by rw[Xa,Xf];omega
    have b3:((A++Y.take u)++x::Y[u]::(Y.drop (u+1)++B)).length=data.length:=by
     rw[f];simp only[Xa,Xo,X6,Xf,Yh];omega
    rw[I];have k1:((A++Y.take u)++x::Y[u]::(Y.drop (u+1)++B))[a+u+1]'(by omega)=Y[u]:=by
     have:((A++Y.take u)++x::Y[u]::(Y.drop (u+1)++B))=(A++Y.take u++[x])++Y[u]::(Y.drop (u+1)++B):=by simp
     simp only[this];exact get_at (by rw[Xa,C];rfl) _
    have k2:((A++Y.take u)++x::Y[u]::(Y.drop (u+1)++B))[a+u]'(by omega)=x:=get_at C.symm _;refine Ok.bind (k2i (by omega) (Ok.bind (k2i (by omega) (Ok.bind (k2i (by rw[Ze];omega) ?_)))));rw[k1,k2,Xd,Xd,<-C,swp];refine z _ ⟨u+1,?_,by omega⟩ (by dsimp only;simp only[Xd];omega);rw[Xb b2,C];simp only[Xc,Xz,X8];rfl
   have ao:u=i-m:=by simp only[decide_eq_false_iff_not]at U;omega
   subst ao;exact Ok.some ⟨_,by simp only[Xc,Xz],ji6 hY g4 g5⟩
  simp only[beq_eq_false_iff_ne,ne_eq]at hm;unfold q3k;rw[wrap_i64 ((b:Int)-m) (by omega)];refine k2h (λar=>?_) (λar=>?_)
  .
   simp only[beq_iff_eq]at ar;obtain⟨y,rfl⟩:∃y,Y=[y]:=Z3.1 (by omega);have c5:data[m]'(by omega)=y:=by rw[gy m (Xt _) h2];simp
   refine k2j (λs=>∃i j:Nat,s=((i:Int),(j:Int))/\a<=i/\i<=j/\j<=m/\(∀x∈X.take (i-a),key x<=key y)/\(∀x∈X.drop (j-a),key y<key x)) (λs=>(s.2-s.1).toNat) ?_ ⟨a,m,rfl,by omega,by omega,by omega,by simp,by rw[Yi (by omega)];simp⟩ (by simp only[rounds];omega);rintro rec _ ⟨i,j,rfl,g1,g2,g3,g4,g5⟩ H;unfold q59;dsimp only;rw[BG.half i j (by omega)];refine k2h (λg=>?_) (λg=>?_)
   .
    simp only[decide_eq_true_eq]at g;refine Ok.bind (k2i (show m<data.length by omega) (Ok.bind (k2i (show (i+j)/2<data.length by omega) ?_)));obtain⟨c,K,o⟩:=hc (data[m]'(by omega)) (data[(i+j)/2]'(by omega)) (E _ (Xj _)) (E _ (Xj _));have c6:=gx ((i+j)/2) (by omega) (by omega) (by omega);rw[K,wrap_i64 _ (by omega)];rw[c5,c6]at o;refine Ok.bind (Ok.some (k2h (λw=>H _ ⟨(i+j)/2+1,j,by simp,by omega,by omega,g3,λx k=>?_,g5⟩ (by dsimp only;omega)) (λG=>H _ ⟨i,(i+j)/2,rfl,g1,by omega,by omega,g4,λx k=>?_⟩ (by dsimp only;omega))))
    .
     have w:¬key y<key (X[(i+j)/2-a]'(by omega)):=λh=>by have:=o.2 h;simp at w;omega
     have:=z92 hX (s:=(i+j)/2-a) (by omega) x (by rw[show (i+j)/2-a+1=(i+j)/2+1-a by omega];exact k);omega
    have G:=o.1 (by simpa using G);have:=z9j hX (s:=(i+j)/2-a) (by omega) x k;omega
   have L:i=j:=by simp only[decide_eq_false_iff_not]at g;omega
   subst L;unfold q3i;refine k2j (λs=>∃u:Nat,s=(((a+u:Nat):Int),A++X.take u++y::X.drop u++B)/\i-a<=u/\u<=X.length) (λs=>s.1.toNat) ?_ ⟨X.length,by rw[f,Xh,Y9,c1],by omega,Xt _⟩ (by simp only[rounds];omega);rintro b1 _ ⟨u,rfl,hu,d3⟩ z;unfold q5k;dsimp only;refine k2h (λU=>?_) (λU=>?_)
   .
    simp only[decide_eq_true_eq]at U;obtain⟨v,rfl⟩:∃v,u=v+1:=⟨u-1,by omega⟩;have b4:v<X.length:=by omega
    have hw:IntKind.i64.wrap (((a+(v+1):Nat):Int)-1)=((a+v:Nat):Int):=by rw[wrap_i64 _ (by omega)];omega
    rw[hw,Xb b4];have I:A++(X.take v++[X[v]])++y::X.drop (v+1)++B=(A++X.take v)++X[v]::y::(X.drop (v+1)++B):=by simp only[Xc,Xz,X8]
    have C:(A++X.take v).length=a+v:=by rw[Xa,Xf];omega
    have b3:((A++X.take v)++X[v]::y::(X.drop (v+1)++B)).length=data.length:=by
     rw[f];simp only[Xa,Xo,X6,Xf,Yh];omega
    rw[I];have k1:((A++X.take v)++X[v]::y::(X.drop (v+1)++B))[a+(v+1)]'(by omega)=y:=by
     have:((A++X.take v)++X[v]::y::(X.drop (v+1)++B))=(A++X.take v++[X[v]])++y::(X.drop (v+1)++B):=by simp only[Xc,Xz,X8]
     simp only[this];exact get_at (by rw[Xa,C];rfl) _
    have k2:((A++X.take v)++X[v]::y::(X.drop (v+1)++B))[a+v]'(by omega)=X[v]:=get_at C.symm _;refine Ok.bind (k2i (by omega) (Ok.bind (k2i (by omega) (Ok.bind (k2i (by rw[Ze];omega) ?_)))));rw[k1,k2,Xd,Xd,List.set_comm _ _ (by omega),<-C,show a+(v+1)=(A++X.take v).length+1 by omega,swp];refine z _ ⟨v,?_,by omega,by omega⟩ (by dsimp only;simp only[Xd];omega);rw[Xu b4,C];simp only[Xc,Xz]
   have ao:u=i-a:=by simp only[decide_eq_false_iff_not]at U;omega
   subst ao;exact Ok.some ⟨_,by simp only[Xc,Xz],j8y hX g4 g5⟩
  simp only[beq_eq_false_iff_ne,ne_eq]at ar;obtain⟨d,hd⟩:∃d,d=(a+b)/2:=⟨_,rfl⟩;have t:IntKind.i64.wrap (q2p .u64 (IntKind.u64.wrap (IntKind.i64.wrap ((a:Int)+(b:Int)))) 1)=(d:Int):=by rw[BG.half a b (by omega),hd]
  have d4:a+2<=d/\d+2<=b:=by omega
  have V:IntKind.i64.wrap ((d:Int)+(m:Int))=((d+m:Nat):Int):=by rw[wrap_i64 _ (by omega)];omega
  have j4:∀(s:Nat),a<=s->s<=m->s<=d->d+m-s<=b->(∀x∈X.drop (s-a),∀y∈Y.take (d-s),key y<key x)->(∀x∈X.take (s-a),∀y∈Y.drop (d-s),key x<=key y)->
   Ok (q2e data (a:Int) (m:Int) (b:Int) cmp (q0d n) (s:Int)) (λr=>∃Z,r=A++Z++B/\Srt key (X++Y) Z):=λs s1 s2 s3 s4 p1 p2=>by
   obtain⟨e,he⟩:∃e,e=d+m-s:=⟨_,rfl⟩;have b5:IntKind.i64.wrap (((d+m:Nat):Int)-(s:Int))=(e:Int):=by rw[wrap_i64 _ (by omega)];omega
   have eX:X=X.take (s-a)++X.drop (s-a):=(Xe _ _).symm;have eY:Y=Y.take (d-s)++Y.drop (d-s):=(Xe _ _).symm;have b0:(X.take (s-a)).length=s-a:=by rw[Xf];omega
   have M:(X.drop (s-a)).length=m-s:=by rw[X6];omega
   have N:(Y.take (d-s)).length=d-s:=by rw[Xf];omega
   have b6:(Y.drop (d-s)).length=b-e:=by rw[X6];omega
   have W:=hX;have a6:=hY;rw[eX]at W;rw[eY]at a6;rw[eX,eY];rw[eX,eY]at f
   generalize X.take (s-a)=X1 at*
   generalize X.drop (s-a)=O at*
   generalize Y.take (d-s)=S at*
   generalize Y.drop (d-s)=T at*
   obtain⟨bc,bi,_⟩:=Xl.1 W;obtain⟨bk,bs,_⟩:=Xl.1 a6;have j6:∀(q Z1:List aB),Srt key (X1++S) Z1->q=A++Z1++O++T++B->Ok (q1o (a:Int) (m:Int) (b:Int) cmp (q0d n) (s:Int) q) (λr=>∃Z,r=A++Z++B/\Srt key ((X1++O)++(S++T)) Z):=λq Z1 hZ P=>by
    have lZ:Z1.length=d-a:=by rw[hZ.len,Xa];omega
    unfold q1o;rw[t,V,b5];refine k2h (λg=>?_) (λg=>?_)
    .
     simp only[Xg,decide_eq_true_eq]at g;have c7:q.length=data.length:=by rw[P,f];simp only[Xa];omega
     refine k2g (z4q n (A:=A++Z1) (X:=O) (Y:=T) (B:=B) (data:=q) (a:=d) (m:=e) (b:=b) (λx g=>E x (by
      rw[P]at g;rw[f];simp only[Xk,hZ.mem x]at g⊢;rcases g with (((h|(h|h))|h)|h)|h<;>simp[h])) P (by rw[Xa];omega) (by omega) (by omega) (λh=>by rw[h]at M;simp at M;omega) (λh=>by rw[h]at b6;simp at b6;omega) bi bs (by omega) (by omega)) λr H=>?_
     obtain⟨Z2,Q,z⟩:=H;refine Ok.guard ?_ (Ok.some ⟨Z1++Z2,by rw[Q];simp only[Xc],zq0 W a6 p1 p2 hZ z⟩);rw[Q,P];have:=z.len;simp only[Xa]at this⊢;omega
    refine Ok.some ⟨Z1++(O++T),by rw[P];simp only[Xc],zq0 W a6 p1 p2 hZ (Srt.refl ?_)⟩;simp only[Xp,decide_eq_false_iff_not]at g;rcases Y4 O.length with h0|h0
    . rw[Xy h0];exact bs
    rw[Xy (show T.length=0 by omega),X7];exact bi
   have j5:∀(q:List aB),q=A++X1++S++O++T++B->Ok (q1p (a:Int) (m:Int) (b:Int) cmp (q0d n) (s:Int) q) (λr=>∃Z,r=A++Z++B/\Srt key ((X1++O)++(S++T)) Z):=λq P=>by
    unfold q1p;rw[t];refine k2h (λg=>?_) (λg=>?_)
    .
     simp only[Xg,decide_eq_true_eq]at g;have c7:q.length=data.length:=by rw[P,f];simp only[Xa];omega
     refine k2g (z4q n (A:=A) (X:=X1) (Y:=S) (B:=O++T++B) (data:=q) (a:=a) (m:=s) (b:=d) (λx g=>E x (by
      rw[P]at g;rw[f];simp only[Xk]at g⊢;rcases g with ((((h|h)|h)|h)|h)|h<;>simp[h])) (by rw[P];simp only[Xc]) ha (by omega) (by omega) (λh=>by rw[h]at b0;simp at b0;omega) (λh=>by rw[h]at N;simp at N;omega) bc bk (by omega) (by omega)) λr H=>?_
     obtain⟨Z1,Q,z⟩:=H;refine Ok.guard ?_ (j6 r Z1 z (by rw[Q];simp only[Xc]));rw[Q,P];have:=z.len;simp only[Xa]at this⊢;omega
    refine j6 q (X1++S) (Srt.refl ?_) (by rw[P];simp only[Xc]);simp only[Xp,decide_eq_false_iff_not]at g;rcases Y4 X1.length with h0|h0
    . rw[Xy h0];exact bk
    rw[Xy (show S.length=0 by omega),X7];exact bc
   unfold q2e;rw[t,V,b5];refine k2h (λg=>?_) (λg=>?_)
   .
    simp only[Xg,decide_eq_true_eq]at g;have bv:data=(A++X1)++O++S++(T++B):=by rw[f];simp only[Xc]
    have J:=j60 (cmp:=cmp) (A:=A++X1) (X:=O) (Y:=S) (B:=T++B) (λh=>by rw[h]at M;simp at M;omega) (λh=>by rw[h]at N;simp at N;omega) (by rw[<-bv];omega);rw[<-bv]at J;simp only[Xa,b0,M,N]at J;rw[<-ha,show a+(s-a)=s by omega,show s+(m-s)=m by omega,show m+(d-s)=e by omega]at J;refine k2g J λr H=>Ok.guard ?_ (j5 r (by rw[H];simp only[Xc]));rw[H,f];simp only[Xa];omega
   refine j5 data ?_;simp only[Xp,decide_eq_false_iff_not]at g;rw[f];rcases Y4 O.length with h0|h0
   . rw[Xy h0];simp only[Xc,X7,X8]
   rw[Xy (show S.length=0 by omega)];simp only[Xc,X7,X8]
  have j3:∀(lo hi:Nat),a<=lo->lo<=hi->hi<=m->hi<=d->d+m-lo<=b->(∀x∈X.take (lo-a),∀y∈Y.drop (d-lo),key x<=key y)->(∀x∈X.drop (hi-a),∀y∈Y.take (d-hi),key y<key x)->
   Ok (q1q data (a:Int) (m:Int) (b:Int) cmp (q0d n) (lo:Int) (hi:Int)) (λr=>∃Z,r=A++Z++B/\Srt key (X++Y) Z):=λlo hi g0 g1 g2 d5 g3 hA hB=>by
   unfold q1q;refine k2j (λs=>∃i j:Nat,s=((i:Int),(j:Int))/\lo<=i/\i<=j/\j<=hi/\(∀x∈X.take (i-a),∀y∈Y.drop (d-i),key x<=key y)/\(∀x∈X.drop (j-a),∀y∈Y.take (d-j),key y<key x)) (λs=>(s.2-s.1).toNat) ?_ ⟨lo,hi,rfl,Xt _,g1,Xt _,hA,hB⟩ (by simp only[rounds];omega);rintro rec _ ⟨i,j,rfl,f1,f2,f3,pA,pB⟩ H;unfold q5l;dsimp only;rw[t,V,BG.half i j (by omega)];refine k2h (λg=>?_) (λg=>?_)
   .
    simp only[decide_eq_true_eq]at g;have c8:IntKind.i64.wrap (((d+m:Nat):Int)-1)=((d+m-1:Nat):Int):=by rw[wrap_i64 _ (by omega)];omega
    have c9:IntKind.i64.wrap (((d+m-1:Nat):Int)-(((i+j)/2:Nat):Int))=((d+m-1-(i+j)/2:Nat):Int):=by rw[wrap_i64 _ (by omega)];omega
    rw[c8,c9];refine Ok.bind (k2i (show d+m-1-(i+j)/2<data.length by omega) (Ok.bind (k2i (show (i+j)/2<data.length by omega) ?_)));obtain⟨c,K,o⟩:=hc (data[d+m-1-(i+j)/2]'(by omega)) (data[(i+j)/2]'(by omega)) (E _ (Xj _)) (E _ (Xj _));rw[gy (d+m-1-(i+j)/2) (by omega) (by omega) (by omega),gx ((i+j)/2) (by omega) (by omega) (by omega)]at o;rw[K,wrap_i64 _ (by omega)];have tk:=λx k=>z92 hX (s:=(i+j)/2-a) (by omega) x k;have dk:=λy p=>z9j hY (s:=d+m-1-(i+j)/2-m) (by omega) y p;have cb:=λy p=>z92 hY (s:=d+m-1-(i+j)/2-m) (by omega) y p;have cc:=λx k=>z9j hX (s:=(i+j)/2-a) (by omega) x k;refine Ok.bind (Ok.some (k2h (λw=>H _ ⟨(i+j)/2+1,j,by simp,by omega,by omega,f3,λx k y p=>?_,pB⟩ (by dsimp only;omega)) (λG=>H _ ⟨i,(i+j)/2,rfl,f1,by omega,by omega,pA,λx k y p=>?_⟩ (by dsimp only;omega))))
    .
     have w:¬(c<0):=by simpa using w
     have w:=λh=>w (o.2 h);have t1:=tk x (by rw[show (i+j)/2-a+1=(i+j)/2+1-a by omega];exact k);have t2:=dk y (by rw[show d+m-1-(i+j)/2-m=d-((i+j)/2+1) by omega];exact p);omega
    have G:=o.1 (by simpa using G);have t1:=cc x k;have t2:=cb y (by rw[show d+m-1-(i+j)/2-m+1=d-(i+j)/2 by omega];exact p);omega
   have L:i=j:=by simp only[decide_eq_false_iff_not]at g;omega
   subst L;exact j4 i (by omega) (by omega) (by omega) (by omega) pB pA
  unfold q3j;rw[t,V];refine k2h (λg=>?_) (λg=>?_)
  .
   simp only[decide_eq_true_eq]at g;have cd:IntKind.i64.wrap (((d+m:Nat):Int)-(b:Int))=((d+m-b:Nat):Int):=by rw[wrap_i64 _ (by omega)];omega
   rw[cd];exact j3 (d+m-b) d (by omega) (by omega) (by omega) (by omega) (by omega) (by rw[Yi (l:=Y) (by omega)];simp) (by simp)
  simp only[decide_eq_false_iff_not]at g;exact j3 a m (by omega) (by omega) (by omega) (by omega) (by omega) (by simp) (by rw[Yi (l:=X) (by omega)];simp)
end
end SO
end
end Go.Proofs.YtdcdfkdhomekeaaGreat

/-
  Regions of open order in which operations turn something; plain functions that may give nothing, and loops. No condition beyond those that each theorem names.
-/
import Derived.Test.YtomicnbiniapfaaGreatLibC
import Derived.Test.YtomicnbiniapfaaGreatLibB
import Derived.Laws.Externs
import Derived.LoopN
set_option linter.unusedSimpArgs false
set_option linter.unusedVariables false
set_option linter.unusedSectionVars false
open Nat renaming le_refl->Xa,lt_or_ge->Xg,lt_of_lt_of_le->Xi,lt_succ_self->Xm,not_lt_zero->X8,succ_ne_self->Yg,le_trans->Yj,mul_le_mul_right->Ym,add_sub_cancel_left->Yt,zero_le->Yu,le_succ_of_le->Y4,le_succ->Y5
open Array renaming getD_eq_getD_getElem?->Xb,getElem?_eq_getElem->Xh,mem_toList_iff->Xl,getElem?_setIfInBounds->Xr,getElem?_eq_some_iff->Xx,mem_append->Xz,getElem?_replicate->Yc,replicate->Yl
open Bool renaming and_eq_true->Xc,or_eq_true->Xv,not_eq_true'->Ye
open Option renaming some.injEq->Xd,getD_some->Xp,some.inj->Yk,map_some->Y8
open List renaming all_eq_true->Xe,mem_cons->Xf,mem_append->Xj,mem_append_right->Xk,mem_map->Xo,mem_append_left->Xq,range->Xs,map_congr_left->Xt,length_append->Xu,map_cons->Xw,getD_eq_getElem?_getD->Xy,getElem?_eq_getElem->X0,take_succ_eq_append_getElem->X3,append_assoc->X4,mem_range->X5,getElem?_append_right->X7,getElem?_eq_some_iff->X9,length_map->Ya,getElem?_append_left->Yb,length_cons->Yf,getElem_mem->Yh,nodup_cons->Yi,getD_cons_succ->Yn,mem_singleton->Yo,findIdx?_eq_none_iff->Yq,cons_append->Yr,length_take->Ys,contains_iff_mem->Yv,take_append_drop->Yw,all_cons->Yx,getD_cons_zero->Yy,mem_map_of_mem->Yz,getElem?_take->Y0,findIdx?_cons->Y3,nodup_range->Y6,take_length->Y7
open Prod renaming mk.injEq->X6
open Int renaming eq_ofNat_of_zero_le->Yd,toNat_natCast->Yp
namespace Go.Proofs.YtomicnbiniapfaaGreat
section
open Go Go.RowKit
def q52(G:List Nat):Hp->Hp
 |[]=>[]
 |(k,o)::r=>if k∈G then q52 G r else (k,o)::q52 G r
theorem z94{G:List Nat}{id:Nat}(h:id∉G):∀(hp:Hp),q0i (q52 G hp) id=q0i hp id
 |[]=>rfl
 |(k,o)::r=>by
  unfold q52
  split
  .
   rename_i I
   rw[z94 h r];have:k≠id:=fun e=>h (by rw[<-e];exact I);simp only[q0i,if_neg this]
  simp only[q0i,z94 h r]
def jm3(P:Program)(nb:Nat)(hp:Hp)(nx:Nat)(f:FuncId)(args:List AV)(K:Hp->Nat->AV->Prop):Prop:=
 ∃(H:Hp) (N:Nat) (R:AV),(∀(s:St) (K':St->AV->Prop),s.nb=nb->s.hp=hp->s.nx=nx->(s.hp.map (·.1)).Nodup->K' {s with hp:=H,nx:=N} R->qg1 P s f args K')/\K H N R
def j2h(G:List Nat)(hp:Hp)(K:St->Prop)(s':St):Prop:=q52 G s'.hp=q52 G hp/\K s'
def j9v(dst:Option Nat)(s:St)(K:St->Prop)(hp':Hp)(nx':Nat)(r:AV):Prop:=K (({s with hp:=hp',nx:=nx'}:St).put dst r)
def ze7(P:Program)(G:List Nat)(o:Oper)(s:St)(K:St->Prop):Prop:=
 match o.op with
 |.call c=>match c.callee,c.args.toList,c.argTypes.toList with
  |.value T,args,_=>match (x8 s.env T).st with
   |.clo f I=>(True/\(x8 s.env T).aU/\bm (args.map (x8 s.env)))/\jm3 P s.nb s.hp s.nx f ((args.map fun x=>(x8 s.env x).st)++I) (j9v o.dst s (j2h G s.hp K))
   |_=>False
  |_,_,_=>vcX P o s (j2h G s.hp K)
 |.binOp .. =>False
 |_=>vcX P o s (j2h G s.hp K)
def j2g(P:Program)(G:List Nat)(o:Oper)(s:St)(K:St->Prop)(g:Bool):Prop:=(g=true->ze7 P G o s K)/\(g=false->K (s.put o.dst (.v undef)))
theorem k04(P:Program)(G:List Nat)(o:Oper)(s:St)(K:St->Prop):j2g P G o s K true=ze7 P G o s K:=by simp[j2g]
theorem k05(P:Program)(G:List Nat)(o:Oper)(s:St)(K:St->Prop):j2g P G o s K false=K (s.put o.dst (.v undef)):=by simp[j2g]
def j2f(P:Program)(ops:Array Oper)(G:List Nat)(o:Oper)(s:St)(K:St->Prop):Prop:=
 match o.guard with
 |none=>ze7 P G o s K
 |some (j,I)=>match q1y ops j with
  |some d=>match z2w (q0x s.env d) I with
   |some g=>j2g P G o s K g
   |none=>False
  |none=>False
section
variable {P:Program} {C:Ctx P} {s:St} {a:Act} {w:World} {β:aI}
theorem jn8{o:Oper}{s:St}{K:St->Prop}(hc:∀c f,o.op=.call c->c.callee≠ .value f)(hb:∀a b c d e,o.op≠ .binOp a b c d e)(h:vcX P o s K):
 ∃H N R,K (({s with hp:=H,nx:=N}:St).put o.dst R)/\∀G:List (Nat×AV),(∀x∈o.op.operands,x8 G x=x8 s.env x)->∀K':St->Prop,K' (({s with env:=G,hp:=H,nx:=N}:St).put o.dst R)->vcX P o {s with env:=G} K':=by
 unfold vcX at h⊢
 split at h
 .
  split at h
  . exact⟨_,_,_,h,fun G I K' Z=>by simp only[*]⟩
  . exact⟨_,_,_,h,fun G I K' Z=>by simp only[*]⟩
  exact h.elim
 .
  rename_i e x W
  split at h
  .
   rename_i cs an
   exact⟨_,_,_,h.2,fun G I K' Z=>by
    have T:x8 G x=x8 s.env x:=I x (by rw[W];simp[Op.operands]);simp only[W,T,an];exact⟨h.1,Z⟩⟩
  .
   rename_i cs b2 an
   exact⟨_,_,_,h.2,fun G I K' Z=>by
    have T:x8 G x=x8 s.env x:=I x (by rw[W];simp[Op.operands]);simp only[W,T,an];exact⟨h.1,Z⟩⟩
  exact h.elim
 .
  rename_i t x y W
  split at h
  .
   rename_i id off ys e1 e2
   split at h
   .
    rename_i cs hg
    exact⟨_,_,_,h.2,fun G I K' Z=>by
     have T:x8 G x=x8 s.env x:=I x (by rw[W];simp[Op.operands]);have hy:x8 G y=x8 s.env y:=I y (by rw[W];simp[Op.operands]);simp only[W,T,hy,e1,e2,hg];exact⟨h.1,Z⟩⟩
   .
    rename_i k cs hg
    split at h
    .
     rename_i n hn
     exact⟨_,_,_,h.2,fun G I K' Z=>by
      have T:x8 G x=x8 s.env x:=I x (by rw[W];simp[Op.operands]);have hy:x8 G y=x8 s.env y:=I y (by rw[W];simp[Op.operands]);simp only[W,T,hy,e1,e2,hg,hn];exact⟨h.1,Z⟩⟩
    exact h.elim
   exact h.elim
  .
   rename_i id sz i off ys e1 e2
   split at h
   .
    rename_i ao xs hg
    exact⟨_,_,_,h.2,fun G I K' Z=>by
     have T:x8 G x=x8 s.env x:=I x (by rw[W];simp[Op.operands]);have hy:x8 G y=x8 s.env y:=I y (by rw[W];simp[Op.operands]);simp only[W,T,hy,e1,e2,hg];exact⟨h.1,Z⟩⟩
   .
    rename_i k cs hg
    split at h
    .
     rename_i n hn
     exact⟨_,_,_,h.2,fun G I K' Z=>by
      have T:x8 G x=x8 s.env x:=I x (by rw[W];simp[Op.operands]);have hy:x8 G y=x8 s.env y:=I y (by rw[W];simp[Op.operands]);simp only[W,T,hy,e1,e2,hg,hn];exact⟨h.1,Z⟩⟩
    exact h.elim
   exact h.elim
  exact h.elim
 .
  rename_i t n parts W
  split at h
  .
   rename_i e i0 o0 rs he hr
   split at h
   .
    rename_i zs hz
    exact⟨_,_,_,h.2,fun G I K' Z=>by
     have hp:∀p∈parts.toList,x8 G p.2=x8 s.env p.2:=fun p hp=>I p.2 (by rw[W];simp only[Op.operands];simp;exact⟨p.1,by simpa using hp⟩);have e1:(parts.toList.map fun p:Nat×Operand=>(x8 G p.2).st)=parts.toList.map fun p=>(x8 s.env p.2).st:=Xt fun p T=>by rw[hp p T]
     have e2:(parts.toList.map fun p:Nat×Operand=>x8 G p.2)=parts.toList.map fun p=>x8 s.env p.2:=Xt fun p T=>hp p T;simp only[W,e1,e2,he,hr,hz];exact⟨h.1,Z⟩⟩
   exact h.elim
  .
   rename_i e rs _ he hr
   split at h
   .
    rename_i zs hz
    exact⟨_,_,_,h.2,fun G I K' Z=>by
     have hp:∀p∈parts.toList,x8 G p.2=x8 s.env p.2:=fun p hp=>I p.2 (by rw[W];simp only[Op.operands];simp;exact⟨p.1,by simpa using hp⟩);have e1:(parts.toList.map fun p:Nat×Operand=>(x8 G p.2).st)=parts.toList.map fun p=>(x8 s.env p.2).st:=Xt fun p T=>by rw[hp p T]
     have e2:(parts.toList.map fun p:Nat×Operand=>x8 G p.2)=parts.toList.map fun p=>x8 s.env p.2:=Xt fun p T=>hp p T;simp only[W,e1,e2,he,hr,hz];exact⟨h.1,Z⟩⟩
   exact h.elim
  exact h.elim
 .
  rename_i t l c W
  split at h
  .
   rename_i k n k' m e hl ar he
   split at h
   .
    rename_i zs hz
    exact⟨_,_,_,h.2,fun G I K' Z=>by
     have T:x8 G l=x8 s.env l:=I l (by rw[W];simp[Op.operands]);have hy:x8 G c=x8 s.env c:=I c (by rw[W];simp[Op.operands]);simp only[W,T,hy,hl,ar,he,hz];exact⟨h.1,Z⟩⟩
   exact h.elim
  exact h.elim
 .
  rename_i src dst x W
  split at h
  .
   rename_i id sz off len e b1 he
   split at h
   .
    rename_i ao xs hg
    exact⟨_,_,_,h.2,fun G I K' Z=>by
     have T:x8 G x=x8 s.env x:=I x (by rw[W];simp[Op.operands]);simp only[W,T,b1,he,hg];exact⟨h.1,Z⟩⟩
   exact h.elim
  exact h.elim
 .
  rename_i t x lo hi mx W
  split at h
  .
   rename_i c r hr
   exact⟨s.hp,s.nx,_,h.2,fun G I K' Z=>by
    have h1:x8 G x=x8 s.env x:=I x (by rw[W];simp[Op.operands]);have h2:x8 G lo=x8 s.env lo:=I lo (by rw[W];simp[Op.operands]);have h3:x8 G hi=x8 s.env hi:=I hi (by rw[W];simp[Op.operands]);have h4:x8 G mx=x8 s.env mx:=I mx (by rw[W];simp[Op.operands]);simp only[W,h1,h2,h3,h4,hr];exact⟨h.1,Z⟩⟩
  exact h.elim
 . rename_i W;exact absurd W (hb _ _ _ _ _)
 . rename_i W;exact absurd W (hb _ _ _ _ _)
 .
  obtain⟨H,N,R,hk,hw⟩:=h;exact⟨H,N,R,hk,fun G I K' Z=>by
   exact⟨H,N,R,Z,fun a6 aj K2 h2=>hw a6 (fun x T=>(aj x T).trans (I x T)) K2 h2⟩⟩
 .
  obtain⟨H,N,R,hk,hw⟩:=h;exact⟨H,N,R,hk,fun G I K' Z=>by
   exact⟨H,N,R,Z,fun a6 aj K2 h2=>hw a6 (fun x T=>(aj x T).trans (I x T)) K2 h2⟩⟩
 .
  rename_i cl W
  split at h
  .
   rename_i x y t t' e1 e2 e3
   split at h
   .
    rename_i e szx xs ids cb szy ys cs he aq hs
    split at h
    .
     rename_i zs hz
     exact⟨_,_,_,h.2,fun G I K' Z=>by
      have ha:∀x∈cl.args.toList,x8 G x=x8 s.env x:=fun x T=>I x (by rw[W];simp only[Op.operands,Call.operands];exact Xz.2 (.inr (Xl.1 T)));rw[e2]at ha;have T:=ha x (by simp);have hy:=ha y (by simp);simp only[W,e1,e2,e3,T,hy,he,aq,hs,hz];exact⟨h.1,Z⟩⟩
    exact h.elim
   .
    rename_i he aq hs
    obtain⟨H,N,R,hk,hw⟩:=h;exact⟨H,N,R,hk,fun G I K' Z=>by
     have ha:∀x∈cl.args.toList,x8 G x=x8 s.env x:=fun x T=>I x (by rw[W];simp only[Op.operands,Call.operands];exact Xz.2 (.inr (Xl.1 T)));rw[e2]at ha;have T:=ha x (by simp);have hy:=ha y (by simp);simp only[W,e1,e2,e3,T,hy,he,aq,hs];exact⟨H,N,R,Z,fun a6 aj K2 h2=>hw a6 (fun x T=>(aj x T).trans (I x T)) K2 h2⟩⟩
   exact h.elim
  .
   rename_i x t e1 e2 e3
   split at h
   .
    rename_i id sz off len e ak he
    split at h
    .
     rename_i ao xs zs hg hz
     exact⟨_,s.nx,_,h.2,fun G I K' Z=>by
      have ha:∀x∈cl.args.toList,x8 G x=x8 s.env x:=fun x T=>I x (by rw[W];simp only[Op.operands,Call.operands];exact Xz.2 (.inr (Xl.1 T)));rw[e2]at ha;have T:=ha x (by simp);simp only[W,e1,e2,e3,T,ak,he,hg,hz];exact⟨h.1,Z⟩⟩
    exact h.elim
   exact h.elim
  .
   rename_i x y t t' e1 e2 e3
   split at h
   .
    rename_i id sz off len e szy ys cs ak he hs
    split at h
    .
     rename_i ao xs hg
     exact⟨_,s.nx,_,h.2,fun G I K' Z=>by
      have ha:∀x∈cl.args.toList,x8 G x=x8 s.env x:=fun x T=>I x (by rw[W];simp only[Op.operands,Call.operands];exact Xz.2 (.inr (Xl.1 T)));rw[e2]at ha;have T:=ha x (by simp);have hy:=ha y (by simp);simp only[W,e1,e2,e3,T,hy,ak,he,hs,hg];exact⟨h.1,Z⟩⟩
    exact h.elim
   .
    rename_i id off len e szy ys cs ak he hs
    split at h
    .
     rename_i xs hg
     exact⟨_,s.nx,_,h.2,fun G I K' Z=>by
      have ha:∀x∈cl.args.toList,x8 G x=x8 s.env x:=fun x T=>I x (by rw[W];simp only[Op.operands,Call.operands];exact Xz.2 (.inr (Xl.1 T)));rw[e2]at ha;have T:=ha x (by simp);have hy:=ha y (by simp);simp only[W,e1,e2,e3,T,hy,ak,he,hs,hg];exact⟨h.1,Z⟩⟩
    exact h.elim
   exact h.elim
  .
   obtain⟨H,N,R,hk,hw⟩:=h;exact⟨H,N,R,hk,fun G I K' Z=>by
    exact⟨H,N,R,Z,fun a6 aj K2 h2=>hw a6 (fun x T=>(aj x T).trans (I x T)) K2 h2⟩⟩
  . exact absurd (by assumption) (hc _ _ W)
  exact h.elim
 exact h.elim
theorem j39{nb nx nx' nt:Nat}{hp hp':Hp}{E:Nat->AV}{o:Oper}{r:AV}(hE:∀t,nt<=t->E t=.bk)
 (h:∀(env:List (Nat×AV)),(∀t,q0x env t=E t)->∀(a:Act) (w:World) (β:aI),Rel C ⟨nb,env,hp,nx,nt⟩ a w β->∀(K:Act->World->Prop) (Q:Exit->Act->World->Prop),
  (∀W w',RK C (fun s'=>s'=(⟨nb,env,hp',nx',nt⟩:St).put o.dst r) W w'->K W w')->o.wp P a w K Q):cI P C nb nx nx' nt hp hp' E o r:=by
 intro a w β T Z K Q hK;have G:∀t,q0x ((Xs nt).map fun t=>(t,E t)) t=E t:=by
  have key:∀(l:List Nat) (t:Nat),q0x (l.map fun t=>(t,E t)) t=if t∈l then E t else .bk:=by
   intro l
   induction l with
   |nil=>intro t;rfl
   |cons x l ih=>
    intro t;simp only[Xw,q0x,ih,Xf]
    by_cases hx:x=t
    . subst hx;simp
    simp[hx,Ne.symm hx]
  intro t;rw[key]
  split
  . rfl
  rename_i ht;rw[hE t (by simpa using ht)]
 have a6:Rel C ⟨nb,(Xs nt).map fun t=>(t,E t),hp,nx,nt⟩ a w β:=
  {df:=T.df,nt:=T.nt,ntc:=T.ntc,nb:=T.nb,alt:=T.alt,gs:=T.gs,hp:=T.hp,ext:=T.ext,env:=fun t=>by rw[G];exact Z t}
 refine h _ G a w β a6 K Q fun W w' hk=>?_;obtain⟨s',β',I,rfl⟩:=hk;have e1:((⟨nb,(Xs nt).map fun t=>(t,E t),hp',nx',nt⟩:St).put o.dst r).hp=hp':=by cases o.dst<;>rfl
 have e2:((⟨nb,(Xs nt).map fun t=>(t,E t),hp',nx',nt⟩:St).put o.dst r).nx=nx':=by cases o.dst<;>rfl
 have e3:((⟨nb,(Xs nt).map fun t=>(t,E t),hp',nx',nt⟩:St).put o.dst r).nb=nb:=by cases o.dst<;>rfl
 have e4:((⟨nb,(Xs nt).map fun t=>(t,E t),hp',nx',nt⟩:St).put o.dst r).nt=nt:=by cases o.dst<;>rfl
 have h2:=I.hp;have h3:=I.ext;have h4:=I.env;rw[e1,e2]at h2 h3;refine hK W w' β' {df:=I.df,nt:=by rw[I.nt,e4],ntc:=by rw[<-I.ntc,e4],nb:=by rw[I.nb,e3],alt:=I.alt,gs:=I.gs,hp:=h2,ext:=h3,env:=fun t=>by simp only[q0x,rep]} fun t=>?_;have h5:=h4 t;rw[e1,e2]at h5;have e5:q0x ((⟨nb,(Xs nt).map fun t=>(t,E t),hp',nx',nt⟩:St).put o.dst r).env t=q5u E o.dst r t:=by
  cases hd:o.dst with
  |none=>simp only[St.put,q5u,G]
  |some d=>simp only[St.put,q5u,q0x,G]
 rw[e5]at h5;exact h5
theorem z4x{s:St}{d:Option Nat}{x:AV}:(s.put d x).hp=s.hp/\(s.put d x).nx=s.nx/\(s.put d x).nb=s.nb/\(s.put d x).nt=s.nt:=by cases d<;>exact⟨rfl,rfl,rfl,rfl⟩
theorem jf7{ops:Array Oper}{o:Oper}{E:Nat->AV}{env:List (Nat×AV)}(h:∀t∈o.looksAt ops,E t=q0x env t):∀x∈o.op.operands,evF E x=x8 env x:=fun x G=>by
 cases x with
 |tmp t=>exact h t (by unfold Oper.looksAt;exact Xq _ (List.mem_filterMap.2 ⟨.tmp t,Xl.2 G,rfl⟩))
 |_=>rfl
theorem zp1{ops:Array Oper}{G:List Nat}{o:Oper}{s:St}{K:St->Prop}(h:ze7 P G o s K)(hd:dok s.nt o.dst=true):
 ∃H N R,q52 G H=q52 G s.hp/\K (({s with hp:=H,nx:=N}:St).put o.dst R)/\
  ∀(C:Ctx P) (E:Nat->AV),(∀t,s.nt<=t->E t=.bk)->(∀t∈o.looksAt ops,E t=q0x s.env t)->cI P C s.nb s.nx N s.nt s.hp H E o R:=by
 unfold ze7 at h;have T:∀{E:Nat->AV} {env:List (Nat×AV)},(∀t∈o.looksAt ops,E t=q0x s.env t)->(∀t,q0x env t=E t)->∀x∈o.op.operands,x8 env x=x8 s.env x:=fun {E env} hE I x W=>by
  have:=jf7 hE x W;rw[<-this]
  cases x with
  |tmp t=>exact I t
  |_=>rfl
 have plain:(∀c f,o.op=.call c->c.callee≠ .value f)->(∀a b c d e,o.op≠ .binOp a b c d e)->vcX P o s (j2h G s.hp K)->∃H N R,q52 G H=q52 G s.hp/\K (({s with hp:=H,nx:=N}:St).put o.dst R)/\
  ∀(C:Ctx P) (E:Nat->AV),(∀t,s.nt<=t->E t=.bk)->(∀t∈o.looksAt ops,E t=q0x s.env t)->cI P C s.nb s.nx N s.nt s.hp H E o R:=by
  intro hc hb W;obtain⟨H0,N0,R0,⟨g1,g2⟩,a6⟩:=jn8 hc hb W;refine⟨H0,N0,R0,by rw[z4x.1]at g1;exact g1,g2,fun C E hj hE=>j39 hj fun env I a w β hR K' Q Z=>?_⟩;have:=zu4 (Q:=Q) hR hd (a6 env (T hE I) (fun s'=>s'=(⟨s.nb,env,H0,N0,s.nt⟩:St).put o.dst R0) rfl);exact Oper.wp_mono (fun a' w' hk=>Z a' w' hk) this
 split at h
 .
  rename_i cl ho
  split at h
  .
   rename_i fo e1
   split at h
   .
    rename_i f ao hf
    obtain⟨⟨c1,c2,c3⟩,H,N,r,hM,g1,g2⟩:=h;refine⟨_,N,r,by rw[z4x.1]at g1;exact g1,g2,fun C E hj hE=>j39 hj fun env I a w β hR K' Q Z=>?_⟩;have aj:=T hE I;have ak:x8 env fo=x8 s.env fo:=aj fo (by rw[ho];simp[Op.operands,Call.operands,e1]);have ha:∀x∈cl.args.toList,x8 env x=x8 s.env x:=fun x W=>aj x (by rw[ho];simp only[Op.operands,Call.operands];exact Xz.2 (.inr (Xl.1 W)));have a1:cl.args.toList.map (x8 env)=cl.args.toList.map (x8 s.env):=Xt ha;have a2:(cl.args.toList.map fun x=>(x8 env x).st)=cl.args.toList.map fun x=>(x8 s.env x).st:=Xt fun x W=>by rw[ha x W]
    refine Oper.wp_mono (fun a' w' hk=>Z a' w' hk) (j41 (Q:=Q) (K:=fun s'=>s'=(⟨s.nb,env,H,N,s.nt⟩:St).put o.dst r) hR ho e1 (by rw[ak];exact hf) (by rw[ak];exact c2) (by rw[a1];exact c3) hd ?_);rw[a2];exact hM _ _ rfl rfl rfl hR.hp.nd rfl
   exact h.elim
  rename_i an
  exact plain (fun c f hc hf=>by rw[ho]at hc;cases hc;exact an f hf) (fun a b c d e hb=>by rw[ho]at hb;cases hb) h
 . exact h.elim
 rename_i h1 h2
 exact plain (fun c f hc hf=>h1 c hc) (fun a b c d e hb=>h2 _ _ _ _ _ hb) h
theorem j9o{ops:Array Oper}{I:List Nat}{o:Oper}{s:St}{K:St->Prop}(h:j2f P ops I o s K)(hd:dok s.nt o.dst=true):
 ∃H N R,q52 I H=q52 I s.hp/\K (({s with hp:=H,nx:=N}:St).put o.dst R)/\
  ∀(C:Ctx P) (E:Nat->AV),(∀t,s.nt<=t->E t=.bk)->(∀t∈o.looksAt ops,E t=q0x s.env t)->j7k P C ops s.nb s.nx N s.nt s.hp H E o R:=by
 unfold j2f at h
 split at h
 .
  rename_i hg
  obtain⟨H,N,R,g1,g2,g3⟩:=zp1 (ops:=ops) h hd;exact⟨H,N,R,g1,g2,fun C E hj hE=>(g3 C E hj hE).g hg⟩
 rename_i j an hg
 split at h
 .
  rename_i d W
  have aj:d∈o.looksAt ops:=by
   unfold Oper.looksAt;refine Xk _ ?_;rw[hg];unfold q1y at W;simp[W]
  split at h
  .
   rename_i gb Z
   cases gb with
   |true=>
    obtain⟨H,N,R,g1,g2,g3⟩:=zp1 (ops:=ops) (h.1 rfl) hd;refine⟨H,N,R,g1,g2,fun C E hj hE a w β T G K' Q hK=>?_⟩;have hw:=qt0 (ops:=ops) hg W (by rw[<-hE d aj]at Z;exact Z) (G d);rw[hw,if_pos rfl];exact g3 C E hj hE a w β T G K' Q hK
   |false=>
    refine⟨s.hp,s.nx,.v undef,rfl,?_,fun C E hj hE a w β T G K' Q hK=>?_⟩
    .
     have e:({s with hp:=s.hp,nx:=s.nx}:St).put o.dst (.v undef)=s.put o.dst (.v undef):=by cases o.dst<;>rfl
     rw[e];exact h.2 rfl
    have hw:=qt0 (ops:=ops) hg W (by rw[<-hE d aj]at Z;exact Z) (G d);rw[hw,if_neg (by simp)];have hz:(a.put o.dst undef).tmps.size=a.tmps.size:=by cases a6:o.dst<;>simp[Act.put]
    have hf:(a.put o.dst undef).defers=a.defers:=by cases a6:o.dst<;>rfl
    refine hK _ _ β {df:=by rw[hf];exact T.df,nt:=by rw[hz];exact T.nt,ntc:=T.ntc,nb:=T.nb,alt:=T.alt,gs:=T.gs,hp:=T.hp,ext:=T.ext,env:=fun t=>by simp only[q0x,rep]} fun t=>?_
    cases a6:o.dst with
    |none=>simp only[q5u,Act.put];exact G t
    |some d'=>
     simp only[q5u,Act.put];have ak:d'<a.tmps.size:=by
      rw[a6]at hd;simp only[dok,decide_eq_true_eq]at hd;rw[T.nt];exact hd
     rw[z5e _ _ _ _ _ ak]
     split
     . simp only[rep]
     exact G t
  exact h.elim
 exact h.elim
end
end
section
open Go Go.RowKit
def z3r(G:List Nat)(ev:Operand->AV):Op->Prop
 |.load _ x=>match (ev x).st with
  |.ptr id _=>id∉G
  |.apt id _ _ _=>id∉G
  |_=>True
 |.lookup _ m _ _=>match (ev m).st with
  |.mp id=>id∉G
  |_=>True
 |_=>True
section
variable {P:Program} {C:Ctx P} {s:St} {a:Act} {w:World} {β:aI}
theorem js2{G:List Nat}{hp hp':Hp}{ev:Operand->AV}{op:Op}(I:z3r G ev op)(Z:q52 G hp=q52 G hp'):qt2 P hp ev op=qt2 P hp' ev op:=by
 have T:∀id,id∉G->q0i hp id=q0i hp' id:=fun id hid=>by rw[<-z94 hid hp,Z,z94 hid hp']
 unfold qt2
 cases op
 case load t x=>
  simp only[z3r]at I;simp only[fop];unfold ze2
  cases W:(ev x).st<;>rw[W]at I<;>simp only at I⊢
  . rw[T _ I]
  rw[T _ I]
 case makeFunc f _ _=>cases f<;>rfl
 case slice _ _ _ _ m=>cases m<;>rfl
 case lookup t m k c=>
  simp only[z3r]at I
  cases c
  .
   simp only[fop];unfold zn5
   cases W:(ev m).st<;>rw[W]at I<;>simp only at I⊢
   cases z5c (ev k).st with
   |none=>rfl
   |some kv=>cases P.underlying t with
    |none=>rfl
    |some d=>cases d<;>first
     |rfl
     |simp only[T _ I]
  rfl
 all_goals rfl
theorem jm4{G:List Nat}{hp hp':Hp}{nx:Nat}{ev:Operand->AV}{op:Op}{r:AV}(I:z3r G ev op)(T:q52 G hp=q52 G hp')(h:QV P hp nx ev op r):QV P hp' nx ev op r:=by
 unfold QV at h⊢;rw[<-js2 I T];exact h
theorem jm5{ops:Array Oper}{G:List Nat}{hp hp':Hp}{nx:Nat}{E:Nat->AV}{o:Oper}{r:AV}(I:z3r G (evF E) o.op)(T:q52 G hp=q52 G hp')(h:QG P hp nx ops E o r):QG P hp' nx ops E o r:=by
 unfold QG at h⊢
 split at h
 . exact jm4 I T h
 split at h
 .
  split at h
  . obtain⟨W,Z,h2⟩:=h;exact⟨W,fun hg=>jm4 I T (Z hg),h2⟩
  exact h.elim
 exact h.elim
def z0q(P:Program)(ops:Array Oper)(T:Nat->List Nat)(G effs:List Nat)(nb nt:Nat)(env:List (Nat×AV))(r:Nat->AV)(I:Nat->Hp)(ns:Nat->Nat)(j:Nat)(o:Oper):Prop:=
 if j∈effs then q52 (T j) (I (j+1))=q52 (T j) (I j)/\∀(C:Ctx P) (E:Nat->AV),(∀t,nt<=t->E t=.bk)->(∀t∈o.looksAt ops,E t=q0x env t)->j7k P C ops nb (ns j) (ns (j+1)) nt (I j) (I (j+1)) E o (r j)
 else I (j+1)=I j/\ns (j+1)=ns j/\QG P (I j) 0 ops (q0x env) o (r j)/\(j∈G->z3r (T j) (x8 env) o.op)
theorem j14{s:St}{H:Hp}{N:Nat}{d:Option Nat}{x:AV}:({s with hp:=H,nx:=N}:St).put d x={s.put d x with hp:=H,nx:=N}:=by cases d<;>rfl
theorem zh3(r:Nat->AV):∀(l:List Oper) (k:Nat) (s:St) (H:Hp) (N:Nat),q1s l r k {s with hp:=H,nx:=N}={q1s l r k s with hp:=H,nx:=N}
 |[],_,_,_,_=>rfl
 |o::l,k,s,H,N=>by
  show q1s l r (k+1) (({s with hp:=H,nx:=N}:St).put o.dst (r k))={q1s l r (k+1) (s.put o.dst (r k))with hp:=H,nx:=N}
  rw[j14,zh3 r l (k+1)]
def q21(effs:List Nat)(listed:Array Bool):Nat->Nat
 |0=>0
 |n+1=>if n∈effs/\listed.getD n false=true then n+1 else q21 effs listed n
theorem j4k{effs:List Nat}{listed:Array Bool}{α:Type}{f:Nat->α}{j:Nat}(G:∀i,i<j->i∉effs->f (i+1)=f i)(I:∀i,i<j->i∈effs->listed.getD i false=true):∀n,n<=j->f (q21 effs listed n)=f n
 |0,_=>rfl
 |n+1,h=>by
  unfold q21
  split
  . rfl
  rename_i W
  have:n∉effs:=fun T=>W ⟨T,I n (by omega) T⟩;rw[j4k G I n (by omega),G n (by omega) this]
theorem qs5{effs:List Nat}{listed:Array Bool}{j:Nat}(T:∀i,j<=i->i∈effs->listed.getD i false=false):∀n,j<=n->q21 effs listed n=q21 effs listed j
 |0,h=>by have:j=0:=by omega
          subst this;rfl
 |n+1,h=>by
  rcases Xg n j with W|G
  . have:j=n+1:=by omega
    subst this;rfl
  have:q21 effs listed (n+1)=q21 effs listed n:=by
   rw[q21,if_neg (fun I=>by rw[T n G I.1]at I;cases I.2)]
  rw[this,qs5 T n G]
theorem zd9{effs:List Nat}{listed:Array Bool}:∀n,q21 effs listed n<=n
 |0=>Xa _
 |n+1=>by
  unfold q21
  split
  . exact Xa _
  exact Y4 (zd9 n)
end
def zn6(n:Nat)(env:List (Nat×AV)):Bool:=env.all fun p=>decide (p.1<n)
theorem z7g{n:Nat}:∀{env:List (Nat×AV)},zn6 n env=true->∀t,n<=t->q0x env t=.bk
 |[],_,_,_=>rfl
 |(k,x)::r,h,t,G=>by
  simp only[zn6,Yx,Xc,decide_eq_true_eq]at h;simp only[q0x];rw[if_neg (by omega)];exact z7g (env:=r) h.2 t G
end
section
open Go Go.RowKit
def q0g{P:Program}(C:Ctx P)(B:Nat->Prop):Ctx P:={C with A:=fun b=>C.A b\/B b}
section
variable {P:Program} {C:Ctx P} {a:Act} {w:World} {β:aI} {nb nx nt:Nat} {hp:Hp}
theorem zm2{C:Ctx P}{B:Nat->Prop}(h:∀b,¬B b):q0g C B=C:=by
 cases C;simp only[q0g];congr;funext b;apply propext;exact⟨fun G=>G.elim id (fun hb=>absurd hb (h b)),.inl⟩
theorem z7c{C:Ctx P}{B B':Nat->Prop}(h:∀b,B b↔B' b):q0g C B=q0g C B':=by
 have:B=B':=funext fun b=>propext (h b);rw[this]
theorem Rel.release{B B':Nat->Prop}{b0:Nat}{zs:List Value}{e:TypeId}(hB:∀b,B' b↔(B b\/b=b0))(h:Rel (q0g C B') ⟨nb,[],hp,nx,nt⟩ a w β)(hw:w.heap[b0]?=some (.cells ⟨zs⟩ e (0,0)))(h0:C.w0.heap.size<=b0)(b1:¬B b0)(b2:¬C.A b0):
 Rel (q0g C B) ⟨nb,[],(nx,.box (zs.map AV.v))::hp,nx+1,nt⟩ a w (upd β nx (some (b0,0)))/\
 (∀x u,rep w β nx (own β hp (q0g C B').A) x u->rep w (upd β nx (some (b0,0))) (nx+1) (own (upd β nx (some (b0,0))) ((nx,.box (zs.map AV.v))::hp) (q0g C B).A) x u)/\
 rep w (upd β nx (some (b0,0))) (nx+1) (own (upd β nx (some (b0,0))) ((nx,.box (zs.map AV.v))::hp) (q0g C B).A) (.ptr nx 0) (.pointer (some ⟨b0,0,none⟩)):=by
 have G:∀p∈hp,p.1<nx:=h.hp.lt;have ao:(q0g C B').A b0:=.inr ((hB b0).2 (.inr rfl));have aq:∀b,own (upd β nx (some (b0,0))) ((nx,bj.box (zs.map AV.v))::hp) (q0g C B).A b↔own β hp (q0g C B').A b:=by
  intro b
  constructor
  . rintro ((T|T)|⟨q,hq,W⟩)
    . exact .inl (.inl T)
    . exact .inl (.inr ((hB b).2 (.inl T)))
    rcases Xf.1 hq with rfl|hq
    . obtain⟨c,W⟩:=z4p W
      simp only[Xd,X6]at W;rw[<-W.1];exact .inl ao
    exact .inr ⟨q,hq,(z4d (G q hq)).1 W⟩
  rintro ((T|T)|⟨q,hq,W⟩)
  . exact .inl (.inl T)
  . rcases (hB b).1 T with T|rfl
    . exact .inl (.inr T)
    exact .inr ⟨_,List.mem_cons_self,.inl ⟨0,q1i _ _ _⟩⟩
  exact .inr ⟨q,List.mem_cons_of_mem _ hq,(z4d (G q hq)).2 W⟩
 have hA:aW w w (own β hp (q0g C B').A) (own (upd β nx (some (b0,0))) ((nx,.box (zs.map AV.v))::hp) (q0g C B).A):=⟨Xa _,fun b hb _=>⟨rfl,fun T=>hb ((aq b).1 T)⟩⟩;have an:∀x u,rep w β nx (own β hp (q0g C B').A) x u->rep w (upd β nx (some (b0,0))) (nx+1) (own (upd β nx (some (b0,0))) ((nx,.box (zs.map AV.v))::hp) (q0g C B).A) x u:=
  fun x u hr=>q5w hA nx (nx+1) (Y5 _) (fun id hid=>q35 _ _ _ _ hid) x u hr
 have Z:¬bu β hp b0:=fun⟨q,hq,W⟩=>h.hp.ca q hq b0 W ao;have b3:∀p∈hp,p.1≠nx:=fun p hp'=>Nat.ne_of_lt (G p hp');have a6:∀b,(q0g C B).A b->(q0g C B').A b:=fun b T=>by
  rcases T with T|T
  . exact .inl T
  exact .inr ((hB b).2 (.inl T))
 have halt:∀b,(q0g C B).A b->b<w.heap.size:=fun b hb=>h.alt b (a6 b hb);have b4:aV w (upd β nx (some (b0,0))) (nx+1) (q0g C B).A ((nx,.box (zs.map AV.v))::hp):=by
  refine⟨?_,?_,?_,?_,?_,?_,?_⟩
  . intro p hp'
    rcases Xf.1 hp' with rfl|hp'
    . exact⟨b0,0,⟨zs⟩,e,q1i _ _ _,hw,z08 _ _ _ _ _⟩
    exact q47 hA (Y5 _) (fun id hid=>q35 _ _ _ _ hid) (G p hp') (fun _ _=>rfl) (fun _=>q6c _ _ _ _ (G p hp')) (h.hp.obj p hp')
  . intro p hp'
    rcases Xf.1 hp' with rfl|hp'
    . exact Xm _
    exact Nat.lt_succ_of_lt (G p hp')
  . simp only[Xw,Yi]
    refine⟨?_,h.hp.nd⟩;intro hm;obtain⟨q,hq,he⟩:=Xo.1 hm;exact b3 q hq he
  . intro p hp1 q I b' c1 c2 h1 h2
    rcases Xf.1 hp1 with rfl|hp1<;>rcases Xf.1 I with rfl|I
    . rfl
    . rw[q1i]at h1
      rw[q35 _ _ _ _ (G q I)]at h2;simp only[Xd,X6]at h1;exact absurd (q9f I (by rw[h1.1];exact h2)) Z
    . rw[q1i]at h2
      rw[q35 _ _ _ _ (G p hp1)]at h1;simp only[Xd,X6]at h2;exact absurd (q9f hp1 (by rw[h2.1];exact h1)) Z
    rw[q35 _ _ _ _ (G p hp1)]at h1
    rw[q35 _ _ _ _ (G q I)]at h2;exact h.hp.inj p hp1 q I b' c1 c2 h1 h2
  . intro p hp1 b' c1 h1 T
    rcases Xf.1 hp1 with rfl|hp1
    . rw[q1i]at h1
      simp only[Xd,X6]at h1;rw[<-h1.1]at T;rcases T with T|T
      . exact b2 T
      exact b1 T
    rw[q35 _ _ _ _ (G p hp1)]at h1
    exact h.hp.av p hp1 b' c1 h1 (a6 _ T)
  . intro p hp1 W
    rcases Xf.1 hp1 with rfl|hp1
    . exact qg6 _ _ _
    rw[q6c _ _ _ _ (G p hp1)];exact h.hp.i0 p hp1 W
  intro p hp1 b' hb
  rcases Xf.1 hp1 with rfl|hp1
  . rw[qg6]at hb;cases hb
  rw[q6c _ _ _ _ (G p hp1)]at hb
  obtain⟨i1,i2,i3,i4⟩:=h.hp.ib p hp1 b' hb;refine⟨i1,fun T=>i2 (a6 _ T),fun q I C W=>?_,fun q I ak=>?_⟩
  . rcases Xf.1 I with rfl|I
    . rw[q1i]at W
      simp only[Xd,X6]at W;exact Z ⟨p,hp1,.inr (by rw[W.1];exact hb)⟩
    rw[q35 _ _ _ _ (G q I)]at W;exact i3 q I C W
  rcases Xf.1 I with rfl|I
  . rw[qg6]at ak;cases ak
  rw[q6c _ _ _ _ (G q I)]at ak;exact i4 q I ak
 have ar:Ext C.w0 C.β0 C.nx0 C.hp0 w (upd β nx (some (b0,0))) (nx+1) ((nx,.box (zs.map AV.v))::hp):=
  {nx:=Y4 h.ext.nx,gh:=fun id hid=>(q35 _ _ _ _ (Xi hid h.ext.nx)).trans (h.ext.gh id hid),
   gi:=fun id hid hn=>(q6c _ _ _ _ (Xi hid h.ext.nx)).trans (h.ext.gi id hid hn),
   ids:=fun p hp1=>by
    rcases Xf.1 hp1 with rfl|hp1
    . exact .inr h.ext.nx
    exact h.ext.ids p hp1,
   blk:=fun p hp1 b aj=>by
    rcases Xf.1 hp1 with rfl|hp1
    . obtain⟨c,aj⟩:=z4p aj
      simp only[Xd,X6]at aj;rw[<-aj.1];exact .inr h0
    exact h.ext.blk p hp1 b ((z4d (G p hp1)).1 aj),
   os:=h.ext.os,tape:=h.ext.tape,output:=h.ext.output,size:=h.ext.size,keep:=h.ext.keep}
 refine⟨{df:=h.df,nt:=h.nt,ntc:=h.ntc,nb:=h.nb,alt:=halt,gs:=h.gs,env:=fun t=>by simp only[q0x,rep],hp:=b4,ext:=ar},an,?_⟩;simp only[rep];exact⟨Xm _,b0,0,q1i _ _ _,rfl⟩
structure Aside{P:Program}(C:Ctx P)(F:List Nat)(d:Nat->Nat)(zs:Nat->List Value)(listed:Array Bool)(a:Act)(w:World)(blk:Nat->Nat):Prop where
 tmp:∀f∈F,listed.getD f false=true->a.tmps.getD (d f) undef=.pointer (some ⟨blk f,0,none⟩)
 cell:∀f∈F,listed.getD f false=true->∃e,w.heap[blk f]?=some (.cells ⟨zs f⟩ e (0,0))
 new:∀f∈F,listed.getD f false=true->C.w0.heap.size<=blk f/\¬C.A (blk f)
 inj:∀f∈F,∀g∈F,listed.getD f false=true->listed.getD g false=true->blk f=blk g->f=g
def qa5(F:List Nat)(listed:Array Bool)(blk:Nat->Nat)(b:Nat):Prop:=∃f∈F,listed.getD f false=true/\blk f=b
def z6d(zs:Nat->List Value):List Nat->Nat->Hp->Hp
 |[],_,hp=>hp
 |f::r,nx,hp=>z6d zs r (nx+1) ((nx,.box (zs f |>.map AV.v))::hp)
def cR(d:Nat->Nat):List Nat->Nat->(Nat->AV)->Nat->AV
 |[],_,E=>E
 |f::r,nx,E=>cR d r (nx+1) (q5u E (some (d f)) (.ptr nx 0))
theorem Rel.bS{d:Nat->Nat}{zs:Nat->List Value}{blk:Nat->Nat}:∀(F:List Nat) (hp:Hp) (nx:Nat) (β:aI) (E:Nat->AV),F.Nodup->
 (∀f∈F,a.tmps.getD (d f) undef=.pointer (some ⟨blk f,0,none⟩))->(∀f∈F,∃e,w.heap[blk f]?=some (.cells ⟨zs f⟩ e (0,0)))->(∀f∈F,C.w0.heap.size<=blk f/\¬C.A (blk f))->(∀f∈F,∀g∈F,blk f=blk g->f=g)->
 Rel (q0g C fun b=>∃f∈F,blk f=b) ⟨nb,[],hp,nx,nt⟩ a w β->(∀t,rep w β nx (own β hp (q0g C fun b=>∃f∈F,blk f=b).A) (E t) (a.tmps.getD t undef))->
 ∃β',Rel C ⟨nb,[],z6d zs F nx hp,nx+F.length,nt⟩ a w β'/\∀t,rep w β' (nx+F.length) (own β' (z6d zs F nx hp) C.A) (cR d F nx E t) (a.tmps.getD t undef)
 |[],hp,nx,β,E,_,_,_,_,_,I,T=>by
  have:(q0g C fun b=>∃f∈([]:List Nat),blk f=b)=C:=zm2 fun b=>by simp
  rw[this]at I T;exact⟨β,I,T⟩
 |f::F,hp,nx,β,E,W,h1,h2,Z,h4,I,T=>by
  simp only[Yi]at W;obtain⟨e,he⟩:=h2 f (by simp);obtain⟨r1,r2,r3⟩:=Rel.release (B:=fun b=>∃g∈F,blk g=b) (B':=fun b=>∃g∈f::F,blk g=b) (b0:=blk f) (fun b=>by
   constructor
   .
    rintro⟨g,G,hb⟩;rcases Xf.1 G with rfl|G
    . exact .inr hb.symm
    exact .inl ⟨g,G,hb⟩
   rintro (⟨g,G,hb⟩|rfl)
   . exact⟨g,by simp[G],hb⟩
   . exact⟨f,by simp,rfl⟩) I he (Z f (by simp)).1 (fun⟨g,G,hb⟩=>by
   have:=h4 g (by simp[G]) f (by simp) hb;subst this;exact W.1 G) (Z f (by simp)).2
  have:=Rel.bS F _ (nx+1) _ (q5u E (some (d f)) (.ptr nx 0)) W.2 (fun g G=>h1 g (by simp[G])) (fun g G=>h2 g (by simp[G])) (fun g G=>Z g (by simp[G])) (fun g G g' a6=>h4 g (by simp[G]) g' (by simp[a6])) r1 (fun t=>by
   simp only[q5u]
   split
   .
    rename_i hd
    subst hd;rw[h1 f (by simp)];exact r3
   exact r2 _ _ (T t))
  simp only[z6d,cR,Yf];rw[show nx+(F.length+1)=nx+1+F.length by omega];exact this
end
end
section
open Go Go.RowKit
section
variable {P:Program} {C:Ctx P} {nb nt:Nat}
theorem ju4{ops:Array Oper}{hp:Hp}{nx:Nat}{a:Act}{w:World}{β:aI}{E:Nat->AV}{I:Oper}{r:AV}(hR:Rel C ⟨nb,[],hp,nx,nt⟩ a w β)(hE:∀t,rep w β nx (own β hp C.A) (E t) (a.tmps.getD t undef))(G:QG P hp nx ops E I r)
 {K:Act->World->Prop}{Q:Exit->Act->World->Prop}(W:∀v w',bD w w'->rep w' β nx (own β hp C.A) r v->K (a.put I.dst v) w'):if Region.wanted I (yielded ops a.tmps)then I.wp P a w K Q else K (a.put I.dst undef) w:=by
 have T:∀x,rep w β nx (own β hp C.A) (evF E x) (a.eval x):=fun x=>by
  cases x with
  |tmp t=>exact hE t
  |const v=>simp only[evF,rep,Act.eval]
  |global g=>simp only[evF,rep,Act.eval]
  |func f=>simp only[evF,rep,Act.eval];exact⟨[],rfl,by simp[y9]⟩
 unfold QG at G
 split at G
 .
  rename_i Z
  rw[if_pos (by simp[Region.wanted,Z])];exact z9m hR T G W
 rename_i g ak Z
 split at G
 .
  rename_i d hd
  split at G
  .
   rename_i gb a6
   obtain⟨r0,h1,h2⟩:=G;have hw:=qt0 Z hd a6 (hE d);rw[hw]
   cases gb with
   |true=>
    rw[if_pos rfl];exact z9m hR T (h1 rfl) fun v w' aj hv=>W v w' aj (by rw[h2];exact z4v hv)
   |false=>
    rw[if_neg (by simp)];exact W undef w (bD.refl w) (by rw[h2];exact z3c)
  exact G.elim
 exact G.elim
theorem zz9{ops:Array Oper}{k:Nat}{r E0:Nat->AV}{Ej:Nat->Nat->AV}(cp:z8e ops=true)(ht:z2p ops k=true)(c5:k<=ops.size)(d0:∀j,j<k->bp ops r E0 (· <j) (Ej j))
 (stop:Array Bool->Prop)(S:Array Bool->Act->World->(Nat->AV)->Prop){Q:Exit->Act->World->Prop}(b5:∀listed,(∀i,i<k->listed.getD i false=true)->stop listed)
 (hs:∀listed j oj a w E,listed.size=ops.size->j<k->ops[j]?=some oj->qh2 ops k listed->¬stop listed->qs2 oj j listed->S listed a w E->(∀t∈oj.looksAt ops,E t=Ej j t)->∀K:Act->World->Prop,
  (∀a' w',S (listed.setIfInBounds j true) a' w' (q5u E oj.dst (r j))->K a' w')->if Region.wanted oj (yielded ops a.tmps)then oj.wp P a w K Q else K (a.put oj.dst undef) w)
 (aq:∀T listed a w E,listed.size=ops.size->((Xs ops.size).filter fun i=>!listed.getD i true).length<=T->qh2 ops k listed->stop listed->S listed a w E->bp ops r E0 (fun i=>listed.getD i false=true) E->wpAny P .any ops Q T listed a w):
 ∀(T:Nat) (listed:Array Bool) (a:Act) (w:World) (E:Nat->AV),listed.size=ops.size->((Xs ops.size).filter fun i=>!listed.getD i true).length<=T->
  qh2 ops k listed->S listed a w E->bp ops r E0 (fun i=>listed.getD i false=true) E->wpAny P .any ops Q T listed a w:=by
 obtain⟨b6,c6⟩:=z2o cp;have d1:=z6v ht;intro T
 induction T with
 |zero=>
  intro listed a w E ar b1 aj hS hI;refine aq 0 listed a w E ar b1 aj (b5 listed fun i hi=>?_) hS hI;have d2:i<listed.size:=by omega
  cases hx:listed.getD i false with
  |true=>rfl
  |false=>
   have:i∈(Xs ops.size).filter fun i=>!listed.getD i true:=List.mem_filter.2 ⟨X5.2 (by omega),by
    simp only[Xb,Xh d2,Xp]at hx⊢;simp[hx]⟩
   have:=List.length_pos_of_mem this;omega
 |succ T ih=>
  intro listed a w E ar b1 aj hS hI
  by_cases ao:stop listed
  . exact aq _ listed a w E ar b1 aj ao hS hI
  have bv:∃i,i<k/\listed.getD i false=false:=Classical.byContradiction fun hn=>ao (b5 listed fun i hi=>by
   cases hx:listed.getD i false with
   |true=>rfl
   |false=>exact absurd ⟨i,hi,hx⟩ hn)
  obtain⟨i0,c7,bi⟩:=bv;refine⟨fun d3=>?_,fun j hj=>?_⟩
  .
   exfalso
   have c0:∀n i,i<n->i<k->listed.getD i false=true:=by
    intro n
    induction n with
    |zero=>intro i hi;omega
    |succ n c8=>
     intro i hi c9;rcases Xg i n with d4|ds
     . exact c8 i d4 c9
     have d5:i=n:=by omega
     subst d5;have b2:i<ops.size:=by omega
     by_cases hl:listed.getD i false=true
     . exact hl
     exfalso
     have G:ops[i]?=some ops[i]:=Xh b2;have:i∈Region.ready .any ops listed:=mem_ready.2 ⟨by
      have d6:i<listed.size:=by omega
      simp only[Array.getD_eq_getD_getElem?,Array.getElem?_eq_getElem d6,Option.getD_some]at hl⊢
      simpa using hl,ops[i],G,fun e he hb=>c8 e.on (b6 i _ G e he hb) (Nat.lt_trans (b6 i _ G e he hb) c9)⟩
     rw[d3]at this
     cases this
   have:=c0 k i0 c7 c7;rw[bi]at this
   cases this
  obtain⟨c1,oj,ak,Z⟩:=mem_ready.1 hj;have b3:j<ops.size:=(Xx.1 ak).1;have cb:j<listed.size:=by omega
  have c2:¬listed.getD j false=true:=by
   simp only[Xb,Xh cb,Xp]at c1⊢;simp[c1]
  have b4:j<k:=by
   rcases Xg j k with h|h
   . exact h
   exfalso
   have:=q9u (listed:=fun i=>listed.getD i false=true) (fun i oi G W=>(aj i oi G W).2) ops.size j i0 oj ak Z (d1 j b3 h i0 (by omega));rw[bi]at this
   cases this
  have cc:qs2 oj j listed:=⟨by simpa using c2,Z⟩;have cd:q1y ops j=oj.dst:=by simp[q1y,ak]
  have d7:∀i oi,i<j->ops[i]?=some oi->¬listed.getD i false=true->oi.apart ops oj=true:=fun i oi an G W=>c6 i j oi oj an G ak fun e he hb heq=>W (by rw[<-heq];exact Z e he hb);have cl:∀i oi,j<i->ops[i]?=some oi->listed.getD i false=true->oj.apart ops oi=true:=fun i oi an G W=>c6 j i oj oi an ak G fun e he hb heq=>c2 (by rw[<-heq];exact (aj i oi G W).2 e he hb);have d8:∀t∈oj.looksAt ops,E t=Ej j t:=hI.agree (d0 j b4) b3 c2
   (fun i an W d hd=>by
    have b2:i<ops.size:=Nat.lt_trans an b3;have G:ops[i]?=some ops[i]:=Xh b2;exact (Oper.apart_spec (d7 i _ an G W)).1 d (by simpa [q1y,G]using hd))
   (fun i an b2 W d hd=>by
    have G:ops[i]?=some ops[i]:=Xh b2;exact (Oper.apart_spec (cl i _ an G W)).2.2 d (by simpa [q1y,G]using hd))
  have c3:=hI.step b3 fun k' b4 c5 dc d hd dd=>by
   have bs:ops[k']?=some ops[k']:=Xh c5;exact (Oper.apart_spec (cl k' _ b4 bs dc)).2.1 d (by rw[<-cd];exact hd) (by simpa [q1y,bs]using dd)
  have I:∀(i:Nat) (b:Bool),(listed.setIfInBounds j true).getD i b=if j=i then true else listed.getD i b:=fun i b=>by
   by_cases a6:j=i
   . subst a6;rw[if_pos rfl];simp[cb]
   rw[if_neg a6];simp[a6]
  have c4:∀a' w',S (listed.setIfInBounds j true) a' w' (q5u E oj.dst (r j))->wpAny P .any ops Q T (listed.setIfInBounds j true) a' w':=by
   intro a' w' dk;refine ih _ a' w' (q5u E (q1y ops j) (r j)) (by simpa using ar) ?_ ?_ (by rw[cd];exact dk) ?_
   . have:=z9e (p:=fun i=>!listed.getD i true) (q:=fun i=>!(listed.setIfInBounds j true).getD i true) (x:=j) Y6 (X5.2 b3) (by simp only[c1];rfl) (by simp only[I,if_true];rfl) (fun y hy=>by simp only[I,if_neg (Ne.symm hy)]);omega
   .
    intro i oi G W;rw[I]at W
    by_cases a6:j=i
    .
     subst a6;rw[ak]at G;simp only[Xd]at G;subst G;refine⟨b4,fun e he hb=>?_⟩;rw[I]
     split
     . rfl
     exact Z e he hb
    rw[if_neg a6]at W;refine⟨(aj i oi G W).1,fun e he hb=>?_⟩;rw[I]
    split
    . rfl
    exact (aj i oi G W).2 e he hb
   refine c3.iff fun i _=>?_;rw[I]
   constructor
   .
    rintro (h1|h1)
    .
     split
     . rfl
     exact h1
    rw[if_pos h1.symm]
   intro h1
   by_cases a6:j=i
   . exact .inr a6.symm
   rw[if_neg a6]at h1;exact .inl h1
  unfold wpOp;rw[ak];simp only;have:=hs listed j oj a w E ar b4 ak aj ao cc hS d8 _ c4
  split at this
  .
   rename_i hw
   rw[if_pos hw];exact .inl this
  rename_i hw
  rw[if_neg hw];exact this
end
end
section
open Go Go.RowKit
def vcA(P:Program)(ops:Array Oper)(T:Nat->List Nat)(I effs G:List Nat):List Oper->Nat->St->(St->Prop)->Prop
 |[],_,s,K=>K s
 |o::r,j,s,K=>if j∈G then (o.guard=none/\s.nx∈T j)/\match o.op with
  |.alloc e=>match q1w P e with
   |some zs=>vcA P ops T I effs G r (j+1) (({s with hp:=(s.nx,.box (zs.map AV.v))::s.hp,nx:=s.nx+1}:St).put o.dst (.ptr s.nx 0)) K
   |none=>False
  |_=>False
  else if j∈effs then j2f P ops (T j) o s fun s'=>vcA P ops T I effs G r (j+1) s' K
  else (j∈I->z3r (T j) (x8 s.env) o.op)/\qG P ops s o fun x=>vcA P ops T I effs G r (j+1) (s.put o.dst x) K
section
variable {P:Program} {C:Ctx P} {s:St} {a:Act} {w:World} {β:aI}
def q1x(P:Program)(ops:Array Oper)(T:Nat->List Nat)(I effs G:List Nat)(nb nt:Nat)(env:List (Nat×AV))(r:Nat->AV)(W:Nat->Hp)(ns:Nat->Nat)(j:Nat)(o:Oper):Prop:=
 if j∈G then (o.guard=none/\ns j∈T j)/\∃e zs,o.op=.alloc e/\q1w P e=some zs/\r j=.ptr (ns j) 0/\W (j+1)=(ns j,.box (zs.map AV.v))::W j/\ns (j+1)=ns j+1
 else z0q P ops T I effs nb nt env r W ns j o
theorem j0j{ops:Array Oper}{T:Nat->List Nat}{I effs G:List Nat}{K:St->Prop}:∀(l:List Oper) (k:Nat) (s:St),z2j s.nt l=true->vcA P ops T I effs G l k s K->
 ∃(r:Nat->AV) (hs:Nat->Hp) (ns:Nat->Nat),hs k=s.hp/\ns k=s.nx/\(∀j o,l[j]?=some o->q1x P ops T I effs G s.nb s.nt (q1s (l.take j) r k s).env r hs ns (k+j) o)/\
  K {q1s l r k s with hp:=hs (k+l.length),nx:=ns (k+l.length)}
 |[],k,s,_,h=>⟨fun _=> .bk,fun _=>s.hp,fun _=>s.nx,rfl,rfl,by simp,h⟩
 |o::l,k,s,ak,h=>by
  simp only[z2j,Yx,Xc]at ak;have key:∀(x:AV) (H:Hp) (N:Nat),q1x P ops T I effs G s.nb s.nt s.env (fun _=>x) (fun i=>if i=k then s.hp else H) (fun i=>if i=k then s.nx else N) k o->
   vcA P ops T I effs G l (k+1) ({s.put o.dst x with hp:=H,nx:=N}) K->
   ∃(r:Nat->AV) (hs:Nat->Hp) (ns:Nat->Nat),hs k=s.hp/\ns k=s.nx/\(∀j o',(o::l)[j]?=some o'->q1x P ops T I effs G s.nb s.nt (q1s ((o::l).take j) r k s).env r hs ns (k+j) o')/\
    K {q1s (o::l) r k s with hp:=hs (k+(o::l).length),nx:=ns (k+(o::l).length)}:=by
   intro x H N W hv;obtain⟨r,hs,ns,e1,e2,e3,e4⟩:=j0j l (k+1) _ (by show z2j (s.put o.dst x).nt l=true;rw[z4x.2.2.2];exact ak.2) hv
   let r':Nat->AV:=fun i=>if i=k then x else r i
   let a6:Nat->Hp:=fun i=>if i=k then s.hp else hs i
   let aj:Nat->Nat:=fun i=>if i=k then s.nx else ns i
   have ao:∀(l:List Oper) (m:Nat) (s:St),k<m->q1s l r' m s=q1s l r m s:=by
    intro l
    induction l with
    |nil=>intro m s _;rfl
    |cons o' l ih=>
     intro m s hm;simp only[q1s];have:r' m=r m:=by simp only[r'];rw[if_neg (by omega)]
     rw[this,ih (m+1) _ (by omega)]
   have an:r' k=x:=by simp[r']
   have gh:∀i,k<i->a6 i=hs i:=fun i hi=>by simp only[a6];rw[if_neg (by omega)]
   have gn:∀i,k<i->aj i=ns i:=fun i hi=>by simp only[aj];rw[if_neg (by omega)]
   have gr:∀i,k<i->r' i=r i:=fun i hi=>by simp only[r'];rw[if_neg (by omega)]
   refine⟨r',a6,aj,by simp[a6],by simp[aj],?_,?_⟩
   .
    intro j o' hj
    cases j with
    |zero=>
     simp only[List.getElem?_cons_zero,Xd]at hj;subst hj;simp only[List.take_zero,q1s,Nat.add_zero];unfold q1x z0q at W⊢;have Z:¬(k+1=k):=Yg k;simp only[if_neg Z,if_true]at W;rw[gh (k+1) (by omega),gn (k+1) (by omega),e1,e2,an];simp only[a6,aj,if_true];exact W
    |succ j=>
     have:=e3 j o' (by simpa using hj);rw[zh3]at this;simp only[List.take_succ_cons,q1s,an,ao _ (k+1) _ (Xm k)];rw[z4x.2.2.1,z4x.2.2.2]at this;rw[show k+(j+1)=k+1+j by omega];unfold q1x z0q at this⊢;rw[gh _ (by omega),gh _ (by omega),gn _ (by omega),gn _ (by omega),gr _ (by omega)];exact this
   rw[zh3]at e4;simp only[q1s,an,ao _ (k+1) _ (Xm k),Yf];rw[show k+(l.length+1)=k+1+l.length by omega,gh _ (by omega),gn _ (by omega)];exact e4
  unfold vcA at h
  split at h
  .
   rename_i hj
   obtain⟨⟨g1,g2⟩,g3⟩:=h
   split at g3
   .
    rename_i e ho
    split at g3
    .
     rename_i zs hz
     refine key (.ptr s.nx 0) ((s.nx,.box (zs.map AV.v))::s.hp) (s.nx+1) ?_ (by rw[j14]at g3;exact g3);have Z:¬(k+1=k):=Yg k;unfold q1x;rw[if_pos hj];simp only[if_neg Z,if_true];exact⟨⟨g1,g2⟩,e,zs,ho,hz,by trivial,by trivial,by trivial⟩
    exact g3.elim
   exact g3.elim
  rename_i aq
  split at h
  .
   rename_i hj
   obtain⟨H,N,R,g1,g2,g4⟩:=j9o (ops:=ops) h ak.1;refine key R H N ?_ (by rw[j14]at g2;exact g2);have Z:¬(k+1=k):=Yg k;unfold q1x z0q;rw[if_neg aq,if_pos hj];simp only[if_neg Z,if_true];exact⟨g1,fun C E h1 h2=>g4 C E h1 h2⟩
  rename_i hj
  obtain⟨x,h1,h2⟩:=j4i h.2;refine key x s.hp s.nx ?_ ?_
  . have Z:¬(k+1=k):=Yg k;unfold q1x z0q;rw[if_neg aq,if_neg hj];simp only[if_neg Z,if_true];exact⟨trivial,trivial,h1,h.1⟩
  have e:({s.put o.dst x with hp:=s.hp,nx:=s.nx}:St)=s.put o.dst x:=by cases o.dst<;>rfl
  rw[e];exact h2
end
def zt8(ops:Array Oper)(anc:Nat->Nat->Bool)(k p q:Nat)(I pre effs G:List Nat):Bool:=
 effs.all (fun e=>decide (q<=e)&&decide (e<k))&&G.all (fun f=>decide (p<=f)&&decide (f<q))&&decide (q<=k)&&decide (p<=q)&&pre.all (fun e=>decide (e<p))&&(Xs k).all fun j=>
  if G.contains j then (match q1y ops j with
   |some d=>(Xs k).all fun i=>i==j||(!(q1y ops i==some d)&&(G.contains i||(G.all (fun f=>anc i f)&&pre.all (fun e=>anc i e))||match ops[i]? with|some o=>!(o.looksAt ops).contains d|none=>false))
   |none=>false)
  else if pre.contains j then pre.all fun e=>e==j||(if e<j then anc j e else anc e j)
  else (I.contains j&&!effs.contains j)||(G.all (fun f=>anc j f)&&pre.all (fun e=>anc j e)&&effs.all fun e=>e==j||(if e<j then anc j e else anc e j))
theorem zl8{zs:Nat->List Value}{f:Nat}:∀(l:List Nat) (nx:Nat) (hp:Hp),z6d zs (l++[f]) nx hp=(nx+l.length,.box (zs f |>.map AV.v))::z6d zs l nx hp
 |[],nx,hp=>rfl
 |g::l,nx,hp=>by
  simp only[Yr,z6d,zl8 l,Yf];rw[show nx+1+l.length=nx+(l.length+1) by omega]
theorem zw4{d:Nat->Nat}{f:Nat}:∀(l:List Nat) (nx:Nat) (E:Nat->AV),cR d (l++[f]) nx E=q5u (cR d l nx E) (some (d f)) (.ptr (nx+l.length) 0)
 |[],nx,E=>rfl
 |g::l,nx,E=>by
  simp only[Yr,cR,zw4 l,Yf];rw[show nx+1+l.length=nx+(l.length+1) by omega]
theorem Oper.dx{P:Program}{o:Oper}{a:Act}{w:World}{K:Act->World->Prop}{Q:Exit->Act->World->Prop}(h:o.wp P a w (fun T w'=>(∃v,T.tmps=(a.put o.dst v).tmps)->K T w') Q):o.wp P a w K Q:=by
 unfold Oper.wp at*
 cases W:(execOp a.eval o).run P w with
 |ok x w'=>
  rw[W]at h
  cases x with
  |value v=>exact h ⟨v,rfl⟩
  |skip=>exact h ⟨undef,rfl⟩
  |defer d=>exact h ⟨undef,by cases o.dst<;>rfl⟩
  |enter f args=>
   refine Calls.mono h fun e I G=>?_
   cases e with
   |returned v=>exact G ⟨v,rfl⟩
   |panicked c=>exact G
   |outgrown=>exact G
  |row Z args=>exact Rows.mono h fun v I G=>G ⟨v,rfl⟩
  |_=>exact h
 |halt x w'=>
  rw[W]at h
  cases x<;>exact h
theorem jg3{P:Program}{o:Oper}{a:Act}{w:World}{b:Bool}{K:Act->World->Prop}{Q:Exit->Act->World->Prop}(h:if b=true then o.wp P a w (fun G w'=>(∃v,G.tmps=(a.put o.dst v).tmps)->K G w') Q else (∃v,(a.put o.dst undef).tmps=(a.put o.dst v).tmps)->K (a.put o.dst undef) w):if b=true then o.wp P a w K Q else K (a.put o.dst undef) w:=by
 split at h
 . rename_i hb;rw[if_pos hb];exact Oper.dx h
 rename_i hb;rw[if_neg hb];exact h ⟨undef,rfl⟩
theorem Ext.then{w0 w w':World}{β0 β β':aI}{nx0 nx nx':Nat}{hp0 hp hp':Hp}(h:Ext w0 β0 nx0 hp0 w β nx hp)(G:Ext w β nx0 hp w' β' nx' hp'):Ext w0 β0 nx0 hp0 w' β' nx' hp':=by
 have hb:∀b,bu β hp b->bu β0 hp0 b\/w0.heap.size<=b:=fun b ⟨x,T,hc⟩=>h.blk x T b hc;refine {nx:=G.nx,gh:=fun id hid=>(G.gh id hid).trans (h.gh id hid),gi:=fun id hid W=>(G.gi id hid fun hm=>?_).trans (h.gi id hid W),ids:=fun x T=>?_,blk:=fun x T b hc=>?_,os:=G.os.trans h.os,tape:=G.tape.trans h.tape,output:=⟨G.output.1.trans h.output.1,fun k=>Yj (h.output.2 k) (G.output.2 k)⟩,size:=Yj h.size G.size,keep:=fun b Z W=>?_}
 .
  obtain⟨y,hy,e⟩:=Xo.1 hm;rcases h.ids y hy with I|I
  . exact W (e▸I)
  omega
 .
  rcases G.ids x T with I|I
  . obtain⟨y,hy,e⟩:=Xo.1 I;rw[<-e];exact h.ids y hy
  exact .inr I
 .
  rcases G.blk x T b hc with I|I
  . exact hb b I
  exact .inr (Yj h.size I)
 rw[G.keep b (Xi Z h.size) (fun T=>(hb b T).elim W (fun I=>by omega)),h.keep b Z W]
def tOk(anc:Nat->Nat->Bool)(T:Nat->List Nat)(I pre effs G:List Nat):Bool:=
 I.all fun j=>(G.all fun f=>(T f).all fun x=>decide (x∈T j))&&(pre++effs).all fun e=>e==j||(if e<j then anc j e else anc e j)||(T e).all fun x=>decide (x∈T j)
theorem z6f{G I:List Nat}(h:∀x∈G,x∈I):∀(hp:Hp),q52 I (q52 G hp)=q52 I hp
 |[]=>rfl
 |(k,o)::r=>by
  simp only[q52]
  by_cases T:k∈G
  . rw[if_pos T,if_pos (h k T),z6f h r]
  rw[if_neg T];simp only[q52];rw[z6f h r]
theorem je9{G I:List Nat}{hp hp':Hp}(h:∀x∈G,x∈I)(T:q52 G hp=q52 G hp'):q52 I hp=q52 I hp':=by rw[<-z6f h hp,T,z6f h hp']
theorem za7{effs:List Nat}{listed:Array Bool}:∀n,q21 effs listed n=0\/(q21 effs listed n-1∈effs/\listed.getD (q21 effs listed n-1) false=true/\0<q21 effs listed n)
 |0=> .inl rfl
 |n+1=>by
  unfold q21
  split
  . rename_i h;exact .inr ⟨h.1,h.2,Nat.succ_pos _⟩
  exact za7 n
theorem z8w{effs:List Nat}{listed:Array Bool}:∀n m,q21 effs listed n<=m->m<n->m∈effs->listed.getD m false=false
 |0,m,_,h,_=>absurd h (X8 _)
 |n+1,m,G,h2,I=>by
  unfold q21 at G
  split at G
  . omega
  rename_i W
  rcases Xg m n with T|T
  . exact z8w n m G T I
  have:m=n:=by omega
  subst this
  cases Z:listed.getD m false with
  |false=>rfl
  |true=>exact absurd ⟨I,Z⟩ W
theorem ji0{P:Program}{ops:Array Oper}{s:St}{K:St->Prop}(k p q:Nat)(ms:List Nat)(T:Nat->List Nat)(c8 pre effs G:List Nat)(fs:tOk (fun i j=>(ms.getD i 0).testBit j) T c8 pre effs G=true)(hm:P.follows .mixedOrders=true)(eZ:qy3 ms 0 ops.toList=true)(hk:k<=ops.size)(ft:zd5 ms ops.size k=true)(hc:zt8 ops (fun i j=>(ms.getD i 0).testBit j) k p q c8 pre effs G=true)(eb:zn6 s.nt s.env=true)
 (h:vcA P ops T c8 (pre++effs) G (ops.toList.take k) 0 s fun s'=>qk3 P ops (ops.toList.drop k) s' K):z2n P ops s K:=by
 intro id f0 C a w β hR Q' hQ;simp only[okB,Xc,Bool.not_true,Bool.false_or]at f0;obtain⟨dQ,dJ⟩:=f0;have eL:z2j s.nt (ops.toList.take k)=true:=Xe.2 fun o ho=>Xe.1 dQ o (List.mem_of_mem_take ho);obtain⟨r,hs,ns,z1,z2,e6,hK⟩:=j0j (ops.toList.take k) 0 s eL h;have f1:(ops.toList.take k).length=k:=by rw[Ys];simp;omega
 rw[f1,Nat.zero_add]at hK;have ht:=j0o eZ ft;have bi:∀i j,i<k->(ms.getD i 0).testBit j=true->q4b ops ops.size i j=true:=fun i j hi=>j1k eZ i j (by omega);simp only[zt8,Xc,Xe,decide_eq_true_eq,X5]at hc;obtain⟨⟨⟨⟨⟨c9,eH⟩,dT⟩,fv⟩,b6⟩,eM⟩:=hc;have d0:∀f∈G,f<q:=fun f I=>(eH f I).2;have ec:∀f∈G,p<=f:=fun f I=>(eH f I).1;have f4:∀e∈pre,e∉G:=fun e he ha=>by have:=b6 e he;have:=ec e ha;omega
 have f5:∀e∈pre,e∉effs:=fun e he ha=>by have:=b6 e he;have:=(c9 e ha).1;omega
 have bs:∀j (hj:j<k),ops[j]?=some (ops[j]'(Xi hj hk)):=fun j hj=>Xh (Xi hj hk);have cb:∀j oj,j<k->ops[j]?=some oj->q1x P ops T c8 (pre++effs) G s.nb s.nt (q1s (ops.toList.take j) r 0 s).env r hs ns j oj:=fun j oj hj ho=>by
  have:=e6 j oj (by rw[Y0,if_pos hj];simpa using ho);rw[Nat.zero_add,List.take_take,Nat.min_eq_left (by omega)]at this;exact this
 have dU:∀f,f∈G->∃d,q1y ops f=some d/\∀i,i<k->i≠f->q1y ops i≠some d/\(i∈G\/((∀g∈G,q4b ops ops.size i g=true)/\∀g∈pre,q4b ops ops.size i g=true)\/∀o,ops[i]?=some o->d∉o.looksAt ops):=by
  intro f I;have:=eM f (Xi (d0 f I) dT);rw[if_pos (by simpa using I)]at this
  split at this
  . rename_i d hd
    refine⟨d,hd,fun i hi ar=>?_⟩;have:=Xe.1 this i (X5.2 hi);simp only[Xv,beq_iff_eq,Xc,Ye,beq_eq_false_iff_ne,Yv,Xe]at this;rcases this with h1|⟨h1,h2⟩
    . exact absurd h1 ar
    refine⟨h1,?_⟩
    rcases h2 with (h2|h2)|h2
    . exact .inl h2
    . exact .inr (.inl ⟨fun g hg=>bi _ _ hi (h2.1 g hg),fun g hg=>bi _ _ hi (h2.2 g hg)⟩)
    refine .inr (.inr fun o ho=>?_)
    rw[ho]at h2
    simpa using h2
  cases this
 have ee:∀j,j<k->j∉G->j∉pre->(j∈c8/\j∉effs)\/((∀f∈G,q4b ops ops.size j f=true)/\(∀f∈pre,q4b ops ops.size j f=true)/\∀e∈effs,e≠j->(if e<j then q4b ops ops.size j e else q4b ops ops.size e j)=true):=by
  intro j hj c6 d3;have:=eM j hj;rw[if_neg (by simpa using c6),if_neg (by simpa using d3)]at this;simp only[Xv,Xc,Ye,Xe,beq_iff_eq]at this;rcases this with⟨h1,h2⟩|⟨⟨h1,h0⟩,h2⟩
  . exact .inl ⟨by simpa using h1,by simpa using h2⟩
  refine .inr ⟨fun f I=>bi _ _ hj (h1 f I),fun f I=>bi _ _ hj (h0 f I),fun e he ar=>?_⟩
  rcases h2 e he with h3|h3
  . exact absurd h3 ar
  split at h3
  . rename_i c5
    rw[if_pos c5];exact bi _ _ hj h3
  rename_i c5
  rw[if_neg c5];exact bi _ _ (c9 e he).2 h3
 have eN:∀j∈pre,∀e∈pre,e≠j->(if e<j then q4b ops ops.size j e else q4b ops ops.size e j)=true:=by
  intro j cc e he ar;have d4:j<k:=by have:=b6 j cc;omega
  have:=eM j d4;rw[if_neg (by simpa using f4 j cc),if_pos (by simpa using cc)]at this;simp only[Xv,Xe,beq_iff_eq]at this;rcases this e he with h3|h3
  . exact absurd h3 ar
  split at h3
  . rename_i c5
    rw[if_pos c5];exact bi _ _ d4 h3
  rename_i c5
  rw[if_neg c5];exact bi _ _ (by have:=b6 e he;omega) h3
 have cl:∀i,i<k->i∉pre->i∉effs->i∉G->hs (i+1)=hs i/\ns (i+1)=ns i:=fun i hi d3 ar c6=>by
  have:=cb i _ hi (bs i hi);unfold q1x z0q at this;rw[if_neg c6,if_neg (fun hx=>(Xj.1 hx).elim d3 ar)]at this;exact⟨this.1,this.2.1⟩
 have dK:∀(t:List Nat) (a b:Nat),a<=b->b<=k->(∀m,a<=m->m<b->m∈pre++effs\/m∈G->∀x∈T m,x∈t)->q52 t (hs b)=q52 t (hs a):=by
  intro t a b
  induction b with
  |zero=>intro h1 _ _;have:a=0:=by omega
         subst this;rfl
  |succ b ih=>
   intro h1 h2 h3;rcases Xg b a with h4|h4
   . have:a=b+1:=by omega
     subst this;rfl
   have h5:=ih h4 (by omega) fun m g1 g2=>h3 m g1 (by omega)
   have h6:=h3 b h4 (Xm _);have:=cb b _ (by omega) (bs b (by omega));unfold q1x z0q at this
   split at this
   . rename_i dV
     obtain⟨⟨_,g1⟩,e,zs,_,_,_,g2,_⟩:=this;rw[g2,q52,if_pos (h6 (.inr dV) _ g1),h5]
   split at this
   . rename_i fw
     rw[je9 (h6 (.inl fw)) this.1,h5]
   rw[this.1,h5]
 have eI:∀j,j<k->j∈c8->(∀f∈G,∀x∈T f,x∈T j)/\∀e,e∈pre++effs->e≠j->(if e<j then q4b ops ops.size j e else q4b ops ops.size e j)=true\/∀x∈T e,x∈T j:=by
  intro j d4 hj;have h1:=Xe.1 fs j hj;simp only[Xc,Xe,decide_eq_true_eq,Xv,beq_iff_eq]at h1;refine⟨h1.1,fun e he ar=>?_⟩;have ef:e<k:=(Xj.1 he).elim (fun h1=>by have:=b6 e h1;omega) (fun h1=>(c9 e h1).2);rcases h1.2 e he with (h2|h2)|h2
  . exact absurd h2 ar
  . refine .inl ?_
    split at h2
    . rename_i c5;rw[if_pos c5];exact bi _ _ d4 h2
    rename_i c5;rw[if_neg c5];exact bi _ _ ef h2
  exact .inr h2
 obtain⟨f6,_⟩:=z2o dJ;have cd:∀(listed:Array Bool) (j:Nat) (oj:Oper),ops[j]?=some oj->qh2 ops k listed->qs2 oj j listed->∀e,e∈pre++effs->e≠j->(if e<j then q4b ops ops.size j e else q4b ops ops.size e j)=true->listed.getD e false=decide (e<j):=by
  intro listed j oj a6 aj ak e he fY bi
  split at bi
  . rename_i c5
    rw[decide_eq_true c5];exact q9u (listed:=fun i=>listed.getD i false=true) (fun i oi d5 d6=>(aj i oi d5 d6).2) ops.size j e oj a6 ak.2 bi
  rename_i eB
  rw[decide_eq_false eB]
  cases hx:listed.getD e false with
  |false=>rfl
  |true=>
   exfalso
   have ef:e<k:=(Xj.1 he).elim (fun h1=>by have:=b6 e h1;omega) (fun h1=>(c9 e h1).2);have f7:=bs e ef;have:=q9u (listed:=fun i=>listed.getD i false=true) (fun i oi d5 d6=>(aj i oi d5 d6).2) ops.size e j _ f7 (aj e _ f7 hx).2 bi;rw[ak.1]at this
   cases this
 have dL:∀(listed:Array Bool) (j:Nat) (oj:Oper),ops[j]?=some oj->qh2 ops k listed->qs2 oj j listed->(∀f∈G,q4b ops ops.size j f=true)->∀f∈G,listed.getD f false=true:=fun listed j oj a6 aj ak aq f I=>
  q9u (listed:=fun i=>listed.getD i false=true) (fun i oi d5 d6=>(aj i oi d5 d6).2) ops.size j f oj a6 ak.2 (aq f I)
 have e0:∀n j f,j<k->q4b ops n j f=true->f<j:=by
  intro n
  induction n with
  |zero=>intro j f _ hx;simp[q4b]at hx
  |succ n ih=>
   intro j f hj hx;unfold q4b at hx;rw[bs j hj]at hx;obtain⟨e,he,hb⟩:=Array.any_eq_true'.1 hx;simp only[Xc,Xv,beq_iff_eq]at hb;have h1:=f6 j _ (bs j hj) e he hb.1;rcases hb.2 with h2|h2
   . omega
   have:=ih e.on f (by omega) h2
   omega
 have f8:∀j,j<k->j∉G->(∀f∈G,q4b ops ops.size j f=true)->∀f∈G,f<j:=fun j hj _ aq f I=>e0 _ j f hj (aq f I);have f9:∀j,j<k->(∀f∈pre,q4b ops ops.size j f=true)->∀f∈pre,f<j:=fun j hj aq f I=>e0 _ j f hj (aq f I);have dM:∀(listed:Array Bool) (j:Nat) (oj:Oper),ops[j]?=some oj->qh2 ops k listed->qs2 oj j listed->(∀f∈pre,q4b ops ops.size j f=true)->∀f∈pre,listed.getD f false=true:=fun listed j oj a6 aj ak aq f I=>
  q9u (listed:=fun i=>listed.getD i false=true) (fun i oi d5 d6=>(aj i oi d5 d6).2) ops.size j f oj a6 ak.2 (aq f I)
 let p0:Nat:=q
 let H:Array Bool->Nat:=fun listed=>max (q21 effs listed k) q
 have dW:∀i j,i<=j->j<=k->(∀m,i<=m->m<j->m∉pre/\m∉effs/\m∉G)->hs j=hs i/\ns j=ns i:=by
  intro i j
  induction j with
  |zero=>intro h1 _ _;have:i=0:=by omega
         subst this;exact⟨rfl,rfl⟩
  |succ j ih=>
   intro h1 h2 h3;rcases Xg j i with h4|h4
   . have:i=j+1:=by omega
     subst this;exact⟨rfl,rfl⟩
   have h5:=cl j (by omega) (h3 j h4 (Xm _)).1 (h3 j h4 (Xm _)).2.1 (h3 j h4 (Xm _)).2.2
   have h6:=ih h4 (by omega) (fun m g1 g2=>h3 m g1 (by omega));exact⟨h5.1.trans h6.1,h5.2.trans h6.2⟩
 have eJ:∀(listed:Array Bool) (j:Nat) (oj:Oper),j<k->ops[j]?=some oj->j∉G->qh2 ops k listed->qs2 oj j listed->(∀f∈G,q4b ops ops.size j f=true)->(∀f∈pre,q4b ops ops.size j f=true)->(∀e,e∈effs->e≠j->(if e<j then q4b ops ops.size j e else q4b ops ops.size e j)=true)->
  hs (H listed)=hs j/\ns (H listed)=ns j:=by
  intro listed j oj hj a6 c6 aj ak dV fx aq;have W:∀i,i<j->i∈effs->listed.getD i false=true:=fun i hi he=>by
   rw[cd listed j oj a6 aj ak i (Xk _ he) (by omega) (aq i he (by omega)),decide_eq_true hi]
  have hu:∀i,j<=i->i∈effs->listed.getD i false=false:=fun i hi he=>by
   rcases Xg j i with h1|h1
   . rw[cd listed j oj a6 aj ak i (Xk _ he) (by omega) (aq i he (by omega)),decide_eq_false (by omega)]
   have:i=j:=by omega
   rw[this];exact ak.1
  have Z:=f8 j hj c6 dV;have fy:=f9 j hj fx;have hp:q21 effs listed k=q21 effs listed j:=qs5 hu k (by omega);simp only[H,hp]
  rcases Nat.eq_zero_or_pos (q21 effs listed j)with h0|h0
  . -- none
    have eO:∀i,i<j->i∉effs:=by
     intro i hi he;have:∀n,i<n->n<=j->0<q21 effs listed n:=by
      intro n
      induction n with
      |zero=>intro hx;omega
      |succ n ih=>
       intro h1 h2;rw[q21]
       split
       . omega
       rename_i hn
       rcases Xg i n with h3|h3
       . exact ih h3 (by omega)
       have:i=n:=by omega
       subst this;exact absurd ⟨he,W i (by omega) he⟩ hn
     have:=this j hi (Xa _);omega
    rw[h0,Nat.max_eq_right (Yu _)];rcases Xg j q with fa|fa
    . exact dW j q (by omega) dT fun m h1 h2=>⟨fun he=>by have:=fy m he;omega,fun he=>by have:=(c9 m he).1;omega,fun ha=>by have:=Z m ha;omega⟩
    have:=dW q j fa (by omega) fun m h1 h2=>⟨fun he=>by have:=b6 m he;omega,eO m h2,fun ha=>by have:=d0 m ha;omega⟩
    exact⟨this.1.symm,this.2.symm⟩
  -- the last one
  have eP:∀n,n<=j->0<q21 effs listed n->q21 effs listed n<=n/\q21 effs listed n-1∈effs/\∀m,q21 effs listed n<=m->m<n->m∉effs:=by
   intro n
   induction n with
   |zero=>intro _ hx;simp[q21]at hx
   |succ n ih=>
    intro h1 h2;rw[q21]at h2⊢
    split
    . rename_i hn
      exact⟨Xa _,hn.1,fun m g1 g2=>by omega⟩
    rename_i hn
    rw[if_neg hn]at h2;obtain⟨g1,g2,g3⟩:=ih (by omega) h2;refine⟨by omega,g2,fun m g4 g5 he=>?_⟩;rcases Xg m n with g6|g6
    . exact g3 m g4 g6 he
    have:m=n:=by omega
    subst this;exact hn ⟨he,W m (by omega) he⟩
  obtain⟨g1,g2,g3⟩:=eP j (Xa _) h0;have eB:=(c9 _ g2).1;rw[Nat.max_eq_left (by omega)];have:=dW (q21 effs listed j) j g1 (by omega) fun m h1 h2=>⟨fun he=>by have:=b6 m he;omega,g3 m h1 h2,fun ha=>by have:=d0 m ha;omega⟩;exact⟨this.1.symm,this.2.symm⟩
 have dR:∀(listed:Array Bool) (j:Nat),listed.size=ops.size->j<k->j∉effs->H (listed.setIfInBounds j true)=H listed:=by
  intro listed j cp hj ar;have:∀n,q21 effs (listed.setIfInBounds j true) n=q21 effs listed n:=by
   intro n
   induction n with
   |zero=>rfl
   |succ n ih=>
    rw[q21,q21,ih]
    by_cases hn:n∈effs
    . have:(listed.setIfInBounds j true).getD n false=listed.getD n false:=by
       have dX:¬j=n:=fun e=>ar (by rw[e];exact hn);simp[Xb,Xr,dX]
      rw[this]
    simp[hn]
  simp only[H,this k]
 have eg:∀(listed:Array Bool) (j:Nat) (oj:Oper),listed.size=ops.size->j<k->j∈effs->ops[j]?=some oj->qh2 ops k listed->qs2 oj j listed->(∀e,e∈effs->e≠j->(if e<j then q4b ops ops.size j e else q4b ops ops.size e j)=true)->
  H (listed.setIfInBounds j true)=j+1:=by
  intro listed j oj cp hj d7 a6 aj ak aq;have hu:∀i,j+1<=i->i∈effs->(listed.setIfInBounds j true).getD i false=false:=fun i hi he=>by
   have dX:¬j=i:=by omega
   have:(listed.setIfInBounds j true).getD i false=listed.getD i false:=by
    simp[Xb,Xr,dX]
   rw[this,cd listed j oj a6 aj ak i (Xk _ he) (by omega) (aq i he (by omega)),decide_eq_false (by omega)]
  have:=(c9 j d7).1;simp only[H];rw[qs5 hu k (by omega),q21,if_pos ⟨d7,by simp[Xb,show j<listed.size by omega]⟩];omega
 have I:=qs3 (ops:=ops) r s k hk;obtain⟨e1,e2,e3,e4⟩:=z8v r (ops.toList.take k) 0 s;have eQ:∀(listed:Array Bool) (E:Nat->AV),bp ops r (q0x s.env) (fun i=>listed.getD i false=true) E->∀t,s.nt<=t->E t=.bk:=by
  intro listed E hE t d8;rcases hE t with⟨i,hi,_,hd,_,_⟩|⟨_,hx⟩
  . exfalso
    have:=Xe.1 dQ (ops[i]) (Xl.2 (Array.getElem_mem hi));have fz:(ops[i]).dst=some t:=by simpa [q1y,hi]using hd
    rw[fz]at this;simp only[dok,decide_eq_true_eq]at this;omega
  rw[hx];exact z7g eb t d8
 have eC:=z9u (P:=P) (C:=C) (nb:=s.nb) (nt:=s.nt) (ops:=ops) (r:=r) (E0:=q0x s.env) (Ej:=fun j=>q0x (q1s (ops.toList.take j) r 0 s).env) (k:=k) (Q:=fun e a w=>Q' e a w) dJ ht hk dQ (fun j hj=>qs3 r s j (by omega)) (G++pre) (fun j=>decide (j∈effs))
  (fun listed=>hs (H listed)) (fun listed=>ns (H listed))
  (fun listed j oj cp hj a6 aj hF ak ar=>by
   simp only[decide_eq_false_iff_not]at ar;have c6:j∉G:=fun ha=>by have:=hF j (Xq _ ha);rw[ak.1]at this;cases this
   have d3:j∉pre:=fun ha=>by have:=hF j (Xk _ ha);rw[ak.1]at this;cases this
   have h1:=cb j oj hj a6;unfold q1x z0q at h1;rw[if_neg c6,if_neg (fun hx=>(Xj.1 hx).elim d3 ar)]at h1;refine⟨?_,by rw[dR listed j cp hj ar],by rw[dR listed j cp hj ar]⟩;rcases ee j hj c6 d3 with h2|h2
   . obtain⟨t1,t2⟩:=eI j hj h2.1
     have fA:H listed<=k:=Nat.max_le.2 ⟨zd9 (effs:=effs) (listed:=listed) k,dT⟩;refine jm5 (hp':=hs (H listed)) (h1.2.2.2 h2.1) ?_ h1.2.2.1;rcases Nat.le_total j (H listed)with dY|dY
     . refine (dK (T j) j (H listed) dY fA fun m g1 g2 g3=>?_).symm
       rcases g3 with g3|g3
       . have eh:m≠j:=fun e=>by rw[e]at g3;exact (Xj.1 g3).elim d3 ar
         rcases t2 m g3 eh with g4|g4
         . exfalso
           have W:=cd listed j oj a6 aj ak m g3 eh g4;rw[decide_eq_false (by omega)]at W;rcases Xj.1 g3 with g5|g5
           . rw[hF m (Xk _ g5)]at W;cases W
           have fZ:=(c9 m g5).1
           have g7:m<q21 effs listed k:=by simp only[H]at g2;omega
           rcases za7 (effs:=effs) (listed:=listed) k with h0|⟨h0,ei,fB⟩
           . omega
           rcases Nat.lt_or_ge m (q21 effs listed k-1)with h3|h3
           . have ds:=(c9 _ h0).2
             have fb:q21 effs listed k-1∉G:=fun ha=>by have:=d0 _ ha;have:=(c9 _ h0).1;omega
             have fc:q21 effs listed k-1∉pre:=fun ha=>f5 _ ha h0;rcases ee _ ds fb fc with h4|h4
             . exact h4.2 h0
             have h5:=h4.2.2 m g5 (by omega)
             rw[if_pos h3]at h5;have h6:=q9u (listed:=fun i=>listed.getD i false=true) (fun i oi d5 d6=>(aj i oi d5 d6).2) ops.size _ m _ (bs _ ds) (aj _ _ (bs _ ds) ei).2 h5;rw[h6]at W;cases W
           have:m=q21 effs listed k-1:=by omega
           rw[this,ei]at W;cases W
         exact g4
       exact t1 m g3
     refine dK (T j) (H listed) j dY (by omega) fun m g1 g2 g3=>?_
     rcases g3 with g3|g3
     . rcases t2 m g3 (by omega)with g4|g4
       . exfalso
         have W:=cd listed j oj a6 aj ak m g3 (by omega) g4;rw[decide_eq_true g2]at W;rcases List.mem_append.1 g3 with g5|g5
         . have:=b6 m g5;simp only[H]at g1;omega
         rw[z8w k m (by simp only[H]at g1;omega) (by omega) g5]at W;cases W
       exact g4
     exact t1 m g3
   rw[(eJ listed j oj hj a6 c6 aj ak h2.1 h2.2.1 h2.2.2).1]
   exact h1.2.2.1)
  (fun listed j oj cp hj a6 aj hF ak d7=>by
   simp only[decide_eq_true_eq]at d7;have c6:j∉G:=fun ha=>by have:=hF j (Xq _ ha);rw[ak.1]at this;cases this
   have d3:j∉pre:=fun ha=>by have:=hF j (Xk _ ha);rw[ak.1]at this;cases this
   have h1:=cb j oj hj a6;unfold q1x z0q at h1;rw[if_neg c6,if_pos (Xk _ d7)]at h1;rcases ee j hj c6 d3 with h2|h2
   . exact absurd d7 h2.2
   intro E hE eD;have hp1:=eJ listed j oj hj a6 c6 aj ak h2.1 h2.2.1 h2.2.2;have hp2:=eg listed j oj cp hj d7 a6 aj ak h2.2.2;have:=h1.2 C E (eQ listed E hE) eD;rw[hp1.1,hp1.2,hp2];exact this)
  I (fun ej listed a' w' β' cp hL fC ao e7=>by
   have aq:∀i,i<k->i∈effs->listed.getD i false=true:=fun i hi _=>(hL i (by omega)).2 hi;have g:hs (H listed)=hs k/\ns (H listed)=ns k:=by
    have fd:∀n,n<=k->q<=n->hs (max (q21 effs listed n) q)=hs n/\ns (max (q21 effs listed n) q)=ns n:=by
     intro n
     induction n with
     |zero=>intro _ h2;have:q=0:=by omega
            simp[q21,this]
     |succ n ih=>
      intro h1 h2;rw[q21]
      split
      . rw[Nat.max_eq_left h2];exact⟨rfl,rfl⟩
      rename_i hn
      rcases Nat.lt_or_ge n q with h3|h3
      . have:q=n+1:=by omega
        rw[Nat.max_eq_right (Nat.le_trans (zd9 n) (by omega)),this];exact⟨rfl,rfl⟩
      have h4:=ih (by omega) h3
      have h5:=cl n (by omega) (fun he=>by have:=b6 n he;omega) (fun he=>hn ⟨he,aq n (by omega) he⟩) (fun ha=>by have:=d0 n ha;omega);exact⟨h4.1.trans h5.1.symm,h4.2.trans h5.2.symm⟩
    exact fd k (Nat.le_refl _) dT
   simp only[g.1,g.2]at ao e7;refine j0n (k:=k) (K:=K) dJ ht (fun a w ⟨s',β',ao,fD⟩=>hQ _ _ _ _ _ ao ⟨rfl,fD⟩) ej k listed {q1s (ops.toList.take k) r 0 s with hp:=hs k,nx:=ns k} a' w' β' (Nat.le_refl _) hk cp hL fC (by show z2j (q1s (ops.toList.take k) r 0 s).nt _=true;rw[e3];exact dQ) ?_ hK;exact {df:=ao.df,nt:=by show _=(q1s (ops.toList.take k) r 0 s).nt;rw[e3];exact ao.nt,ntc:=by show (q1s (ops.toList.take k) r 0 s).nt=_;rw[e3];exact ao.ntc,nb:=by show _=(q1s (ops.toList.take k) r 0 s).nb;rw[e4];exact ao.nb,alt:=ao.alt,gs:=ao.gs,hp:=ao.hp,ext:=ao.ext,env:=fun t=>e7 t})
 let r1:Nat->AV:=fun i=>if i∈G then .bk else r i
 let dd:Nat->Nat:=fun f=>(q1y ops f).getD 0
 let zz:Nat->List Value:=fun f=>match ops[f]? with
  |some o=>(match o.op with|.alloc e=>(q1w P e).getD []|_=>[])
  |none=>[]
 let Fn:Nat->List Nat:=fun n=>(Xs n).filter fun i=>decide (i∈G)
 have bv:∀f,f∈Fn q↔f∈G:=fun f=>by
  simp only[Fn,List.mem_filter,X5,decide_eq_true_eq];exact⟨fun h=>h.2,fun h=>⟨d0 f h,h⟩⟩
 have fe:(Fn q).Nodup:=List.Nodup.sublist List.filter_sublist Y6;have ff:∀n,Fn (n+1)=if n∈G then Fn n++[n]else Fn n:=fun n=>by
  simp only[Fn,List.range_succ,List.filter_append]
  by_cases hn:n∈G<;>simp[hn]
 have dc:∀f,f∈G->q1y ops f=some (dd f):=fun f I=>by
  obtain⟨d,hd,_⟩:=dU f I;simp only[dd,hd,Xp]
 have dV:∀f,f∈G->∃o e,ops[f]?=some o/\o.guard=none/\o.op=.alloc e/\q1w P e=some (zz f)/\r f=.ptr (ns f) 0/\hs (f+1)=(ns f,.box (zz f |>.map AV.v))::hs f/\ns (f+1)=ns f+1:=fun f I=>by
  have ek:=Xi (d0 f I) dT;have:=cb f _ ek (bs f ek);unfold q1x at this;rw[if_pos I]at this;obtain⟨⟨h1,_⟩,e,zs,h2,h3,h4,h5,h6⟩:=this;have hz:zz f=zs:=by simp only[zz,bs f ek,h2,h3,Xp]
  exact⟨_,e,bs f ek,h1,h2,by rw[hz];exact h3,h4,by rw[hz];exact h5,h6⟩
 have fg:∀n,n<=p->Fn n=[]:=fun n hn=>List.filter_eq_nil_iff.2 fun i hi=>by
  simp only[decide_eq_true_eq];intro ha;have:=ec i ha;have:=X5.1 hi;omega
 have eK:∀n,p<=n->n<=q->hs n=z6d zz (Fn n) (ns p) (hs p)/\ns n=ns p+(Fn n).length:=by
  intro n
  induction n with
  |zero=>
   intro h0 _;have:p=0:=by omega
   subst this;rw[fg 0 (Xa _)];exact⟨rfl,rfl⟩
  |succ n ih=>
   intro g8 hn;rcases Xg n p with c5|eB
   . have:p=n+1:=by omega
     rw[fg (n+1) (by omega),this];exact⟨rfl,rfl⟩
   obtain⟨g1,g2⟩:=ih eB (by omega);rw[ff]
   split
   . rename_i ha
     obtain⟨_,_,_,_,_,_,_,h5,h6⟩:=dV n ha;rw[zl8,Xu,List.length_singleton,h5,h6,g1,g2];exact⟨rfl,by omega⟩
   rename_i ha
   obtain⟨h5,h6⟩:=cl n (by omega) (fun he=>by have:=b6 n he;omega) (fun he=>by have:=(c9 n he).1;omega) ha;exact⟨h5.trans g1,h6.trans g2⟩
 have eR:∀(E:Nat->AV) (t:Nat) n,n<=q->(∃f,f<n/\f∈G/\dd f=t/\cR dd (Fn n) (ns p) E t=r f)\/((∀f,f<n->f∈G->dd f≠t)/\cR dd (Fn n) (ns p) E t=E t):=by
  intro E t n
  induction n with
  |zero=>intro _;exact .inr ⟨fun f I=>by omega,rfl⟩
  |succ n ih=>
   intro hn;rw[ff]
   split
   . rename_i ha
     obtain⟨_,_,_,_,_,_,h4,_,_⟩:=dV n ha;rw[zw4]
     by_cases hd:dd n=t
     . refine .inl ⟨n,Xm _,ha,hd,?_⟩
       simp only[q5u,hd,if_true];rw[h4,(eK n (ec n ha) (by omega)).2]
     simp only[q5u,if_neg hd]
     rcases ih (by omega)with⟨f,g1,g2,g3,g4⟩|⟨g1,g2⟩
     . exact .inl ⟨f,by omega,g2,g3,g4⟩
     refine .inr ⟨fun f I eE=>?_,g2⟩
     rcases Xg f n with h|h
     . exact g1 f h eE
     have:f=n:=by omega
     rw[this];exact hd
   rename_i ha
   rcases ih (by omega)with⟨f,g1,g2,g3,g4⟩|⟨g1,g2⟩
   . exact .inl ⟨f,by omega,g2,g3,g4⟩
   refine .inr ⟨fun f I eE=>?_,g2⟩
   rcases Xg f n with h|h
   . exact g1 f h eE
   have:f=n:=by omega
   exact absurd (by rw[<-this];exact eE) ha
 have dN:∀(a:Act) (d:Option Nat) (v:Value) (t:Nat),d≠some t->(a.put d v).tmps.getD t undef=a.tmps.getD t undef:=fun a d v t ar=>by
  cases d with
  |none=>rfl
  |some d=>
   have:¬d=t:=fun e=>ar (by rw[e]);simp[Act.put,Xb,this]
 have en:∀j t,j<=k->(∀f∈G,dd f≠t)->q0x (q1s (ops.toList.take j) r1 0 s).env t=q0x (q1s (ops.toList.take j) r 0 s).env t:=by
  intro j t hj ar;have g1:=qs3 (ops:=ops) r1 s j (by omega) t;have g2:=qs3 (ops:=ops) r s j (by omega) t;rcases g1 with⟨i,a1,a2,a3,a4,a5⟩|⟨a1,a2⟩<;>rcases g2 with⟨i',b1,b2,b3,b4,b5⟩|⟨b1,b2⟩
  . have fE:i=i':=by
     rcases Nat.lt_trichotomy i i' with h|h|h
     . exact absurd b3 (a4 i' h b1 b2)
     . exact h
     exact absurd a3 (b4 i h a1 a2)
    subst fE;rw[a5,b5];have:i∉G:=fun ha=>ar i ha (by have:=dc i ha;rw[a3]at this;exact (Yk this).symm);simp only[r1,if_neg this]
  . exact absurd a3 (b1 i a1 a2)
  . exact absurd b3 (a1 i' b1 b2)
  rw[a2,b2]
 have fh:bD w {w with drawn:=w.drawn+1}:=⟨rfl,rfl,⟨rfl,fun _=>by first|exact Xa _|exact Y5 _⟩,Xa _,fun _ _=>rfl⟩;have fF:Rel C ⟨s.nb,[],s.hp,s.nx,s.nt⟩ a {w with drawn:=w.drawn+1} β:=by
  have:=hR.still (w':={w with drawn:=w.drawn+1}) fh;exact {df:=this.df,nt:=this.nt,ntc:=this.ntc,nb:=this.nb,alt:=this.alt,gs:=this.gs,hp:=this.hp,ext:=this.ext,env:=fun t=>by simp only[q0x,rep]}
 have fG:=(hR.still (w':={w with drawn:=w.drawn+1}) fh).env
 let H1:Array Bool->Nat:=fun listed=>q21 pre listed p
 have dS:∀(listed:Array Bool) (j:Nat),j∉pre->H1 (listed.setIfInBounds j true)=H1 listed:=by
  intro listed j d3;have:∀n,q21 pre (listed.setIfInBounds j true) n=q21 pre listed n:=by
   intro n
   induction n with
   |zero=>rfl
   |succ n ih=>
    rw[q21,q21,ih]
    by_cases hn:n∈pre
    . have:(listed.setIfInBounds j true).getD n false=listed.getD n false:=by
       have dX:¬j=n:=fun e=>d3 (by rw[e];exact hn);simp[Xb,Xr,dX]
      rw[this]
    simp[hn]
  exact this p
 have eF:∀(listed:Array Bool) (j:Nat) (oj:Oper),listed.size=ops.size->j∈pre->ops[j]?=some oj->qh2 ops k listed->qs2 oj j listed->H1 (listed.setIfInBounds j true)=j+1/\hs (H1 listed)=hs j/\ns (H1 listed)=ns j:=by
  intro listed j oj cp cc a6 aj ak;have g9:=b6 j cc;have W:∀i,i<j->i∈pre->listed.getD i false=true:=fun i hi he=>by
   rw[cd listed j oj a6 aj ak i (Xq _ he) (by omega) (eN j cc i he (by omega)),decide_eq_true hi]
  have hu:∀i,j<=i->i∈pre->listed.getD i false=false:=fun i hi he=>by
   rcases Xg j i with h1|h1
   . rw[cd listed j oj a6 aj ak i (Xq _ he) (by omega) (eN j cc i he (by omega)),decide_eq_false (by omega)]
   have:i=j:=by omega
   rw[this];exact ak.1
  have fH:∀i,j+1<=i->i∈pre->(listed.setIfInBounds j true).getD i false=false:=fun i hi he=>by
   have dX:¬j=i:=by omega
   have:(listed.setIfInBounds j true).getD i false=listed.getD i false:=by
    simp[Xb,Xr,dX]
   rw[this];exact hu i (by omega) he
  have ga:j<ops.size:=by omega
  have e5:∀m,m<j->m∉effs/\m∉G:=fun m hm=>⟨fun he=>by have:=(c9 m he).1;omega,fun ha=>by have:=ec m ha;omega⟩;have fi:∀{α:Type} (f:Nat->α),(∀i,i<j->i∉pre->f (i+1)=f i)->f (H1 listed)=f j:=fun f I=>by
   simp only[H1];rw[qs5 hu p (by omega)];exact j4k I W j (Xa _)
  refine⟨?_,fi hs fun i hi hn=>(cl i (by omega) hn (e5 i hi).1 (e5 i hi).2).1,fi ns fun i hi hn=>(cl i (by omega) hn (e5 i hi).1 (e5 i hi).2).2⟩;simp only[H1];rw[qs5 fH p (by omega),q21,if_pos ⟨cc,by simp[Xb,show j<listed.size by omega]⟩]
 have an:∀(listed:Array Bool) (j i:Nat),¬j=i->(listed.setIfInBounds j true).getD i false=listed.getD i false:=fun listed j i ar=>by
  simp[Xb,Xr,ar]
 refine wp_region_any hm (zz9 (P:=P) (ops:=ops) (r:=r1) (E0:=q0x s.env) (Ej:=fun j=>q0x (q1s (ops.toList.take j) r1 0 s).env) (k:=k) dJ ht hk (fun j hj=>qs3 r1 s j (by omega))
  (fun listed=>(∀f∈G,listed.getD f false=true)/\∀f∈pre,listed.getD f false=true)
  (fun listed a w E=>(∀e∈effs,listed.getD e false=false)/\(∀t,s.nt<=t->E t=.bk)/\∃β blk,Rel (q0g C (qa5 (Fn q) listed blk)) ⟨s.nb,[],hs (H1 listed),ns (H1 listed),s.nt⟩ a w β/\
   (∀t,rep w β (ns (H1 listed)) (own β (hs (H1 listed)) (q0g C (qa5 (Fn q) listed blk)).A) (E t) (a.tmps.getD t undef))/\Aside C (Fn q) dd zz listed a w blk)
  (fun listed W=>⟨fun f I=>W f (Xi (d0 f I) dT),fun f I=>W f (by have:=b6 f I;omega)⟩) ?_ ?_
  ops.size (Yl ops.size false) a _ (q0x s.env) (by simp) ?_ ?_ ?_ ?_)
 . -- one more
   intro listed j oj a w E cp hj a6 aj eG ak ⟨ar,d4,β,blk,hR,hE,hA⟩ eD K' eS;have c7:dok s.nt oj.dst=true:=Xe.1 dQ oj (Xl.2 (Array.mem_of_getElem? a6));have eT:q1y ops j=oj.dst:=by simp[q1y,a6]
   have d7:j∉effs:=fun he=>by
    have c6:j∉G:=fun ha=>by have:=(c9 j he).1;have:=d0 j ha;omega
    rcases ee j hj c6 (fun hx=>f5 j hx he)with h2|h2
    . exact h2.2 he
    exact eG ⟨dL listed j oj a6 aj ak h2.1,dM listed j oj a6 aj ak h2.2.1⟩
   have eo:∀e∈effs,(listed.setIfInBounds j true).getD e false=false:=fun e he=>by
    rw[an listed j e (fun e'=>d7 (by rw[e'];exact he))];exact ar e he
   by_cases ha:j∈G
   . -- a new variable
     obtain⟨o,e,ho,hg,fI,hz,_,_,_⟩:=dV j ha;rw[a6]at ho;simp only[Xd]at ho;subst ho;have er:oj.dst=some (dd j):=by rw[<-eT];exact dc j ha
     rw[if_pos (by simp[Region.wanted,hg])];have eU:=hz;unfold q1w at eU;simp only[Option.map_eq_some_iff,Option.bind_eq_some_iff]at eU;obtain⟨z,⟨i,hi,fJ⟩,fK⟩:=eU;have fj:(execOp a.eval oj).run P w=.ok (.value (.pointer (some ⟨w.heap.size,0,none⟩))) (w.alloc (.cells ⟨z.cells.toList⟩ e)):=by
      unfold execOp;simp only[fI];simp[Instr.alloc,zeroValue,typeInfo,hi,fJ,newVar,newRow]
     unfold Oper.wp;rw[fj];simp only[Oper.upon];have fL:=dS listed j (fun hx=>f4 j hx ha);rw[<-fL]at hR hE;refine eS _ _ ⟨eo,fun t d8=>by
      rw[er];simp only[q5u]
      split
      . simp only[r1,if_pos ha]
      exact d4 t d8,β,fun f=>if f=j then w.heap.size else blk f,?_⟩
     have eV:∀f∈Fn q,listed.getD f false=true->blk f<w.heap.size:=fun f I W=>by
      obtain⟨e,he⟩:=hA.cell f I W;exact (Xx.1 he).1
     have fM:listed.getD j false=false:=ak.1;have hB:∀b,qa5 (Fn q) (listed.setIfInBounds j true) (fun f=>if f=j then w.heap.size else blk f) b↔(qa5 (Fn q) listed blk b\/b=w.heap.size):=by
      intro b
      constructor
      . rintro⟨f,I,W,hb⟩
        dsimp only at hb
        by_cases Z:f=j
        . rw[if_pos Z]at hb;exact .inr hb.symm
        rw[if_neg Z]at hb
        rw[an listed j f (Ne.symm Z)]at W;exact .inl ⟨f,I,W,hb⟩
      rintro (⟨f,I,W,hb⟩|rfl)
      . have Z:¬f=j:=fun e=>by rw[e,fM]at W;cases W
        exact⟨f,I,by rw[an listed j f (Ne.symm Z)];exact W,by dsimp only;rw[if_neg Z];exact hb⟩
      exact⟨j,(bv j).2 ha,by simp[Xb,show j<listed.size by omega],by dsimp only;rw[if_pos rfl]⟩
     have es:w.heap.size<=(w.alloc (.cells ⟨z.cells.toList⟩ e)).heap.size:=by simp
     have fX:(w.alloc (.cells ⟨z.cells.toList⟩ e)).heap.size=w.heap.size+1:=by simp
     have dO:∀b,b<w.heap.size->(w.alloc (.cells ⟨z.cells.toList⟩ e)).heap[b]?=w.heap[b]?:=fun b hb=>Below.heap_alloc w _ b hb;have fk:aW w (w.alloc (.cells ⟨z.cells.toList⟩ e)) (own β (hs (H1 (listed.setIfInBounds j true))) (q0g C (qa5 (Fn q) listed blk)).A) (own β (hs (H1 (listed.setIfInBounds j true))) (q0g C (qa5 (Fn q) (listed.setIfInBounds j true) (fun f=>if f=j then w.heap.size else blk f))).A):=⟨es,fun b hb c5=>⟨dO b c5,fun hx=>hb (by
      rcases hx with (hx|hx)|hx
      . exact .inl (.inl hx)
      . rcases (hB b).1 hx with hx|hx
        . exact .inl (.inr hx)
        omega
      exact .inr hx)⟩⟩
     have c0:=hR.ext;refine⟨?_,?_,?_⟩
     . have eW:(a.put oj.dst (.pointer (some ⟨w.heap.size,0,none⟩))).tmps.size=a.tmps.size:=by cases dc:oj.dst<;>simp[Act.put]
       have eX:(a.put oj.dst (.pointer (some ⟨w.heap.size,0,none⟩))).defers=a.defers:=by cases dc:oj.dst<;>rfl
       have halt:∀b,(q0g C (qa5 (Fn q) (listed.setIfInBounds j true) (fun f=>if f=j then w.heap.size else blk f))).A b->b<(w.alloc (.cells ⟨z.cells.toList⟩ e)).heap.size:=fun b hb=>by
        rcases hb with hb|hb
        . have:=hR.alt b (.inl hb);omega
        rcases (hB b).1 hb with hb|rfl
        . have:=hR.alt b (.inr hb);omega
        omega
       have fN:aV (w.alloc (.cells ⟨z.cells.toList⟩ e)) β (ns (H1 (listed.setIfInBounds j true))) (q0g C (qa5 (Fn q) (listed.setIfInBounds j true) (fun f=>if f=j then w.heap.size else blk f))).A (hs (H1 (listed.setIfInBounds j true))):=
        ⟨fun p hp=>q47 fk (Xa _) (fun _ _=>rfl) (hR.hp.lt p hp) (fun b et=>dO b (hR.hp.bB p hp b et)) (fun _=>rfl) (hR.hp.obj p hp),hR.hp.lt,hR.hp.nd,hR.hp.inj,fun p hp b c et hx=>by
         rcases hx with hx|hx
         . exact hR.hp.av p hp b c et (.inl hx)
         . rcases (hB b).1 hx with hx|hx
           . exact hR.hp.av p hp b c et (.inr hx)
           have:=hR.hp.blt p hp b c et;omega,hR.hp.i0,fun p hp b hb=>by
         obtain⟨i1,i2,i3,i4⟩:=hR.hp.ib p hp b hb;refine⟨Xi i1 es,fun hx=>?_,i3,i4⟩;rcases hx with hx|hx
         . exact i2 (.inl hx)
         rcases (hB b).1 hx with hx|hx
         . exact i2 (.inr hx)
         omega⟩
       have fO:Ext C.w0 C.β0 C.nx0 C.hp0 (w.alloc (.cells ⟨z.cells.toList⟩ e)) β (ns (H1 (listed.setIfInBounds j true))) (hs (H1 (listed.setIfInBounds j true))):=
        {nx:=c0.nx,gh:=c0.gh,gi:=c0.gi,ids:=c0.ids,blk:=c0.blk,os:=c0.os,tape:=c0.tape,output:=c0.output,size:=Yj c0.size es,
         keep:=fun b hb fP=>(dO b (Xi hb c0.size)).trans (c0.keep b hb fP)}
       exact {df:=by rw[eX];exact hR.df,nt:=by rw[eW];exact hR.nt,ntc:=hR.ntc,nb:=hR.nb,alt:=halt,gs:=hR.gs,hp:=fN,ext:=fO,env:=fun t=>by simp only[q0x,rep]}
     . intro t
       have eu:r1 j=.bk:=by simp only[r1,if_pos ha]
       rw[er,eu];simp only[q5u]
       split
       . simp only[rep]
       rename_i ew
       have:=dN a (some (dd j)) (.pointer (some ⟨w.heap.size,0,none⟩)) t (fun e=>ew (Yk e));rw[this];exact q5w fk (ns (H1 (listed.setIfInBounds j true))) (ns (H1 (listed.setIfInBounds j true))) (Xa _) (fun _ _=>rfl) _ _ (hE t)
     have fl:dd j<a.tmps.size:=by
      rw[er]at c7;simp only[dok,decide_eq_true_eq]at c7;rw[hR.nt];exact c7
     have ex:∀f∈Fn q,¬f=j->¬dd j=dd f:=fun f I Z e=>by
      obtain⟨d,h1,h2⟩:=dU f ((bv f).1 I);have h3:=(h2 j hj (Ne.symm Z)).1;rw[dc j ha,e,<-dc f ((bv f).1 I),h1]at h3;exact h3 rfl
     refine⟨fun f I W=>?_,fun f I W=>?_,fun f I W=>?_,fun f I g hg W dk hb=>?_⟩
     . skip
       by_cases Z:f=j
       . subst Z
         rw[if_pos rfl,er];simp only[Act.put];rw[z5e _ _ _ _ _ fl,if_pos rfl]
       rw[if_neg Z]
       rw[an listed j f (Ne.symm Z)]at W;rw[er,dN a (some (dd j)) _ (dd f) (fun e=>ex f I Z (Yk e))];exact hA.tmp f I W
     . skip
       by_cases Z:f=j
       . subst Z
         rw[if_pos rfl];refine⟨e,?_⟩;rw[<-fK];exact heap_alloc_new w _
       rw[if_neg Z]
       rw[an listed j f (Ne.symm Z)]at W;obtain⟨e',e8⟩:=hA.cell f I W;exact⟨e',(dO _ (eV f I W)).trans e8⟩
     . skip
       by_cases Z:f=j
       . subst Z
         rw[if_pos rfl];exact⟨c0.size,fun hx=>Nat.lt_irrefl _ (hR.alt _ (.inl hx))⟩
       rw[if_neg Z]
       rw[an listed j f (Ne.symm Z)]at W;exact hA.new f I W
     skip
     by_cases Z:f=j<;>by_cases e9:g=j
     . rw[Z,e9]
     . rw[if_pos Z,if_neg e9]at hb
       rw[an listed j g (Ne.symm e9)]at dk;have:=eV g hg dk;omega
     . rw[if_neg Z,if_pos e9]at hb
       rw[an listed j f (Ne.symm Z)]at W;have:=eV f I W;omega
     rw[if_neg Z,if_neg e9]at hb
     rw[an listed j f (Ne.symm Z)]at W;rw[an listed j g (Ne.symm e9)]at dk;exact hA.inj f I g hg W dk hb
   by_cases cc:j∈pre
   . -- what is turned early
     have h1:=cb j oj hj a6;unfold q1x z0q at h1;rw[if_neg ha,if_pos (Xq _ cc)]at h1;obtain⟨_,fm⟩:=h1;obtain⟨q1,q2,q3⟩:=eF listed j oj cp cc a6 aj ak;have eY:∀f∈G,dd f∉oj.looksAt ops:=fun f I=>by
      obtain⟨d,g1,g2⟩:=dU f I;have dP:dd f=d:=by simp only[dd,g1,Xp]
      rw[dP];rcases (g2 j hj (fun e=>ha (by rw[e];exact I))).2 with g3|g3|g3
      . exact absurd g3 ha
      . exact absurd ⟨dL listed j oj a6 aj ak g3.1,dM listed j oj a6 aj ak g3.2⟩ eG
      exact g3 oj a6
     rw[q2,q3]at hR hE;have dI:q0g C (qa5 (Fn q) (listed.setIfInBounds j true) blk)=q0g C (qa5 (Fn q) listed blk):=z7c fun b=>by
      constructor<;>rintro⟨f,I,W,hb⟩
      . have Z:¬j=f:=fun e=>ha (by rw[e];exact (bv f).1 I)
        exact⟨f,I,by rw[<-an listed j f Z];exact W,hb⟩
      have Z:¬j=f:=fun e=>ha (by rw[e];exact (bv f).1 I)
      exact⟨f,I,by rw[an listed j f Z];exact W,hb⟩
     let C1:Ctx P:={q0g C (qa5 (Fn q) listed blk)with w0:=w,β0:=β,hp0:=hs j}
     have fQ:Rel C1 ⟨s.nb,[],hs j,ns j,s.nt⟩ a w β:={df:=hR.df,nt:=hR.nt,ntc:=hR.ntc,nb:=hR.nb,alt:=hR.alt,gs:=hR.gs.ext hR.ext,hp:=hR.hp,env:=hR.env,ext:={nx:=hR.ext.nx,gh:=fun _ _=>rfl,gi:=fun _ _ _=>rfl,ids:=fun x hx=> .inl (Xo.2 ⟨x,hx,rfl⟩),blk:=fun x hx b hb=> .inl ⟨x,hx,hb⟩,os:=rfl,tape:=rfl,output:=⟨rfl,fun _=>Xa _⟩,size:=Xa _,keep:=fun _ _ _=>rfl}};refine jg3 (fm C1 E d4 (fun t ey=>by rw[eD t ey,en j t (by omega) (fun f I e=>eY f I (by rw[e];exact ey))]) a w β fQ hE _ _ fun a' w' β' ao e7=>?_);rintro⟨v,hv⟩;have eu:r1 j=r j:=by simp only[r1,if_neg ha]
     refine eS _ _ ⟨eo,fun t d8=>?_,β',blk,?_⟩
     . have ew:oj.dst≠some t:=fun e=>by
        rw[e]at c7;simp only[dok,decide_eq_true_eq]at c7;omega
       cases ez:oj.dst with
       |none=>simp only[q5u];exact d4 t d8
       |some d=>
        simp only[q5u];rw[if_neg (fun e=>ew (by rw[ez,e]))];exact d4 t d8
     rw[dI,q1];have fo:∀f∈Fn q,listed.getD f false=true->w'.heap[blk f]?=w.heap[blk f]?:=fun f I W=>by
      obtain⟨e,he⟩:=hA.cell f I W;refine ao.ext.keep _ (Xx.1 he).1 ?_;rintro⟨x,hx,hb⟩;exact hR.hp.ca x hx _ hb (.inr ⟨f,I,W,rfl⟩)
     refine⟨{df:=ao.df,nt:=ao.nt,ntc:=ao.ntc,nb:=ao.nb,alt:=ao.alt,gs:=hR.gs,hp:=ao.hp,env:=ao.env,ext:=hR.ext.then (by rw[hR.nb];have:=ao.ext;rw[show C1.nx0=s.nb from hR.nb]at this;exact this)},?_,?_⟩
     . rw[eu];exact e7
     have Z:∀f∈Fn q,¬j=f:=fun f I e=>ha (by rw[e];exact (bv f).1 I)
     have ex:∀f∈Fn q,oj.dst≠some (dd f):=fun f I e=>by
      obtain⟨d,g1,g2⟩:=dU f ((bv f).1 I);have dP:dd f=d:=by simp only[dd,g1,Xp]
      have:=(g2 j hj (fun e'=>Z f I e')).1;rw[eT,e,dP]at this;exact this rfl
     refine⟨fun f I W=>?_,fun f I W=>?_,fun f I W=>?_,fun f I g hg W dk hb=>?_⟩
     . rw[an listed j f (Z f I)]at W
       rw[hv,dN a _ _ _ (ex f I)];exact hA.tmp f I W
     . rw[an listed j f (Z f I)]at W
       obtain⟨e',e8⟩:=hA.cell f I W;exact⟨e',(fo f I W).trans e8⟩
     . rw[an listed j f (Z f I)]at W
       exact hA.new f I W
     rw[an listed j f (Z f I)]at W
     rw[an listed j g (Z g hg)]at dk;exact hA.inj f I g hg W dk hb
   -- what only looks
   have h1:=cb j oj hj a6;unfold q1x z0q at h1;rw[if_neg ha,if_neg (fun hx=>(Xj.1 hx).elim cc d7)]at h1;have fp:j∈c8:=by
    rcases ee j hj ha cc with h2|h2
    . exact h2.1
    exact absurd ⟨dL listed j oj a6 aj ak h2.1,dM listed j oj a6 aj ak h2.2.1⟩ eG
   have eY:∀f∈G,dd f∉oj.looksAt ops:=fun f I=>by
    obtain⟨d,g1,g2⟩:=dU f I;have dP:dd f=d:=by simp only[dd,g1,Xp]
    rw[dP];rcases (g2 j hj (fun e=>ha (by rw[e];exact I))).2 with g3|g3|g3
    . exact absurd g3 ha
    . exact absurd ⟨dL listed j oj a6 aj ak g3.1,dM listed j oj a6 aj ak g3.2⟩ eG
    exact g3 oj a6
   have fR:QG P (hs (H1 listed)) (ns (H1 listed)) ops E oj (r j):=by
    obtain⟨t1,t2⟩:=eI j hj fp;have eA:H1 listed<=p:=zd9 (effs:=pre) (listed:=listed) p;have fS:q52 (T j) (hs j)=q52 (T j) (hs (H1 listed)):=by
     rcases Nat.le_total j (H1 listed)with dY|dY
     . refine (dK (T j) j (H1 listed) dY (by omega) fun m g1 g2 g3=>?_).symm
       rcases g3 with g3|g3
       . have eh:m≠j:=fun e=>by rw[e]at g3;exact (Xj.1 g3).elim cc d7
         rcases t2 m g3 eh with g4|g4
         . exfalso
           have W:=cd listed j oj a6 aj ak m g3 eh g4;rw[decide_eq_false (by omega)]at W;rcases Xj.1 g3 with g5|g5
           . rcases za7 (effs:=pre) (listed:=listed) p with h0|⟨h0,ei,fB⟩
             . simp only[H1]at g2;omega
             rcases Xg m (q21 pre listed p-1)with h3|h3
             . have ds:q21 pre listed p-1<k:=by have:=b6 _ h0;omega
               have h5:=eN _ h0 m g5 (by omega);rw[if_pos h3]at h5;have h6:=q9u (listed:=fun i=>listed.getD i false=true) (fun i oi d5 d6=>(aj i oi d5 d6).2) ops.size _ m _ (bs _ ds) (aj _ _ (bs _ ds) ei).2 h5;rw[h6]at W;cases W
             have:m=q21 pre listed p-1:=by simp only[H1]at g2;omega
             rw[this,ei]at W;cases W
           have:=(c9 m g5).1;omega
         exact g4
       exact t1 m g3
     refine dK (T j) (H1 listed) j dY (by omega) fun m g1 g2 g3=>?_
     rcases g3 with g3|g3
     . rcases t2 m g3 (by omega)with g4|g4
       . exfalso
         have W:=cd listed j oj a6 aj ak m g3 (by omega) g4;rw[decide_eq_true g2]at W;rcases Xj.1 g3 with g5|g5
         . rw[z8w p m (by simp only[H1]at g1;omega) (b6 m g5) g5]at W;cases W
         rw[ar m g5]at W;cases W
       exact g4
     exact t1 m g3
    have g1:=jm5 (hp':=hs (H1 listed)) (h1.2.2.2 fp) fS h1.2.2.1;refine j33 (nx:=ns (H1 listed)) (fun t ey=>?_) g1;rw[eD t ey,en j t (by omega) (fun f I e=>eY f I (by rw[e];exact ey))]
   have dI:q0g C (qa5 (Fn q) (listed.setIfInBounds j true) blk)=q0g C (qa5 (Fn q) listed blk):=z7c fun b=>by
    constructor<;>rintro⟨f,I,W,hb⟩
    . have Z:¬j=f:=fun e=>ha (by rw[e];exact (bv f).1 I)
      exact⟨f,I,by rw[<-an listed j f Z];exact W,hb⟩
    have Z:¬j=f:=fun e=>ha (by rw[e];exact (bv f).1 I)
    exact⟨f,I,by rw[an listed j f Z];exact W,hb⟩
   refine ju4 hR hE fR fun v w' e6 hv=>eS _ _ ⟨eo,fun t d8=>?_,β,blk,?_⟩
   . have ew:oj.dst≠some t:=fun e=>by
      rw[e]at c7;simp only[dok,decide_eq_true_eq]at c7;omega
     cases ez:oj.dst with
     |none=>simp only[q5u];exact d4 t d8
     |some d=>
      simp only[q5u];rw[if_neg (fun e=>ew (by rw[ez,e]))];exact d4 t d8
   rw[dI,dS listed j cc];have eu:r1 j=r j:=by simp only[r1,if_neg ha]
   have ao:=hR.still e6;refine⟨?_,?_,?_⟩
   . have eW:(a.put oj.dst v).tmps.size=a.tmps.size:=by cases dc:oj.dst<;>simp[Act.put]
     have eX:(a.put oj.dst v).defers=a.defers:=by cases dc:oj.dst<;>rfl
     exact {df:=by rw[eX];exact ao.df,nt:=by rw[eW];exact ao.nt,ntc:=ao.ntc,nb:=ao.nb,alt:=ao.alt,gs:=ao.gs,hp:=ao.hp,ext:=ao.ext,env:=fun t=>by simp only[q0x,rep]}
   . intro t
     rw[eu]
     cases ez:oj.dst with
     |none=>simp only[q5u,Act.put];exact z9x (s:=⟨s.nb,[],hs (H1 listed),ns (H1 listed),s.nt⟩) (C:=q0g C (qa5 (Fn q) listed blk)) e6 (hE t)
     |some d=>
      simp only[q5u,Act.put];have c5:d<a.tmps.size:=by
       rw[ez]at c7;simp only[dok,decide_eq_true_eq]at c7;rw[hR.nt];exact c7
      rw[z5e _ _ _ _ _ c5]
      split
      . exact hv
      exact z9x (s:=⟨s.nb,[],hs (H1 listed),ns (H1 listed),s.nt⟩) (C:=q0g C (qa5 (Fn q) listed blk)) e6 (hE t)
   have Z:∀f∈Fn q,¬j=f:=fun f I e=>ha (by rw[e];exact (bv f).1 I)
   have ex:∀f∈Fn q,oj.dst≠some (dd f):=fun f I e=>by
    obtain⟨d,g1,g2⟩:=dU f ((bv f).1 I);have dP:dd f=d:=by simp only[dd,g1,Xp]
    have:=(g2 j hj (fun e'=>Z f I e')).1;rw[eT,e,dP]at this;exact this rfl
   refine⟨fun f I W=>?_,fun f I W=>?_,fun f I W=>?_,fun f I g hg W dk hb=>?_⟩
   . rw[an listed j f (Z f I)]at W
     rw[dN a _ _ _ (ex f I)];exact hA.tmp f I W
   . rw[an listed j f (Z f I)]at W
     obtain⟨e',e8⟩:=hA.cell f I W;exact⟨e',(e6.block _ (Xx.1 e8).1).trans e8⟩
   . rw[an listed j f (Z f I)]at W
     exact hA.new f I W
   rw[an listed j f (Z f I)]at W
   rw[an listed j g (Z g hg)]at dk;exact hA.inj f I g hg W dk hb
 . -- all are there
   intro ej listed a w E cp fq aj aq ⟨ar,_,β,blk,hR,hE,hA⟩ hI;have ea:∀f∈Fn q,listed.getD f false=true:=fun f I=>aq.1 f ((bv f).1 I);have dI:q0g C (qa5 (Fn q) listed blk)=q0g C (fun b=>∃f∈Fn q,blk f=b):=z7c fun b=>by
    constructor
    . rintro⟨f,I,_,hb⟩;exact⟨f,I,hb⟩
    rintro⟨f,I,hb⟩;exact⟨f,I,ea f I,hb⟩
   have eA:hs (H1 listed)=hs p/\ns (H1 listed)=ns p:=by
    have:∀n,n<=p->hs (q21 pre listed n)=hs n/\ns (q21 pre listed n)=ns n:=by
     intro n
     induction n with
     |zero=>intro _;exact⟨rfl,rfl⟩
     |succ n ih=>
      intro h1;rw[q21]
      split
      . exact⟨rfl,rfl⟩
      rename_i hn
      have h4:=ih (by omega);have h5:=cl n (by omega) (fun he=>hn ⟨he,aq.2 n he⟩) (fun he=>by have:=(c9 n he).1;omega) (fun ha=>by have:=ec n ha;omega);exact⟨h4.1.trans h5.1.symm,h4.2.trans h5.2.symm⟩
    exact this p (Xa _)
   rw[dI,eA.1,eA.2]at hR;rw[dI,eA.1,eA.2]at hE;obtain⟨β',ao,e7⟩:=Rel.bS (d:=dd) (zs:=zz) (blk:=blk) (Fn q) (hs p) (ns p) β E fe (fun f I=>hA.tmp f I (ea f I)) (fun f I=>hA.cell f I (ea f I)) (fun f I=>hA.new f I (ea f I)) (fun f I g hg=>hA.inj f I g hg (ea f I) (ea g hg)) hR hE;have hp0:q21 effs listed k=0:=by
    rw[qs5 (j:=0) (fun i _ he=>ar i he) k (Yu _)];rfl
   have fr:H listed=q:=by simp only[H,hp0];exact Nat.max_eq_right (Yu _)
   obtain⟨g1,g2⟩:=eK q fv (Xa _);refine eC ej listed a w β' (cR dd (Fn q) (ns p) E) cp fq aj ?_ ?_ ?_ (fun f I=>(Xj.1 I).elim (aq.1 f) (aq.2 f))
   . rw[fr,g1,g2];exact ao
   . rw[fr,g1,g2];exact e7
   intro t
   rcases eR E t q (Xa _)with⟨f,c1,c2,c3,c4⟩|⟨c1,c2⟩
   . have ek:f<k:=Xi (d0 f c2) dT
     refine .inl ⟨f,by omega,aq.1 f c2,by rw[dc f c2,c3],fun i gb fT W=>?_,c4⟩;have fU:=(aj i _ (Xh fT) W).1;obtain⟨d,d1,d2⟩:=dU f c2;have dP:dd f=d:=by simp only[dd,d1,Xp]
     rw[<-c3,dP];exact (d2 i fU (by omega)).1
   rcases hI t with⟨i,b1,b2,b3,b4,b5⟩|⟨b1,b2⟩
   . have c6:i∉G:=fun ha=>c1 i (d0 i ha) ha (by have:=dc i ha;rw[b3]at this;exact (Yk this).symm)
     refine .inl ⟨i,b1,b2,b3,b4,?_⟩;rw[c2,b5];simp only[r1,if_neg c6]
   exact .inr ⟨b1,by rw[c2,b2]⟩
 . exact Yj (List.length_filter_le _ _) (by simp)
 . intro i oi _ hL
   simp[Yc]at hL
   split at hL<;>simp at hL
 . have dZ:∀i,(Yl ops.size false).getD i false=false:=fun i=>by
    simp[Xb,Yc];split<;>rfl
   have fV:q0g C (qa5 (Fn q) (Yl ops.size false) fun _=>0)=C:=zm2 fun b=>by
    rintro⟨f,_,W,_⟩;rw[dZ]at W;cases W
   have fW:H1 (Yl ops.size false)=0:=by
    simp only[H1];rw[qs5 (j:=0) (fun i _ _=>dZ i) p (Yu _)];rfl
   refine⟨fun e _=>dZ e,fun t d8=>z7g eb t d8,β,fun _=>0,?_⟩;rw[fV,fW,z1,z2];exact⟨fF,fG,⟨(fun f _ W=>by rw[dZ]at W;cases W),(fun f _ W=>by rw[dZ]at W;cases W),(fun f _ W=>by rw[dZ]at W;cases W),(fun f _ g _ W=>by rw[dZ]at W;cases W)⟩⟩
 refine fun t=> .inr ⟨fun i _ hL=>?_,rfl⟩
 simp[Yc]at hL
 split at hL<;>simp at hL
theorem q2g{P:Program}{ops:Array Oper}{s:St}{K:St->Prop}(k p q:Nat)(Z T I pre effs G:List Nat)(hm:P.follows .mixedOrders=true)(a6:qy3 Z 0 ops.toList=true)(hk:k<=ops.size)(aj:zd5 Z ops.size k=true)(hc:zt8 ops (fun i j=>(Z.getD i 0).testBit j) k p q I pre effs G=true)(W:zn6 s.nt s.env=true)
 (h:vcA P ops (fun _=>T) I (pre++effs) G (ops.toList.take k) 0 s fun s'=>qk3 P ops (ops.toList.drop k) s' K):z2n P ops s K:=
 ji0 k p q Z (fun _=>T) I pre effs G (Xe.2 fun j _=>by
  simp only[Xc,Xe,decide_eq_true_eq,Xv];exact⟨fun _ _ x hx=>hx,fun e _=> .inr fun x hx=>hx⟩) hm a6 hk aj hc W h
end
section
open Go Go.RowKit
def Eqv(a b:Exit->St->Prop):Prop:=a=b
section
variable {P:Program} {Q QQ:Exit->St->Prop} {s:St} {N:St->Prop} {a b c x y:Code} {i j:Nat}
theorem zk5(G:bC a=false)(h:∀QQ:Exit->St->Prop,Eqv QQ (z1m P Q b)->vc P a QQ s):vc P (.seq a b) Q s:=by
 rw[j0h,if_neg (by simp[G])];exact h _ rfl
theorem sg(h:∀QQ:Exit->St->Prop,Eqv QQ (z1m P Q b)->vc P a QQ s)(G:bC a=false:=by kernel_rfl):vc P (.seq a b) Q s:=zk5 G h
theorem z4c(G:bC a=true)(h:wpV P (.seq a b) Q s):vc P (.seq a b) Q s:=by
 rw[j0h,if_pos G];exact h
theorem z3l(h:∀QQ:Exit->St->Prop,Eqv QQ (z1m P Q b)->vc P a QQ s):wpV P (.seq a b) Q s:=jp3 (h _ rfl)
theorem z8(h:∀QQ:Exit->St->Prop,Eqv QQ (qf7 i Q)->vc P c QQ s):vc P (.block i c) Q s:=h _ rfl
theorem q8(G:Eqv QQ (z1m P Q b))(h:vc P b Q s):QQ .normal s:=by unfold Eqv at G;subst G;exact h
theorem q1f(G:Eqv QQ (z1m P Q b))(h:Q (.exit i) s):QQ (.exit i) s:=by unfold Eqv at G;subst G;exact h
theorem q0y(G:Eqv QQ (z1m P Q b))(h:Q .ret s):QQ .ret s:=by unfold Eqv at G;subst G;exact h
theorem q08(G:Eqv QQ (qf7 i Q))(h:Q .normal s):QQ .normal s:=by unfold Eqv at G;subst G;exact h
theorem q0h(G:Eqv QQ (qf7 i Q))(h:Q .normal s):QQ (.exit i) s:=by unfold Eqv at G;subst G;simp only[qf7,if_true];exact h
theorem j2u(I:Eqv QQ (qf7 i Q))(G:¬j=i)(h:Q (.exit j) s):QQ (.exit j) s:=by unfold Eqv at I;subst I;simp only[qf7,if_neg G];exact h
theorem q0r(G:Eqv QQ (qf7 i Q))(h:Q .ret s):QQ .ret s:=by unfold Eqv at G;subst G;exact h
theorem p8(G:Eqv QQ (q6t N Q))(h:N s):QQ .normal s:=by unfold Eqv at G;subst G;exact h
theorem q0o(G:Eqv QQ (q6t N Q))(h:Q (.exit i) s):QQ (.exit i) s:=by unfold Eqv at G;subst G;exact h
theorem q31(G:Eqv QQ (q6t N Q))(h:Q .ret s):QQ .ret s:=by unfold Eqv at G;subst G;exact h
theorem qv2{b:Bool}{t:Operand}(G:x8 s.env t=.v (.bool b))(I:b=true->vc P x Q s)(T:b=false->vc P y Q s):vc P (.cond t x y) Q s:=by
 simp only[vc,G];exact⟨I,T⟩
theorem q7n{t:Operand}(G:x8 s.env t=.v (.bool true))(I:vc P x Q s):vc P (.cond t x y) Q s:=qv2 G (fun _=>I) (fun h=>by cases h)
theorem qh3{t:Operand}(G:x8 s.env t=.v (.bool false))(I:vc P y Q s):vc P (.cond t x y) Q s:=qv2 G (fun h=>by cases h) (fun _=>I)
theorem q07{ops:Array Oper}(h:z2n P ops s (Q .normal)):vc P (.region i ops true) Q s:=by simp only[vc,if_true];exact h
theorem y7(h:Q .normal s):vc P .skip Q s:=h
theorem j3f{l}(h:Q .normal s):vc P (.label l) Q s:=h
theorem q03(h:Q .ret s):vc P .ret Q s:=h
theorem q0n(h:Q (.exit i) s):vc P (.exit i) Q s:=h
theorem z8l(h:wpV P (.loop c) Q s):vc P (.loop c) Q s:=h
theorem zf7{ι:Type}(S:ι->St)(I:ι->Prop)(h:∀QQ:Exit->St->Prop,Eqv QQ (q6t (fun s'=>∃i l,Le s' (S i) l/\I i) Q)->vc P x QQ s)(G:∀i,I i->vc P y Q (S i)):wpV P (.seq x y) Q s:=
 jp4 S I (h _ rfl) G
theorem j1n{ι:Type}(S:ι->St)(I:ι->Prop)(G:ι->Nat)(i0:ι)(W:List (Option Nat))(Z:Le s (S i0) W)(hI:I i0)
 (hr:∀i,I i->∀QQ:Exit->St->Prop,Eqv QQ (q6t (fun s'=>∃T l',Le s' (S T) l'/\I T/\G T<G i) Q)->vc P c QQ (S i)):wpV P (.loop c) Q s:=
 j6l S I G i0 W Z hI fun i hi=>hr i hi _ rfl
end
end
section
open Go Go.RowKit
section
variable {P:Program} {ops:Array Oper} {t:Nat->List Nat} {l e a:List Nat} {j:Nat} {s:St} {K:St->Prop}
def vaK(P:Program)(ops:Array Oper)(t:Nat->List Nat)(l e a:List Nat)(r:List Oper)(j:Nat)(K:St->Prop)(s:St):Prop:=vcA P ops t l e a r j s K
def vqK(P:Program)(ops:Array Oper)(t:Nat->List Nat)(l e a:List Nat)(r:List Oper)(j:Nat)(K:St->Prop)(s:St)(d:Option Nat)(x:AV):Prop:=vcA P ops t l e a r j (s.put d x) K
theorem jw0{r:List Oper}:vaK P ops t l e a r j K s=vcA P ops t l e a r j s K:=rfl
theorem jv8{r:List Oper}{d:Option Nat}{x:AV}:vqK P ops t l e a r j K s d x=vcA P ops t l e a r j (s.put d x) K:=rfl
theorem jo0:vcA P ops t l e a [] j s K=K s:=rfl
theorem jc2{o:Oper}{r:List Oper}:vcA P ops t l e a (o::r) j s K=if j∈a then (o.guard=none/\s.nx∈t j)/\(match o.op with
 |.alloc ty=>match q1w P ty with
  |some zs=>vaK P ops t l e a r (j+1) K (({s with hp:=(s.nx,.box (zs.map AV.v))::s.hp,nx:=s.nx+1}:St).put o.dst (.ptr s.nx 0))
  |none=>False
 |_=>False)
 else if j∈e then j2f P ops (t j) o s (vaK P ops t l e a r (j+1) K)
 else (j∈l->z3r (t j) (x8 s.env) o.op)/\qG P ops s o (vqK P ops t l e a r (j+1) K s o.dst):=rfl
theorem jt0{t:List Nat}{hp:Hp}:j2h t hp K s=(q52 t s.hp=q52 t hp/\K s):=rfl
theorem j9u{d:Option Nat}{hp':Hp}{nx':Nat}{r:AV}:j9v d s K hp' nx' r=K (({s with hp:=hp',nx:=nx'}:St).put d r):=rfl
end
attribute [go_sem] jw0 jv8 jo0 jc2 jt0 j9u j2f ze7 k04 k05 q52 z3r Xf List.not_mem_nil
end
section
open Go Go.RowKit
def Ok{α:Type}(x:Option α)(Q:α->Prop):Prop:=∃r,x=some r/\Q r
section
variable {α β σ R:Type}
theorem Ok.some{a:α}{Q:α->Prop}(h:Q a):Ok (some a) Q:=⟨a,rfl,h⟩
theorem Ok.bind{x:Option α}{k:α->Option β}{Q:β->Prop}(h:Ok x fun a=>Ok (k a) Q):Ok (q9 x k) Q:=by
 obtain⟨a,rfl,r,G,I⟩:=h;exact⟨r,by simpa [q9]using G,I⟩
theorem k3m{x:Option α}{k:α->Option β}{P:α->Prop}{Q:β->Prop}(h:Ok x P)(G:∀a,P a->Ok (k a) Q):Ok (q9 x k) Q:=by
 obtain⟨a,rfl,h⟩:=h;exact Ok.bind ⟨a,rfl,G a h⟩
theorem Ok.guard{c:Prop}[Decidable c]{k:Option α}{Q:α->Prop}(G:c)(h:Ok k Q):Ok (u7 c k) Q:=by
 unfold u7;rw[if_pos G];exact h
theorem Ok.mono{x:Option α}{P Q:α->Prop}(h:Ok x P)(G:∀a,P a->Q a):Ok x Q:=by
 obtain⟨a,rfl,h⟩:=h;exact⟨a,rfl,G a h⟩
theorem k3n{b:Bool}{x y:Option α}{Q:α->Prop}(G:b=true->Ok x Q)(I:b=false->Ok y Q):Ok (if b=true then x else y) Q:=by
 cases b
 . exact I rfl
 exact G rfl
theorem Ok.idx{l:List α}{i:Int}{Q:α->Prop}(G:0<=i)(I:i<l.length)(h:Q (l[i.toNat]'(by omega))):Ok (Go.Proofs.YtomicnbiniapfaaGreat.idx l i) Q:=by
 refine⟨_,?_,h⟩;unfold Go.Proofs.YtomicnbiniapfaaGreat.idx;rw[if_pos G,X0 (by omega)]
theorem Ok.bM{l:List α}{i:Int}{Q:α->Prop}(G:0<=i)(I:i<l.length)(h:∀x,l[i.toNat]?=.some x->Q x):Ok (Go.Proofs.YtomicnbiniapfaaGreat.idx l i) Q:=
 Ok.idx G I (h _ (X0 (by omega)))
theorem k3o{l:List α}{i:Nat}{Q:α->Prop}(G:i<l.length)(h:Q l[i]):Ok (Go.Proofs.YtomicnbiniapfaaGreat.idx l (i:Int)) Q:=Ok.idx (by omega) (by omega) (by simpa using h)
theorem Ok.loop{body:(σ->Option R)->σ->Option R}(I:σ->Prop)(G:σ->Nat){Q:R->Prop}
 (h:∀(rec:σ->Option R) s,I s->(∀s',I s'->G s'<G s->Ok (rec s') Q)->Ok (body rec s) Q):∀(n:Nat) (s:σ),I s->G s<n->Ok (d9 body n s) Q
 |0,_,_,T=>absurd T (X8 _)
 |n+1,s,hi,T=>h (d9 body n) s hi fun s' hi' W=>Ok.loop I G h n s' hi' (by omega)
theorem k3p{body:(σ->Option R)->σ->Option R}(I:σ->Prop)(G:σ->Nat){Q:R->Prop}{s:σ}
 (h:∀(rec:σ->Option R) s,I s->(∀s',I s'->G s'<G s->Ok (rec s') Q)->Ok (body rec s) Q)(hi:I s)(T:G s<rounds):Ok (d9 body rounds s) Q:=Ok.loop I G h rounds s hi T
theorem Ok.eq{x:Option α}{a:α}(h:Ok x fun r=>r=a):x=.some a:=by
 obtain⟨r,rfl,rfl⟩:=h;rfl
theorem k3q{x:Option α}{a:α}{Q:α->Prop}(h:x=.some a)(G:Q a):Ok x Q:=⟨a,h,G⟩
end
def In(n:Int):Prop:=-9223372036854775808<=n/\n<9223372036854775808
end
section
open Go Go.RowKit
section
variable {α:Type}
def k1a(s:List α)(f:α->Option Bool)(rec:Int->Option Int):Int->Option Int:=
 fun t=>(if (decide (t<(List.length s:Int)))=true then q9 (idx s t) (fun x=>q9 (f x) (fun v=>(if v=true then some t else rec (IntKind.i64.wrap (t+1)))))else some (-1))
def zo1(s:List α)(f:α->Option Bool):Option Int:=d9 (k1a s f) rounds 0
def z9q(s:List α)(f:α->Option Bool):Option Bool:=q9 (zo1 s f) fun v=>some (decide (0<=v))
def qs9(p:α->Bool)(s:List α):Int:=match s.findIdx? p with
 |some i=>i
 |none=>-1
theorem zg3{p:α->Bool}:∀{s:List α} {i:Nat},(∀x∈s.take i,p x=false)->∀(h:i<s.length),p s[i]=true->s.findIdx? p=some i
 |[],_,_,h,_=>by simp at h
 |x::s,0,_,_,hp=>by simp at hp;simp[Y3,hp]
 |x::s,i+1,G,h,hp=>by
  have I:p x=false:=G x (by simp);rw[Y3,I];simp at hp;have:=zg3 (s:=s) (i:=i) (fun y T=>G y (by simp[T])) (by simpa using h) hp;rw[this];rfl
theorem z9p{s:List α}{f:α->Option Bool}{p:α->Bool}(hl:s.length<9223372036854775808)(Z:∀x∈s,f x=some (p x)):zo1 s f=some (qs9 p s):=by
 refine Ok.eq (k3p (fun t:Int=>∃i:Nat,t=i/\i<=s.length/\∀x∈s.take i,p x=false) (fun t:Int=>s.length-t.toNat) ?_ ⟨0,rfl,by omega,by simp⟩ (by simp[rounds];omega));rintro rec t ⟨i,rfl,hi,hp⟩ hr;refine k3n (fun T=>?_) (fun T=>?_)
 .
  simp only[decide_eq_true_eq]at T;have G:i<s.length:=by omega
  refine Ok.bind (k3o G (Ok.bind (k3q (Z _ (Yh G)) ?_)));refine k3n (fun W=>Ok.some ?_) (fun W=>?_)
  . unfold qs9;rw[zg3 hp G W]
  have hw:IntKind.i64.wrap ((i:Int)+1)=((i+1:Nat):Int):=by rw[wrap_i64 _ (by omega)];omega
  rw[hw];refine hr _ ⟨i+1,rfl,by omega,fun x I=>?_⟩ (by simp only[Yp];omega);rw[X3 G,Xj]at I;rcases I with I|I
  . exact hp x I
  simp only[Yo]at I;rw[I];exact W
 simp only[decide_eq_false_iff_not]at T;have:i=s.length:=by omega
 subst this;refine Ok.some ?_;rw[Y7]at hp;unfold qs9;rw[Yq.2 hp]
theorem zz2{p:α->Bool}{s:List α}:decide (0<=qs9 p s)=s.any p:=by
 unfold qs9
 cases h:s.findIdx? p with
 |none=>
  have:=Yq.1 h;have G:s.any p=false:=by simpa using this
  simp[G]
 |some i=>
  obtain⟨hi,hp,_⟩:=List.findIdx?_eq_some_iff_getElem.1 h;have G:s.any p=true:=List.any_eq_true.2 ⟨_,Yh hi,hp⟩;simp[G]
theorem z02{s:List α}{f:α->Option Bool}{p:α->Bool}(G:s.length<9223372036854775808)(I:∀x∈s,f x=some (p x)):z9q s f=some (s.any p):=by
 unfold z9q;rw[z9p G I];simp only[q9,Option.bind_some,zz2]
end
end
section
open Go Go.RowKit
abbrev di:Nat->Prop:=own noG [] (fun _=>False)
theorem q2r:∀{T I:List CT} {G:List AV},q46 (T++I) G->∃a1 a2,G=a1++a2/\q46 T a1/\q46 I a2
 |[],I,G,h=>⟨[],G,rfl,by simp only[q46],h⟩
 |c::T,I,G,h=>by
  simp only[Yr,q46]at h;obtain⟨a,r,rfl,W,Z⟩:=h;obtain⟨a1,a2,rfl,h3,h4⟩:=q2r Z;exact⟨a::a1,a2,rfl,by simp only[q46];exact⟨a,a1,rfl,W,h3⟩,h4⟩
end
section
open Go Go.RowKit
theorem jc8(l:List UInt8):(enc l).map z4f=l:=by
 induction l with
 |nil=>rfl
 |cons x l G=>
  simp only[enc,Xw]at G⊢;rw[G];simp[zl3,z4f]
theorem jo7(l:List UInt8):(enc l).all z8g=true:=by
 induction l with
 |nil=>rfl
 |cons x l G=>
  simp only[enc,Xw,Yx]at G⊢;rw[G];simp[zl3,z8g]
theorem j49(a b:List UInt8):((⟨⟨a⟩⟩:ByteArray)==⟨⟨b⟩⟩)=(a==b):=by
 show ((⟨a⟩:Array UInt8)==⟨b⟩)=(a==b)
 simp
theorem jo6(a b:List UInt8):((⟨⟨a⟩⟩:ByteArray)!=⟨⟨b⟩⟩)=!(a==b):=by rw[bne,j49]
theorem jc7(a:List UInt8):(⟨⟨a⟩⟩:ByteArray).size=a.length:=rfl
theorem jc9(a:List UInt8):(⟨⟨a⟩⟩:ByteArray).data.toList=a:=rfl
theorem jo5(a:List UInt8):(⟨a.toArray⟩:ByteArray)=⟨⟨a⟩⟩:=rfl
attribute [go_sem] zp5 jc8 jo7 j49 jo6 jc7 jc9 jo5
theorem zp4{P:Program}{ops:Array Oper}{s s':St}{l:List (Option Nat)}{K:St->Prop}(W:Le s s' l)(h:z2n P ops s' K):z2n P ops s K:=fun id G C a w β Z Q' hQ=>by
 obtain⟨I,T,_⟩:=qv0 Z W;exact h id (by rw[W.1];exact G) C a w I T Q' hQ
attribute [go_sem] Int.reduceToNat Int.reduceLT Int.reduceLE Int.reduceBEq Int.reduceEq Int.reduceNeg Int.reduceNegSucc Int.reduceSub Int.reduceAdd Int.reduceMul Int.natCast_zero Int.natCast_one UInt8.reduceToNat Nat.reduceEqDiff Nat.reduceAdd Nat.reduceMul Nat.reduceSub Nat.reduceLeDiff Nat.reduceBEq reduceCtorEq
attribute [go_sem ↓] reduceIte
attribute [bool_to_prop] decide_eq_true_eq decide_eq_false_iff_not Ye Bool.not_eq_false' beq_iff_eq beq_eq_false_iff_ne ne_eq Xc Xv Int.not_lt Int.not_le
end
section
open Go Go.RowKit
theorem j20{α:Type}{f:α->AV}{L:List α}{i:Int}{x:α}(h:idx L i=some x):0<=i/\i<L.length/\i.toNat<L.length/\(L.map f)[i.toNat]?.getD .bk=f x:=by
 unfold idx at h
 split at h
 .
  rename_i I
  obtain⟨G,T⟩:=X9.1 h;refine⟨I,by omega,G,?_⟩;simp[G,T]
 cases h
theorem z1s{α:Type}{f:α->AV}{L:List α}{i:Int}{x:α}(pre post:List AV)(h:idx L i=some x):0<=i/\i<L.length/\pre.length+i.toNat<(pre++(L.map f++post)).length/\(pre++(L.map f++post))[pre.length+i.toNat]?.getD .bk=f x:=by
 obtain⟨G,I,T,W⟩:=j20 (f:=f) h;refine⟨G,I,by simp only[Xu,Ya];omega,?_⟩;rw[X7 (Nat.le_add_right _ _),Yt,Yb (by rw[Ya];exact T)];exact W
theorem jc5{α:Type}[Row α](l:List α):enc l=List.take l.length (enc l):=by rw[<-q17,Y7]
mutual
def q2j(ρ:Nat->Nat):AV->AV
 |.ptr id off=> .ptr (ρ id) off
 |.apt id sz i off=> .apt (ρ id) sz i off
 |.osl id sz off len=> .osl (ρ id) sz off len
 |.bsl id off len=> .bsl (ρ id) off len
 |.agg cs=> .agg (q6n ρ cs)
 |.tup cs=> .tup (q6n ρ cs)
 |.clo f cs=> .clo f (q6n ρ cs)
 |.grd g a=> .grd g (q2j ρ a)
 |.v x=> .v x
 |.sl sz xs=> .sl sz xs
 |.el sz xs i off=> .el sz xs i off
 |.mp id=> .mp (ρ id)
 |.erb g=> .erb g
 |.bk=> .bk
def q6n(ρ:Nat->Nat):List AV->List AV
 |[]=>[]
 |a::r=>q2j ρ a::q6n ρ r
end
mutual
def ltA(n:Nat):AV->Bool
 |.ptr id _=>decide (id<n)
 |.apt id _ _ _=>decide (id<n)
 |.osl id _ _ _=>decide (id<n)
 |.bsl id _ _=>decide (id<n)
 |.agg cs=>ltL n cs
 |.tup cs=>ltL n cs
 |.clo _ cs=>ltL n cs
 |.grd _ a=>ltA n a
 |.v _=>true
 |.sl _ _=>true
 |.el _ _ _ _=>true
 |.mp id=>decide (id<n)
 |.erb _=>true
 |.bk=>true
def ltL(n:Nat):List AV->Bool
 |[]=>true
 |a::r=>ltA n a&&ltL n r
end
mutual
theorem zw3{ρ:Nat->Nat}:∀(a:AV),q0q a=true->q2j ρ a=a
 |.v _,_=>rfl
 |.sl ..,_=>rfl
 |.el ..,_=>rfl
 |.ptr ..,h=>by simp[q0q]at h
 |.apt ..,h=>by simp[q0q]at h
 |.osl ..,h=>by simp[q0q]at h
 |.bsl ..,h=>by simp[q0q]at h
 |.mp _,h=>by simp[q0q]at h
 |.erb _,_=>rfl
 |.bk,_=>rfl
 |.agg cs,h=>by simp only[q0q]at h;simp only[q2j,q5x h]
 |.tup cs,h=>by simp only[q0q]at h;simp only[q2j,q5x h]
 |.clo f cs,h=>by simp only[q0q]at h;simp only[q2j,q5x h]
 |.grd g a,h=>by simp only[q0q]at h;simp only[q2j,zw3 a h]
theorem q5x{ρ:Nat->Nat}:∀{as:List AV},q0j as=true->q6n ρ as=as
 |[],_=>rfl
 |a::as,h=>by
  simp only[q0j,Xc]at h;simp only[q6n,zw3 a h.1,q5x h.2]
end
mutual
theorem j1m{n:Nat}:∀(a:AV),q0q a=true->ltA n a=true
 |.v _,_=>rfl
 |.sl ..,_=>rfl
 |.el ..,_=>rfl
 |.ptr ..,h=>by simp[q0q]at h
 |.apt ..,h=>by simp[q0q]at h
 |.osl ..,h=>by simp[q0q]at h
 |.bsl ..,h=>by simp[q0q]at h
 |.mp _,h=>by simp[q0q]at h
 |.erb _,_=>rfl
 |.bk,_=>rfl
 |.agg cs,h=>by simp only[q0q]at h;simp only[ltA,q7k h]
 |.tup cs,h=>by simp only[q0q]at h;simp only[ltA,q7k h]
 |.clo f cs,h=>by simp only[q0q]at h;simp only[ltA,q7k h]
 |.grd g a,h=>by simp only[q0q]at h;simp only[ltA,j1m a h]
theorem q7k{n:Nat}:∀{as:List AV},q0j as=true->ltL n as=true
 |[],_=>rfl
 |a::as,h=>by
  simp only[q0j,Xc]at h;simp only[ltL,j1m a h.1,q7k h.2,Bool.and_self]
end
section
variable {w:World} {β β1:aI} {nx n:Nat} {ow:Nat->Prop} {ρ:Nat->Nat}
theorem qq4{sz b:Nat}{xs:List (List AV)}{o:Nat}(h:q0p w β ow sz b xs o):q0p w β1 ow sz b xs o:=q26 (aW.refl w ow) sz b (fun _ _ G=>G) xs o h
mutual
theorem j4f(hb:∀id,id<n->β1 id=β (ρ id)):∀(a:AV) (u:Value),ltA n a=true->rep w β nx ow (q2j ρ a) u->rep w β1 n ow a u
 |.v x,u,_,h=>by simpa only[q2j,rep]using h
 |.ptr id off,u,G,h=>by
  simp only[ltA,decide_eq_true_eq]at G;simp only[q2j,rep]at h⊢;obtain⟨_,b,C,I,T⟩:=h;exact⟨G,b,C,(hb id G).trans I,T⟩
 |.apt id sz i off,u,G,h=>by
  simp only[ltA,decide_eq_true_eq]at G;simp only[q2j,rep]at h⊢;obtain⟨_,b,C,I,T⟩:=h;exact⟨G,b,C,(hb id G).trans I,T⟩
 |.bsl id off len,u,G,h=>by
  simp only[ltA,decide_eq_true_eq]at G;simp only[q2j,rep]at h⊢;rw[hb id G];exact⟨G,h.2⟩
 |.osl id sz off len,u,G,h=>by
  simp only[ltA,decide_eq_true_eq]at G;simp only[q2j,rep]at h⊢;rw[hb id G];exact⟨G,h.2⟩
 |.mp id,u,G,h=>by
  simp only[ltA,decide_eq_true_eq]at G;simp only[q2j,rep]at h⊢;obtain⟨_,b,C,I,T⟩:=h;exact⟨G,b,C,(hb id G).trans I,T⟩
 |.erb g,u,_,h=>by simpa only[q2j,rep]using h
 |.bk,u,_,_=>by simp only[rep]
 |.sl sz xs,u,_,h=>by
  simp only[q2j,rep]at h⊢;rcases h with h|⟨b,o,cap,I,T,W,Z,h5⟩
  . exact .inl h
  exact .inr ⟨b,o,cap,I,T,W,Z,qq4 h5⟩
 |.el sz xs i off,u,_,h=>by
  simp only[q2j,rep]at h⊢;obtain⟨b,o,I,W,Z,h5⟩:=h;exact⟨b,o,I,W,Z,qq4 h5⟩
 |.agg cs,u,G,h=>by
  simp only[ltA]at G;simp only[q2j,rep]at h⊢;obtain⟨l,I,T⟩:=h;exact⟨l,I,qz9 hb cs l G T⟩
 |.tup cs,u,G,h=>by
  simp only[ltA]at G;simp only[q2j,rep]at h⊢;obtain⟨l,I,T⟩:=h;exact⟨l,I,qz9 hb cs l G T⟩
 |.clo f cs,u,G,h=>by
  simp only[ltA]at G;simp only[q2j,rep]at h⊢;obtain⟨l,I,T⟩:=h;exact⟨l,I,qz9 hb cs l G T⟩
 |.grd g a,u,G,h=>by
  simp only[ltA]at G;simp only[q2j,rep]at h⊢;exact⟨fun hg=>j4f hb a u G (h.1 hg),h.2⟩
theorem qz9(hb:∀id,id<n->β1 id=β (ρ id)):∀(as:List AV) (us:List Value),ltL n as=true->y9 w β nx ow (q6n ρ as) us->y9 w β1 n ow as us
 |[],[],_,_=>by simp only[y9]
 |a::as,u::us,G,h=>by
  simp only[ltL,Xc]at G;simp only[q6n,y9]at h⊢;exact⟨j4f hb a u G.1 h.1,qz9 hb as us G.2 h.2⟩
 |[],u::us,_,h=>by simp only[q6n,y9]at h
 |a::as,[],_,h=>by simp only[q6n,y9]at h
end
mutual
theorem zh2(hb:∀id,id<n->β (ρ id)=β1 id)(T:∀id,id<n->ρ id<nx):∀(a:AV) (u:Value),rep w β1 n ow a u->rep w β nx ow (q2j ρ a) u
 |.v x,u,h=>by simpa only[q2j,rep]using h
 |.ptr id off,u,h=>by
  simp only[q2j,rep]at h⊢;obtain⟨W,b,C,G,I⟩:=h;exact⟨T id W,b,C,(hb id W).trans G,I⟩
 |.apt id sz i off,u,h=>by
  simp only[q2j,rep]at h⊢;obtain⟨W,b,C,G,I⟩:=h;exact⟨T id W,b,C,(hb id W).trans G,I⟩
 |.bsl id off len,u,h=>by
  simp only[q2j,rep]at h⊢;rw[hb id h.1];exact⟨T id h.1,h.2⟩
 |.osl id sz off len,u,h=>by
  simp only[q2j,rep]at h⊢;rw[hb id h.1];exact⟨T id h.1,h.2⟩
 |.mp id,u,h=>by
  simp only[q2j,rep]at h⊢;obtain⟨W,b,C,G,I⟩:=h;exact⟨T id W,b,C,(hb id W).trans G,I⟩
 |.erb g,u,h=>by simpa only[q2j,rep]using h
 |.bk,u,_=>by simp only[q2j,rep]
 |.sl sz xs,u,h=>by
  simp only[q2j,rep]at h⊢;rcases h with h|⟨b,o,cap,G,I,Z,h4,h5⟩
  . exact .inl h
  exact .inr ⟨b,o,cap,G,I,Z,h4,qq4 h5⟩
 |.el sz xs i off,u,h=>by
  simp only[q2j,rep]at h⊢;obtain⟨b,o,G,Z,h4,h5⟩:=h;exact⟨b,o,G,Z,h4,qq4 h5⟩
 |.agg cs,u,h=>by
  simp only[q2j,rep]at h⊢;obtain⟨l,G,I⟩:=h;exact⟨l,G,z09 hb T cs l I⟩
 |.tup cs,u,h=>by
  simp only[q2j,rep]at h⊢;obtain⟨l,G,I⟩:=h;exact⟨l,G,z09 hb T cs l I⟩
 |.clo f cs,u,h=>by
  simp only[q2j,rep]at h⊢;obtain⟨l,G,I⟩:=h;exact⟨l,G,z09 hb T cs l I⟩
 |.grd g a,u,h=>by
  simp only[q2j,rep]at h⊢;exact⟨fun hg=>zh2 hb T a u (h.1 hg),h.2⟩
theorem z09(hb:∀id,id<n->β (ρ id)=β1 id)(T:∀id,id<n->ρ id<nx):∀(as:List AV) (us:List Value),y9 w β1 n ow as us->y9 w β nx ow (q6n ρ as) us
 |[],[],_=>by simp only[q6n,y9]
 |a::as,u::us,h=>by
  simp only[q6n,y9]at h⊢;exact⟨zh2 hb T a u h.1,z09 hb T as us h.2⟩
 |[],u::us,h=>by simp only[y9]at h
 |a::as,[],h=>by simp only[y9]at h
end
def zr6(ρ:Nat->Nat):bj->bj
 |.box cs=> .box (q6n ρ cs)
 |.arr sz xs=> .arr sz xs
 |.con K G=> .con K (q6n ρ G)
def ltO(n:Nat):bj->Bool
 |.box cs=>ltL n cs
 |.arr _ _=>true
 |.con _ G=>ltL n G
theorem bZ{o:bj}:qh9 (zr6 ρ o)=qh9 o:=by cases o<;>rfl
def qe4(ρ:Nat->Nat):Hp->Hp
 |[]=>[]
 |p::r=>(ρ p.1,zr6 ρ p.2)::qe4 ρ r
def ltH(n:Nat):Hp->Bool
 |[]=>true
 |p::r=>decide (p.1<n)&&ltO n p.2&&ltH n r
theorem q1q{hp:Hp}{q:Nat×bj}:q∈qe4 ρ hp↔∃p∈hp,q=(ρ p.1,zr6 ρ p.2):=by
 induction hp with
 |nil=>simp[qe4]
 |cons p r G=>simp only[qe4,Xf,G,exists_eq_or_imp]
theorem jr0{hp:Hp}(h:ltH n hp=true):∀p∈hp,p.1<n/\ltO n p.2=true:=by
 induction hp with
 |nil=>intro p hp;cases hp
 |cons q r G=>
  simp only[ltH,Xc,decide_eq_true_eq]at h;intro p hp;rcases Xf.1 hp with rfl|hp
  . exact h.1
  exact G h.2 p hp
theorem j68(hb:∀id,id<n->β1 id=β (ρ id)){id:Nat}(hi:β1.inn id=β.inn (ρ id))(hid:id<n){o:bj}(Z:ltO n o=true)(h:q6f w β nx ow (ρ id) (zr6 ρ o)):q6f w β1 n ow id o:=by
 cases o with
 |box cs=>
  obtain⟨b,C,cur,e,G,I,T⟩:=h;exact⟨b,C,cur,e,(hb id hid).trans G,I,qz9 hb _ _ Z T⟩
 |arr sz xs=>
  rcases h with⟨G,I⟩|⟨b,C,cur,e,G,I,T,W,h5,h6⟩
  . exact .inl ⟨(hb id hid).trans G,I⟩
  exact .inr ⟨b,C,cur,e,(hb id hid).trans G,I,T,W,h5,qq4 h6⟩
 |con K ex=>
  rcases h with⟨b,C,us,G,I,T,W⟩|⟨G,I,T⟩
  . exact .inl ⟨b,C,us,(hb id hid).trans G,I,by rw[hi];exact T,qz9 hb _ _ Z W⟩
  exact .inr ⟨(hb id hid).trans G,I,by cases ex with|nil=>rfl|cons x r=>simp[q6n]at T⟩
theorem j3m(hb:∀id,id<n->β (ρ id)=β1 id)(Z:∀id,id<n->ρ id<nx){id:Nat}(hi:β.inn (ρ id)=β1.inn id)(hid:id<n){o:bj}(h:q6f w β1 n ow id o):q6f w β nx ow (ρ id) (zr6 ρ o):=by
 cases o with
 |box cs=>
  obtain⟨b,C,cur,e,G,I,T⟩:=h;exact⟨b,C,cur,e,(hb id hid).trans G,I,z09 hb Z _ _ T⟩
 |arr sz xs=>
  rcases h with⟨G,I⟩|⟨b,C,cur,e,G,I,T,W,h5,h6⟩
  . exact .inl ⟨(hb id hid).trans G,I⟩
  exact .inr ⟨b,C,cur,e,(hb id hid).trans G,I,T,W,h5,qq4 h6⟩
 |con K ex=>
  rcases h with⟨b,C,us,G,I,T,W⟩|⟨G,I,T⟩
  . exact .inl ⟨b,C,us,(hb id hid).trans G,I,by rw[hi];exact T,z09 hb Z _ _ W⟩
  subst T;exact .inr ⟨(hb id hid).trans G,I,by simp[q6n]⟩
end
def upR(ρ:Nat->Nat)(n nx:Nat)(i:Nat):Nat:=if i<n then ρ i else i-n+nx
open Classical in
theorem Spec.ren{P:Program}{f:FuncId}{args:List AV}{hp:Hp}{n:Nat}{Q:AV->Hp->Nat->Prop}(h:Spec P f args hp n Q)(ρ:Nat->Nat)(nx:Nat)(b2:∀i,i<n->ρ i<nx)(ar:∀i j,i<n->j<n->ρ i=ρ j->i=j)
 (ha:ltL n args=true)(hh:ltH n hp=true):
 Spec P f (q6n ρ args) (qe4 ρ hp) nx (fun r' hp' nx'=>∃r h1 n1,Q r h1 n1/\r'=q2j (upR ρ n nx) r/\hp'=qe4 (upR ρ n nx) h1/\nx'=n1-n+nx):=by
 intro w β A vs hA bi b1 c2
 let b5:aI:=⟨fun i=>β (ρ i),fun i=>β.inn (ρ i)⟩
 have c0:∀id,id<n->b5 id=β (ρ id):=fun _ _=>rfl;have b6:own b5 hp A=own β (qe4 ρ hp) A:=by
  funext b
  apply propext
  constructor
  .
   rintro (hx|⟨q,G,hc⟩)
   . exact .inl hx
   exact .inr ⟨_,q1q.2 ⟨q,G,rfl⟩,hc⟩
  rintro (hx|⟨q,G,hc⟩)
  . exact .inl hx
  obtain⟨p,hp',rfl⟩:=q1q.1 G;exact .inr ⟨p,hp',hc⟩
 have a6:=jr0 hh;have c3:∀(l:Hp),((qe4 ρ l).map (·.1)).Nodup->(l.map (·.1)).Nodup:=by
  intro l
  induction l with
  |nil=>intro _;simp
  |cons p r ih=>
   intro h0;simp only[qe4,Xw,Yi]at h0⊢;refine⟨fun hm=>h0.1 ?_,ih h0.2⟩;obtain⟨q,G,he⟩:=Xo.1 hm;exact Xo.2 ⟨_,q1q.2 ⟨q,G,rfl⟩,by simp only[he]⟩
 have c4:aV w b5 n A hp:=by
  refine⟨fun p hp'=>?_,fun p hp'=>(a6 p hp').1,c3 _ b1.nd,fun p hp' q G b c c' h1 h2=>?_,fun p hp' b c h1=>?_,fun p hp' hc=>?_,fun p hp' b hb=>?_⟩
  . rw[b6];exact j68 c0 rfl (a6 p hp').1 (a6 p hp').2 (b1.obj _ (q1q.2 ⟨p,hp',rfl⟩))
  . have:=b1.inj _ (q1q.2 ⟨p,hp',rfl⟩) _ (q1q.2 ⟨q,G,rfl⟩) b c c' h1 h2;exact ar _ _ (a6 p hp').1 (a6 q G).1 this
  . exact b1.av _ (q1q.2 ⟨p,hp',rfl⟩) b c h1
  . exact b1.i0 _ (q1q.2 ⟨p,hp',rfl⟩) (bZ.trans hc)
  obtain⟨i1,i2,i3,i4⟩:=b1.ib _ (q1q.2 ⟨p,hp',rfl⟩) b hb;exact⟨i1,i2,fun q G=>i3 _ (q1q.2 ⟨q,G,rfl⟩),fun q G c5=>ar _ _ (a6 q G).1 (a6 p hp').1 (i4 _ (q1q.2 ⟨q,G,rfl⟩) c5)⟩
 refine (h w b5 A vs hA (by rw[b6];exact qz9 c0 _ _ ha bi) c4 (c2.sub fun b ⟨q,G,hb⟩=>⟨_,q1q.2 ⟨q,G,rfl⟩,hb⟩)).mono ?_;rintro e w' ⟨v,r,h1,n1,aj,rfl,G,c6,I,T⟩
 let W:=upR ρ n nx
 let β':aI:=⟨fun j=>if j<nx then β j else aj (j-nx+n),fun j=>if hj:∃i,i<n/\ρ i=j then aj.inn hj.choose else if j<nx then β.inn j else aj.inn (j-nx+n)⟩
 have cc:=T.nx;have aq:∀id,id<n1->β' (W id)=aj id:=fun id hid=>by
  simp only[β',W,upR]
  by_cases Z:id<n
  . rw[if_pos Z,if_pos (b2 id Z)];exact (T.gh id Z).symm
  rw[if_neg Z,if_neg (by omega)]
  congr 1;omega
 have an:∀id,id<n1->β'.inn (W id)=aj.inn id:=fun id hid=>by
  by_cases Z:id<n
  . have e:W id=ρ id:=if_pos Z;have ak:∃i,i<n/\ρ i=ρ id:=⟨id,Z,rfl⟩;rw[e];exact (dif_pos ak).trans (by rw[ar _ _ ak.choose_spec.1 Z ak.choose_spec.2])
  have e:W id=id-n+nx:=if_neg Z;have ak:¬∃i,i<n/\ρ i=id-n+nx:=fun⟨i,h1,h2⟩=>by have:=b2 i h1;omega
  rw[e];exact (dif_neg ak).trans ((if_neg (by omega)).trans (by congr 1;omega))
 have b3:∀id,id<n1->∀b,bof β' (W id) b↔bof aj id b:=fun id hid b=>by unfold bof;rw[aq id hid,an id hid]
 have bs:∀id,id<n1->W id<n1-n+nx:=fun id hid=>by
  simp only[W,upR]
  split
  . rename_i Z;have:=b2 id Z;omega
  omega
 have bv:∀i j,i<n1->j<n1->W i=W j->i=j:=fun i j hi hj he=>by
  simp only[W,upR]at he
  split at he<;>split at he
  . rename_i a b;exact ar i j a b he
  . rename_i a b;have:=b2 i a;omega
  . rename_i a b;have:=b2 j b;omega
  omega
 have b4:own β' (qe4 W h1) A=own aj h1 A:=by
  funext b
  apply propext
  constructor
  .
   rintro (hx|⟨q,G,hc⟩)
   . exact .inl hx
   obtain⟨p,hp',rfl⟩:=q1q.1 G;exact .inr ⟨p,hp',(b3 p.1 (I.lt p hp') b).1 hc⟩
  rintro (hx|⟨q,G,hc⟩)
  . exact .inl hx
  exact .inr ⟨_,q1q.2 ⟨q,G,rfl⟩,(b3 q.1 (I.lt q G) b).2 hc⟩
 have c1:∀(l:Hp),(∀p∈l,p.1<n1)->(l.map (·.1)).Nodup->((qe4 W l).map (·.1)).Nodup:=by
  intro l
  induction l with
  |nil=>intro _ _;simp[qe4]
  |cons p r ih=>
   intro hl h0;simp only[qe4,Xw,Yi]at h0⊢;refine⟨fun hm=>h0.1 ?_,ih (fun q G=>hl q (by simp[G])) h0.2⟩;obtain⟨q,G,he⟩:=Xo.1 hm;obtain⟨p',hp',rfl⟩:=q1q.1 G;exact Xo.2 ⟨p',hp',bv _ _ (hl p' (by simp[hp'])) (hl p (by simp)) he⟩
 refine⟨v,_,_,_,β',rfl,⟨r,h1,n1,G,rfl,rfl,rfl⟩,?_,?_,?_⟩
 . rw[b4];exact zh2 aq bs _ _ c6
 .
  refine⟨fun q G=>?_,fun q G=>?_,c1 _ I.lt I.nd,fun p hp q G b c c' h2 h3=>?_,fun q G b c h2=>?_,fun q G hc=>?_,fun q G b hb=>?_⟩
  . obtain⟨p,hp',rfl⟩:=q1q.1 G;rw[b4];exact j3m aq bs (an _ (I.lt p hp')) (I.lt p hp') (I.obj p hp')
  . obtain⟨p,hp',rfl⟩:=q1q.1 G;exact bs _ (I.lt p hp')
  . obtain⟨p',hp',rfl⟩:=q1q.1 hp;obtain⟨q',ao,rfl⟩:=q1q.1 G;simp only at h2 h3⊢;rw[aq _ (I.lt p' hp')]at h2;rw[aq _ (I.lt q' ao)]at h3;rw[I.inj p' hp' q' ao b c c' h2 h3]
  . obtain⟨p,hp',rfl⟩:=q1q.1 G;simp only at h2;rw[aq _ (I.lt p hp')]at h2;exact I.av p hp' b c h2
  . obtain⟨p,hp',rfl⟩:=q1q.1 G;exact (an _ (I.lt p hp')).trans (I.i0 p hp' (bZ.symm.trans hc))
  obtain⟨p,hp',rfl⟩:=q1q.1 G;simp only at hb;rw[an _ (I.lt p hp')]at hb;obtain⟨i1,i2,i3,i4⟩:=I.ib p hp' b hb;refine⟨i1,i2,fun q G c hc=>?_,fun q G hc=>?_⟩
  . obtain⟨q',ao,rfl⟩:=q1q.1 G;simp only at hc;rw[aq _ (I.lt q' ao)]at hc;exact i3 q' ao c hc
  obtain⟨q',ao,rfl⟩:=q1q.1 G;simp only at hc⊢;rw[an _ (I.lt q' ao)]at hc;rw[i4 q' ao hc]
 refine⟨by omega,fun j hj=>by simp only[β',if_pos hj],fun j hj c7=>?_,fun q G=>?_,fun q G b h2=>?_,T.os,T.tape,T.output,T.size,fun b hb c8=>T.keep b hb ?_⟩
 .
  simp only[β']
  split
  .
   rename_i ak
   rw[T.gi _ ak.choose_spec.1 fun hm=>c7 (by
    obtain⟨p,hp',he⟩:=Xo.1 hm;exact Xo.2 ⟨_,q1q.2 ⟨p,hp',rfl⟩,by rw[he];exact ak.choose_spec.2⟩)]
   show β.inn (ρ _)=_
   rw[ak.choose_spec.2]
  first|rfl|rw[if_pos hj]
 .
  obtain⟨p,hp',rfl⟩:=q1q.1 G;rcases T.ids p hp' with h2|h2
  . obtain⟨p0,hp0,he⟩:=Xo.1 h2;refine .inl (Xo.2 ⟨_,q1q.2 ⟨p0,hp0,rfl⟩,?_⟩);have Z:=(a6 p0 hp0).1;simp only[W,upR];rw[he]at Z;rw[if_pos Z,he]
  refine .inr ?_;simp only[W,upR];rw[if_neg (by omega)];omega
 .
  obtain⟨p,hp',rfl⟩:=q1q.1 G;rcases T.blk p hp' b ((b3 _ (I.lt p hp') b).1 h2)with⟨q0,c9,cb⟩|h3
  . exact .inl ⟨_,q1q.2 ⟨q0,c9,rfl⟩,cb⟩
  exact .inr h3
 rintro⟨q,G,hc⟩;exact c8 ⟨_,q1q.2 ⟨q,G,rfl⟩,hc⟩
def j7l(r:AV)(hp:Hp)(n:Nat)(G:AV)(hp':Hp)(I:Nat):Prop:=G=r/\hp'=hp/\I=n
def ba(P:Program)(f:FuncId)(args:List AV)(hp:Hp)(n:Nat)(r:AV)(hp':Hp)(G:Nat):Prop:=Spec P f args hp n (j7l r hp' G)
def ofL(l:List Nat)(i:Nat):Nat:=l.getD i 0
def bT:List Nat->Bool
 |[]=>true
 |x::r=>!(r.contains x)&&bT r
def z6t:List Nat->Hp->Hp
 |[],hp=>hp
 |i::r,hp=>z6t r (q4l hp i)
def j21:Hp->Hp->Prop
 |[],_=>True
 |p::r,hp=>q0i hp p.1=some p.2/\j21 r (q4l hp p.1)
theorem j6c{hp:Hp}{id:Nat}(h:(hp.map (·.1)).Nodup):((q4l hp id).map (·.1)).Nodup:=h.sublist (bo.map _)
theorem zw7:∀{G hp:Hp},(hp.map (·.1)).Nodup->j21 G hp->hp.Perm (G++z6t (G.map (·.1)) hp)
 |[],hp,_,_=>by simp[z6t]
 |p::r,hp,I,h=>by
  have T:=(zw6 (o':=p.2) h.1 I).1;have W:=zw7 (j6c I) h.2;exact T.trans (by simpa [z6t]using W.cons (p.1,p.2))
theorem zn1:∀{l:List Nat},bT l=true->∀i j,i<l.length->j<l.length->l.getD i 0=l.getD j 0->i=j
 |[],_,i,j,hi,_,_=>by simp at hi
 |x::r,h,i,j,hi,I,G=>by
  simp only[bT,Xc,Ye]at h;have T:∀k,k<r.length->r.getD k 0≠x:=fun k W e=>by
   have Z:x∈r:=by
    rw[<-e,Xy,X0 W];exact Yh W
   have:=Yv.2 Z;rw[this]at h;exact absurd h.1 (by simp)
  cases i with
  |zero=>cases j with
   |zero=>rfl
   |succ j=>
    simp only[Yy,Yn]at G;exact absurd G.symm (T j (by simpa using I))
  |succ i=>cases j with
   |zero=>
    simp only[Yy,Yn]at G;exact absurd G (T i (by simpa using hi))
   |succ j=>
    simp only[Yn]at G;rw[zn1 h.2 i j (by simpa using hi) (by simpa using I) G]
theorem q7h{P:Program}{s:St}{f:FuncId}{args G:List AV}{K:St->AV->Prop}{hp0 hp1 H:Hp}{n n1 N:Nat}{I R:AV}(l:List Nat)(h:ba P f G hp0 n I hp1 n1)(W:(s.hp.map (·.1)).Nodup)(Z:args=q6n (ofL l) G)
 (hh:j21 (qe4 (ofL l) hp0) s.hp)(T:(decide (l.length=n)&&bT l&&(l.all fun i=>decide (i<s.nx))&&ltL n G&&ltH n hp0)=true)
 (hR:q2j (upR (ofL l) n s.nx) I=R)(hH:qe4 (upR (ofL l) n s.nx) hp1++z6t ((qe4 (ofL l) hp0).map (·.1)) s.hp=H)(hN:n1-n+s.nx=N)(hK:K {s with hp:=H,nx:=N} R):qg1 P s f args K:=by
 simp only[Xc,decide_eq_true_eq,Xe]at T;obtain⟨⟨⟨⟨k1,k2⟩,k3⟩,k4⟩,k5⟩:=T;subst Z hR hH hN;refine z9j (zw7 W hh) (Spec.ren h (ofL l) s.nx (fun i hi=>?_) (fun i j hi hj he=>zn1 k2 i j (by omega) (by omega) he) k4 k5) ?_
 . refine k3 _ ?_;unfold ofL;rw[Xy,X0 (by omega)];exact Yh _
 rintro r' hp' nx' ⟨r,h1,a6,⟨rfl,rfl,rfl⟩,rfl,rfl,rfl⟩;exact hK
theorem q2b{s:St}{r I:AV}{hp':Hp}{G:Nat}(l:List (Option Nat))(h:Le s ⟨s.nb,[],hp',G,s.nt⟩ l/\be (q82 s.nb l) s.hp (fun j=>qh5 (q82 s.nb l) j hp') G r I):z4u s r (j7l I hp' G):=
 ⟨l,_,_,_,h.1,h.2,rfl,rfl,rfl⟩
theorem ba.pure{P:Program}{f:FuncId}{args:List AV}{r Z:AV}{hp':Hp}{n':Nat}(h:ba P f args [] 0 r hp' n')(hl:be (fun _=>none) hp' (fun _=>True) 0 r Z):aZ P f args 0 Z:=by
 intro w β A vs hA I T W;refine (h w β A vs hA I T W).mono ?_;rintro e w' ⟨v,r0,hp0,n0,β',rfl,⟨e1,e2,e3⟩,hr,hh,G⟩;subst e1 e2 e3;refine⟨v,_,_,_,β,rfl,⟨rfl,rfl,rfl⟩,?_,aV.nil,?_⟩
 .
  refine q38 (β:=β') (β':=β) (nx':=0) (rn:=fun _=>none) (gone:=fun _=>True) (hp:=hp0) (A:=A) ?_ hh (fun id hid=>absurd hid (X8 _)) ?_ _ _ _ hl hr
  . refine⟨Xa _,fun b hb _=>⟨rfl,?_⟩⟩;rw[z1q];exact fun hx=>hb (.inl hx)
  intro j _ o ho b C hb;rw[z1q];exact hh.av _ ho b C hb
 exact {nx:=Xa _,gh:=fun _ _=>rfl,gi:=fun _ _ _=>rfl,ids:=fun p hp=>(by cases hp),blk:=fun p hp=>(by cases hp),os:=G.os,tape:=G.tape,output:=G.output,size:=G.size,keep:=G.keep}
theorem z0m{P:Program}{nb:Nat}{hp:Hp}{nx:Nat}{f:FuncId}{args G:List AV}{T:Hp->Nat->AV->Prop}{hp0 hp1 H:Hp}{n n1 N:Nat}{W R:AV}(l:List Nat)(h:ba P f G hp0 n W hp1 n1)(Z:args=q6n (ofL l) G)
 (hh:j21 (qe4 (ofL l) hp0) hp)(hk:(decide (l.length=n)&&bT l&&(l.all fun i=>decide (i<nx))&&ltL n G&&ltH n hp0)=true)
 (hR:q2j (upR (ofL l) n nx) W=R)(hH:qe4 (upR (ofL l) n nx) hp1++z6t ((qe4 (ofL l) hp0).map (·.1)) hp=H)(hN:n1-n+nx=N)(hK:T H N R):jm3 P nb hp nx f args T:=
 ⟨H,N,R,fun s K' _ e1 e2 hn I=>by subst e1 e2;exact q7h l h hn Z hh hk hR hH hN I,hK⟩
mutual
def q90:AV->Bool
 |.v _=>true
 |.agg cs=>za8 cs
 |.tup cs=>za8 cs
 |_=>false
def za8:List AV->Bool
 |[]=>true
 |a::r=>q90 a&&za8 r
end
mutual
theorem zv9{w w':World}{β β':aI}{nx nx':Nat}{ow ow':Nat->Prop}:∀(a:AV) (u:Value),q90 a=true->rep w β nx ow a u->rep w' β' nx' ow' a u
 |.v x,u,_,h=>by simpa only[rep]using h
 |.agg cs,u,hp,h=>by
  simp only[q90]at hp;simp only[rep]at h⊢;obtain⟨l,G,I⟩:=h;exact⟨l,G,z8t cs l hp I⟩
 |.tup cs,u,hp,h=>by
  simp only[q90]at hp;simp only[rep]at h⊢;obtain⟨l,G,I⟩:=h;exact⟨l,G,z8t cs l hp I⟩
 |.ptr ..,u,hp,_=>by simp[q90]at hp
 |.apt ..,u,hp,_=>by simp[q90]at hp
 |.sl ..,u,hp,_=>by simp[q90]at hp
 |.osl ..,u,hp,_=>by simp[q90]at hp
 |.bsl ..,u,hp,_=>by simp[q90]at hp
 |.el ..,u,hp,_=>by simp[q90]at hp
 |.clo ..,u,hp,_=>by simp[q90]at hp
 |.grd ..,u,hp,_=>by simp[q90]at hp
 |.mp _,u,hp,_=>by simp[q90]at hp
 |.erb _,u,hp,_=>by simp[q90]at hp
 |.bk,u,hp,_=>by simp[q90]at hp
theorem z8t{w w':World}{β β':aI}{nx nx':Nat}{ow ow':Nat->Prop}:∀(as:List AV) (us:List Value),za8 as=true->y9 w β nx ow as us->y9 w' β' nx' ow' as us
 |[],[],_,_=>by simp only[y9]
 |a::as,u::us,hp,h=>by
  simp only[za8,Xc]at hp;simp only[y9]at h⊢;exact⟨zv9 a u hp.1 h.1,z8t as us hp.2 h.2⟩
 |[],u::us,_,h=>by simp only[y9]at h
 |a::as,[],_,h=>by simp only[y9]at h
end
theorem k1g{P:Program}{s s':St}{f:FuncId}{args args':List AV}{K:St->AV->Prop}{r:AV}{l:List (Option Nat)}(hl:Le s s' l)(W:be.AvLeL (q82 s.nb l) s.hp (fun j=>qh5 (q82 s.nb l) j s'.hp) s'.nx args args')
 (h:aZ P f args' 0 r)(hf:q0j args'=true)(hr:q90 r=true)(hk:K s r):qg1 P s f args K:=by
 intro C a w β vs hR G;obtain⟨β',T,h3⟩:=qv0 hR hl;have h4:y9 w β' s'.nx (own β' s'.hp C.A) args' vs:=by
  clear h hf
  induction args generalizing args' vs with
  |nil=>cases args'<;>cases vs<;>simp only[be.AvLeL,y9]at W G⊢
  |cons x xs ih=>
   cases args' with
   |nil=>simp only[be.AvLeL]at W
   |cons y ys=>
    cases vs with
    |nil=>simp only[y9]at G
    |cons v vs=>
     simp only[be.AvLeL]at W;simp only[y9]at G⊢;exact⟨h3 _ _ _ W.1 G.1,ih W.2 vs G.2⟩
 have Z:own β' [] (own β' s'.hp C.A)=own β' s'.hp C.A:=z1q;have hS:=h.up hf s'.nx;refine (hS w β' (own β' s'.hp C.A) vs ?_ (by rw[Z];exact h4) aV.nil ((T.gs.ext T.ext).sub fun _ ⟨_,hq,_⟩=>by cases hq)).mono ?_
 .
  rintro b (hx|⟨q,hq,hc⟩)
  . exact T.alt b hx
  exact T.hp.bB q hq b hc
 rintro e w' ⟨v,r',hp',nx',ak,rfl,⟨rfl,rfl,rfl⟩,a6,_,I⟩;have aj:bD w w':=⟨I.os,I.tape,I.output,I.size,fun b hb=>I.keep b hb fun⟨q,hq,_⟩=>by cases hq⟩;exact⟨v,_,s,β,rfl,hR.still aj,zv9 _ _ hr a6,hk⟩
attribute [go_sem] q2j q6n zr6 qe4 upR ofL z6t List.length_set Nat.reduceLT Nat.reduceGT X8 Nat.sub_zero
example:(if (2:Nat)<0 then (0:Nat)else 2-0+3)=5:=by simp only[go_sem]
example:(if (2:Nat)<3 then (0:Nat)else 2)=0:=by simp only[go_sem]
example:(if (2:Nat)<2 then (0:Nat)else 2)=2:=by simp only[go_sem]
example:(if (4:Nat)=2 then (0:Nat)else 2)=2:=by simp only[go_sem]
end
section
open Go Go.RowKit
def jz4(K:St->AV->Prop)(s:St)(r:AV)(hp':Hp)(nx':Nat):Prop:=K {s with hp:=hp',nx:=nx'} r
theorem q13{K:St->AV->Prop}{s:St}{r:AV}{hp':Hp}{nx':Nat}(h:K {s with hp:=hp',nx:=nx'} r):jz4 K s r hp' nx':=h
theorem q51{P:Program}{s:St}{f:FuncId}{fn:Func}{c:Code}{args:List AV}{K:St->AV->Prop}(T:P.funcs[f]?=some fn)(hb:fn.body=some c)(I:okB fn.ntmps c=true)
 (G:(decide (args.length<=fn.ntmps)&&!(fn.name=="runtime.NumGoroutine"))=true)(W:vc P c (z7a P fn.results.toList (jz4 K s)) ⟨s.nx,qx4 args 0,s.hp,s.nx,fn.ntmps⟩):qg1 P s f args K:=
 z9j (hp1:=s.hp) (hp2:=[]) (by simp) (Spec.cD T hb I G W) (fun r hp' nx' h=>by
  rw[List.append_nil];exact h)
theorem q0s{s:St}{r:AV}{Q:AV->Hp->Nat->Prop}(l:List (Option Nat))(hp':Hp)(nx':Nat)(G:AV)(h:Le s ⟨s.nb,[],hp',nx',s.nt⟩ l/\be (q82 s.nb l) s.hp (fun j=>qh5 (q82 s.nb l) j hp') nx' r G)(I:Q G hp' nx'):z4u s r Q:=
 ⟨l,hp',nx',G,h.1,h.2,I⟩
theorem j2z{α:Type}[Row α](l:List α)(k:Nat):TL (enc l) (enc (l.take k)):=by
 rw[<-z2c];exact ju0 _ _
theorem ju3{α:Type}[Row α](a b:List α)(k:Nat):TL (enc a++enc b) (enc ((a++b).take k)):=by rw[<-q2x];exact j2z _ _
theorem ju2{α:Type}[Row α](a b c:List α)(k:Nat):TL (enc a++enc b++enc c) (enc ((a++b++c).take k)):=by rw[<-q2x,<-q2x];exact j2z _ _
theorem qs8{α:Type}[Row α]{L:List α}{o k:Nat}{i:Int}{x:α}(h:idx ((L.drop o).take k) i=some x):0<=i/\i<(k:Int)/\o+i.toNat<L.length/\q3l (enc L) (o+i.toNat)=Row.row x:=by
 unfold idx at h
 split at h
 .
  rename_i T
  obtain⟨G,I⟩:=X9.1 h;rw[Ys,List.length_drop]at G;refine⟨T,by omega,by omega,?_⟩;rw[List.getElem_take,List.getElem_drop]at I;have W:o+i.toNat<L.length:=by omega
  simp[q3l,enc,W,I]
 cases h
theorem zm0{α:Type}{f:α->AV}(pre post:List AV)(xs ys:List α)(n:Nat)(y:α)(h:n<xs.length)(G:ys=xs.mapIdx (fun j c=>if n=j then y else c)):
 q81 (pre++(xs.map f++post)) (pre.length+n) [f y]=pre++(ys.map f++post):=by
 have e:ys=xs.set n y:=by
  rw[G];apply List.ext_getElem
  . simp
  intro j W Z;simp only[List.getElem_mapIdx,List.getElem_set]
 rw[e];unfold q81;rw[List.take_append,List.take_of_length_le (by omega:pre.length<=pre.length+n),Yt,List.drop_append,List.drop_of_length_le (by simp;omega),List.nil_append];have I:pre.length+n+[f y].length-pre.length=n+1:=by simp;omega
 rw[I,List.take_append_of_le_length (by rw[Ya];omega),List.drop_append_of_le_length (by rw[Ya];omega)];have T:(xs.set n y).map f=(xs.map f).take n++[f y]++(xs.map f).drop (n+1):=by
  rw[List.map_set,List.set_eq_take_append_cons_drop,if_pos (by rw[Ya];exact h)];simp
 rw[T];simp[X4]
end
section
open Go
theorem sM{P:Program}{a b:Code}{Q:Exit->St->Prop}{s s':St}(h:vc P b Q s')(G:bC a=false:=by kernel_rfl)(e:∀QQ:Exit->St->Prop,vc P a QQ s=QQ .normal s':=by (intro QQ;conv=>lhs;simp only[go_sem])):vc P (.seq a b) Q s:=sg (fun QQ I=>(e QQ).symm▸q8 I h) G
end
section
open Go Go.RowKit
def j05(w:World)(ow:Nat->Prop)(g:Option Nat)(a:AV)(u:Value):Prop:=
 ∃isz xs,a=.sl isz xs/\((g=none/\xs=[]/\u=.slice none 0 0)\/∃b c cap cur e,g=some b/\u=.slice (some ⟨b,0,none⟩) xs.length cap/\w.heap[b]?=some (.cells cur e (0,0))/\cur.size=c*isz/\xs.length<=cap/\cap<=c/\c<=maxLen/\q0p w noG ow isz b xs 0)
def j5q(w:World)(ow:Nat->Prop)(j:Nat)(g:Option Nat)(r:List AV)(us:List Value):Prop:=
 r.length=us.length/\∀(k:Nat) a u,r[k]?=some a->us[k]?=some u->u.oneCell'=true/\(k=j->j05 w ow g a u)/\(k≠j->rep w noG 0 ow a u)
def atR(cs:List Value)(sz i:Nat):List Value:=(cs.drop (i*sz)).take sz
def k2n(sz j:Nat)(R:List (List AV))(hole:Option Nat)(w:World)(b C:Nat)(L:List Nat)(ow:Nat->Prop)(us:List Value):Prop:=
 ∃(cs:List Value) (e:TypeId) (gs:Nat->Option Nat),w.heap[b]?=some (.cells ⟨cs⟩ e (0,0))/\cs.length=C*sz/\R.length<=C/\C<=maxLen/\
  (∀i G g,gs i=some g->gs G=some g->i=G)/\(∀i g,gs i=some g->g∈L/\i<R.length)/\
  (∀i r,R[i]?=some r->hole≠some i->j5q w ow j (gs i) r (atR cs sz i))/\
  ((hole=none/\us=[])\/∃i,hole=some i/\i<R.length/\gs i=none/\atR cs sz i=us/\us.length=sz)
section
variable {w w':World} {ow ow':Nat->Prop} {β β':aI}
theorem z0a(G:aW w w' ow ow'){a:AV}{u:Value}(h:rep w β 0 ow a u):rep w' β' 0 ow' a u:=q5w G 0 0 (Xa _) (fun _ hi=>absurd hi (X8 _)) a u h
theorem zn9(W:aW w w' ow ow'){g:Option Nat}(T:∀b,g=some b->w'.heap[b]?=w.heap[b]?){a:AV}{u:Value}:j05 w ow g a u->j05 w' ow' g a u:=by
 rintro⟨isz,xs,rfl,h|⟨b,c,cap,cur,e,G,Z,h3,I⟩⟩
 . exact⟨isz,xs,rfl,.inl h⟩
 obtain⟨I,h5,h6,h7,h8⟩:=I;exact⟨isz,xs,rfl,.inr ⟨b,c,cap,cur,e,G,Z,(T b G).trans h3,I,h5,h6,h7,q26 W isz b (fun o u hu=>(World.cell?_of_block (w:=w) (a:=⟨b,o,none⟩) (T b G)).trans hu) xs 0 h8⟩⟩
theorem zl4(I:aW w w' ow ow'){g:Option Nat}(T:∀b,g=some b->w'.heap[b]?=w.heap[b]?){j:Nat}{r:List AV}{us:List Value}(h:j5q w ow j g r us):j5q w' ow' j g r us:=
 ⟨h.1,fun k a u W Z=>let ⟨h3,h4,h5⟩:=h.2 k a u W Z
  ⟨h3,fun G=>zn9 I T (h4 G),fun G=>z0a I (h5 G)⟩⟩
theorem j5c{cs:List Value}{sz i k:Nat}:(atR cs sz i)[k]?=if k<sz then cs[i*sz+k]? else none:=by
 unfold atR;rw[Y0,List.getElem?_drop]
theorem j9y{cs:List Value}{sz i:Nat}:cs.take (i*sz)++atR cs sz i++cs.drop (i*sz+sz)=cs:=by
 unfold atR;rw[X4,<-List.drop_drop,Yw,Yw]
theorem j1h{i G sz:Nat}(h:i<G):i*sz+sz<=G*sz:=by
 have:=Ym sz (show i+1<=G from h);rw[Nat.add_mul,Nat.one_mul]at this;exact this
theorem j9z{hd us G tl:List Value}{sz i I:Nat}(h1:hd.length=i*sz)(h2:us.length=sz)(h3:G.length=us.length)(T:I≠i):atR (hd++G++tl) sz I=atR (hd++us++tl) sz I:=by
 apply List.ext_getElem?;intro k;rw[j5c,j5c]
 split
 .
  rename_i hk
  rcases Nat.lt_or_gt_of_ne T with W|Z
  . have:=j1h (sz:=sz) W;rw[X4,X4,Yb (by omega),Yb (by omega)]
  have:=j1h (sz:=sz) Z;rw[X7 (by simp only[Xu];omega),X7 (by simp only[Xu];omega)];simp only[Xu,h3]
 rfl
theorem ji9{hd us G:List Value}{sz i:Nat}(I:hd.length=i*sz)(T:us.length=sz):atR (hd++us++G) sz i=us:=by
 unfold atR;rw[X4,<-I,List.drop_left,<-T,List.take_left]
end
def j5z(sz j:Nat)(R:List (List AV))(hole:Option Nat):Con where
 k:=hole.map (· *sz)
 P:=k2n sz j R hole
 N:=R=[]/\hole=none
 mono:=fun hA hk ⟨cs,e,gs,W,Z,h3,h4,h5,I,h7,h8⟩=>⟨cs,e,gs,(hk _ (.inl rfl)).trans W,Z,h3,h4,h5,I,fun i r hr hh=>zl4 hA (fun b hb=>hk b (.inr (I i b hb).1)) (h7 i r hr hh),h8⟩
 cells:=fun {w b C L ow us n} G ⟨cs,e,gs,W,Z,h3,h4,h5,I,h7,h8⟩=>by
  rcases h8 with⟨rfl,_⟩|⟨i,rfl,hi,_,rfl,h9⟩
  . cases G
  simp only[Y8,Xd]at G;subst G;refine⟨cs.take (i*sz),cs.drop (i*sz+sz),e,?_,by rw[j9y];exact W⟩;have a6:=Ym sz (show i+1<=C by omega);rw[Ys,Z];exact Nat.min_eq_left (Ym sz (by omega))
 wr:=fun {w w' b C L ow ow' us aj hd tl T n} G hl ⟨cs,e,gs,W,Z,h3,h4,h5,I,h7,h8⟩ h9 a6 ak an hA=>by
  rcases h8 with⟨rfl,_⟩|⟨i,rfl,hi,ao,b1,aq⟩
  . cases G
  simp only[Y8,Xd]at G;subst G;rw[W]at h9;simp only[Xd,Obj.cells.injEq,Array.mk.injEq,and_true]at h9;obtain⟨rfl,rfl⟩:=h9;refine⟨hd++aj++tl,e,gs,ak,by simp only[Xu]at Z⊢;omega,h3,h4,h5,I,fun i' r hr hh=>?_,.inr ⟨i,rfl,hi,ao,ji9 hl (by omega),by omega⟩⟩;have ar:i'≠i:=fun e=>hh (by rw[e]);rw[j9z hl aq a6 ar];exact zl4 hA (fun b hb=>an b (I i' b hb).1) (h7 i' r hr hh)
theorem jx8{sz j:Nat}{R:List (List AV)}{i:Nat}:(j5z sz j R (some i)).k=some (i*sz):=rfl
theorem jq2{sz j:Nat}{R:List (List AV)}:(j5z sz j R none).k=none:=rfl
theorem je4{sz j:Nat}{R:List (List AV)}{h:Option Nat}:(j5z sz j R h).raw=false:=rfl
theorem jx9{sz j:Nat}{R:List (List AV)}{h:Option Nat}:(j5z sz j R h).N=(R=[]/\h=none):=rfl
theorem aV.re{w:World}{β β':aI}{nx nx':Nat}{A:Nat->Prop}{hp hp':Hp}(h:aV w β nx A hp)(a6:∀p∈hp',p.1<nx')(aj:(hp'.map (·.1)).Nodup)
 (T:∀p∈hp',∀b,bof β' p.1 b->∃q∈hp,bof β q.1 b)(G:∀p∈hp',∀q∈hp',∀b,bof β' p.1 b->bof β' q.1 b->p.1=q.1)(ak:∀p∈hp',∀b∈β'.inn p.1,∀C,β' p.1≠some (b,C))
 (an:∀p∈hp',qh9 p.2=false->β'.inn p.1=[])(W:∀p∈hp',q6f w β' nx' (own β' hp' A) p.1 p.2):aV w β' nx' A hp' where
 obj:=W
 lt:=a6
 nd:=aj
 inj p hp q I b C C' h1 h2:=G p hp q I b (.inl ⟨C,h1⟩) (.inl ⟨C',h2⟩)
 av p hp b C h1:=let ⟨q,I,hb⟩:=T p hp b (.inl ⟨C,h1⟩)
  h.ca q I b hb
 i0:=an
 ib p hp b hb:=by
  obtain⟨q,I,Z⟩:=T p hp b (.inr hb);refine⟨h.bB q I b Z,h.ca q I b Z,fun q I C hc=>?_,fun q I hc=>G q I p hp b (.inr hc) (.inr hb)⟩;have:=G q I p hp b (.inl ⟨C,hc⟩) (.inr hb);rw[this]at hc;exact ak p hp b hb C hc
theorem zl7{w:World}{β:aI}{nx:Nat}{ow:Nat->Prop}:∀{as:List AV} {us:List Value},as.length=us.length->(∀(k:Nat) a u,as[k]?=some a->us[k]?=some u->rep w β nx ow a u)->y9 w β nx ow as us
 |[],[],_,_=>by simp only[y9]
 |a::as,u::us,G,h=>by
  simp only[y9];exact⟨h 0 a u rfl rfl,zl7 (by simpa using G) fun k I T W Z=>h (k+1) I T (by simpa using W) (by simpa using Z)⟩
 |[],_::_,G,_=>by simp at G
 |_::_,[],G,_=>by simp at G
theorem j8d{w:World}{β:aI}{nx:Nat}{ow:Nat->Prop}{as:List AV}{us:List Value}(h:y9 w β nx ow as us){k:Nat}{a:AV}{u:Value}(G:as[k]?=some a)(I:us[k]?=some u):rep w β nx ow a u:=by
 have:=z00 h k (X9.1 G).1;rw[Xy,Xy,G,I]at this;exact this
end
section
open Go Go.RowKit
section
variable {P:Program} {C:Ctx P} {s:St} {a:Act} {w:World} {β:aI}
theorem je2{β β':aI}{hp hp':Hp}{A:Nat->Prop}(hb:∀p∈hp',∀b,bof β' p.1 b->∃q∈hp,bof β q.1 b):∀b,own β' hp' A b->own β hp A b:=by
 rintro b (h|⟨p,hp,h⟩)
 . exact .inl h
 exact .inr (hb p hp b h)
theorem Rel.dD(h:Rel C s a w β){β':aI}{hp':Hp}{nx':Nat}(hn:s.nx<=nx')(hb:∀id,id<s.nx->β' id=β id)(Z:∀id,id<s.nx->id∉s.hp.map (·.1)->β'.inn id=β.inn id)(I:∀p∈hp',p.1∈s.hp.map (·.1)\/s.nx<=p.1)
 (a6:∀p∈hp',p.1<nx')(aj:(hp'.map (·.1)).Nodup)
 (G:∀p∈hp',∀b,bof β' p.1 b->∃q∈s.hp,bof β q.1 b)(T:∀p∈hp',∀q∈hp',∀b,bof β' p.1 b->bof β' q.1 b->p.1=q.1)(ak:∀p∈hp',∀b∈β'.inn p.1,∀C,β' p.1≠some (b,C))
 (an:∀p∈hp',qh9 p.2=false->β'.inn p.1=[])(W:aW w w (own β s.hp C.A) (own β' hp' C.A)->∀p∈hp',q6f w β' nx' (own β' hp' C.A) p.1 p.2):
 Rel C {s with hp:=hp',nx:=nx'} a w β':=by
 have hA:aW w w (own β s.hp C.A) (own β' hp' C.A):=⟨Xa _,fun b ao _=>⟨rfl,fun hx=>ao (je2 G b hx)⟩⟩;exact h.step hn hb (Xa _) (fun _ _ _=>rfl) (fun b _ ⟨p,hp,aq⟩=>G p hp b aq) (h.hp.re a6 aj G T ak an (W hA)) I rfl rfl ⟨rfl,fun _=>Xa _⟩ Z
end
end
section
open Go Go.RowKit
section
variable {P:Program} {C:Ctx P} {s:St} {a:Act} {w:World} {β:aI}
theorem ze4{hp:Hp}{i j:Nat}{o o':bj}(h:q0i hp i=some o)(I:q0i hp j=some o')(hd:qh9 o=true)(G:qh9 o'=false):i≠j:=fun e=>by
 subst e;rw[h]at I;cases I;rw[hd]at G;cases G
end
end
section
open Go Go.RowKit
section
variable {P:Program} {C:Ctx P} {s:St} {a:Act} {w:World} {β:aI}
theorem Rel.one(h:Rel C s a w β){id:Nat}{o o':bj}{L:List Nat}(hg:q0i s.hp id=some o)(hL:∀b∈L,b∈β.inn id)(hc:qh9 o'=false->L=[])
 (ho:∀(β':aI) (ow':Nat->Prop),aW w w (own β s.hp C.A) ow'->(∀x,β' x=β x)->β'.inn id=L->(∀b∈β.inn id,b∉L->¬ow' b/\b<w.heap.size)->q6f w β' s.nx ow' id o'):
 ∃β',Rel C {s with hp:=q0u s.hp id o'} a w β':=by
 have hm:=q0k hg
 let β':aI:=⟨β.f,fun x=>if x=id then L else β.inn x⟩
 have T:β'.inn id=L:=by simp[β']
 have W:∀x,x≠id->β'.inn x=β.inn x:=fun x Z=>by simp[β',Z]
 have aj:∀p∈q0u s.hp id o',p=(id,o')\/(p∈s.hp/\p.1≠id):=fun p hp=>qs7 h.hp.nd hp;have ak:∀x b1,bof β' x b1->bof β x b1:=fun x b1 G=>by
  rcases G with⟨C',hc⟩|G
  . exact .inl ⟨C',hc⟩
  by_cases Z:x=id
  . subst Z;rw[T]at G;exact .inr (hL b1 G)
  rw[W x Z]at G;exact .inr G
 have I:∀p∈q0u s.hp id o',∃q∈s.hp,q.1=p.1:=fun p hp=>by
  rcases aj p hp with rfl|⟨hp,_⟩
  . exact⟨_,hm,rfl⟩
  exact⟨p,hp,rfl⟩
 have aq:∀p∈q0u s.hp id o',∀q∈q0u s.hp id o',∀b,bof β' p.1 b->bof β' q.1 b->p.1=q.1:=by
  intro p hp q hq b1 G an;obtain⟨p',hp',he⟩:=I p hp;obtain⟨q',ao,ar⟩:=I q hq;have:=h.hp.bf p' hp' q' ao b1 (by rw[he];exact ak _ _ G) (by rw[ar];exact ak _ _ an);rw[<-he,<-ar];exact this
 refine⟨β',h.dD (Xa _) (fun _ _=>rfl) (fun x Z b3=>W x fun e=>b3 (by rw[e];exact Yz hm)) ?_ ?_ (by rw[qh8];exact h.hp.nd) ?_ aq ?_ ?_ ?_⟩
 . intro p hp;obtain⟨q,hq,he⟩:=I p hp;exact .inl (he▸Yz hq)
 . intro p hp;obtain⟨q,hq,he⟩:=I p hp;exact he▸h.hp.lt q hq
 . intro p hp b1 G;obtain⟨q,hq,he⟩:=I p hp;exact⟨q,hq,by rw[he];exact ak _ _ G⟩
 .
  intro p hp b1 G C' hc;obtain⟨q,hq,he⟩:=I p hp;have hc:β p.1=some (b1,C'):=hc;have an:b1∈β.inn q.1:=by
   by_cases Z:p.1=id
   . rw[Z,T]at G;rw[he,Z];exact hL _ G
   rw[W _ Z]at G;rw[he];exact G
  rw[<-he]at hc;exact (h.hp.ib q hq b1 an).2.2.1 q hq C' hc
 .
  intro p hp b2;rcases aj p hp with rfl|⟨hp,Z⟩
  . rw[T];exact hc b2
  rw[W _ Z];exact h.hp.i0 p hp b2
 intro hA p hp;rcases aj p hp with rfl|⟨hp,Z⟩
 .
  refine ho β' _ hA (fun _=>rfl) T fun b hb b4=>⟨?_,(h.hp.ib _ hm b hb).1⟩;rintro (Z|⟨q,hq,a6⟩)
  . exact (h.hp.ib _ hm b hb).2.1 Z
  obtain⟨q',ao,he⟩:=I q hq;have h1:=h.hp.bf _ hm q' ao b (.inr hb) (by rw[he];exact ak _ _ a6);simp only at h1;rw[he]at h1;rw[<-h1]at a6;rcases a6 with⟨C',b5⟩|a6
  . exact (h.hp.ib _ hm b hb).2.2.1 _ hm C' b5
  rw[T]at a6;exact b4 a6
 exact q47 (β:=β) (β':=β') hA (Xa _) (fun _ _=>rfl) (h.hp.lt p hp) (fun _ _=>rfl) (fun _=>W _ Z) (h.hp.obj p hp)
end
end
section
open Go Go.RowKit
section
variable {P:Program} {C:Ctx P} {s:St} {a:Act} {w:World} {β:aI}
end
section
variable {P:Program} {Q QQ:Exit->St->Prop} {s s':St} {a b c x y:Code} {i:Nat}
def zr4(P:Program)(Q:Exit->St->Prop)(b:Code):Exit->St->Prop:=q6t (wpV P b Q) Q
theorem sgW(h:∀QQ:Exit->St->Prop,Eqv QQ (zr4 P Q b)->wpV P a QQ s):wpV P (.seq a b) Q s:=fun I C a w β hR Q' W=>by
 simp only[okB,Xc]at I;refine wp_seq (h _ rfl I.1 C a w β hR _ ?_);intro e s' a' w' β' G T;have Z:s'.nt=s.nt:=G.ntc.trans hR.ntc.symm
 cases e<;>simp only[zr4,q6t]at T<;>simp only[Exit.then]
 . exact T (by rw[Z];exact I.2) C a' w' β' G Q' W
 . exact W _ _ _ _ _ G T
 exact W _ _ _ _ _ G T
theorem y8(G:Eqv QQ (zr4 P Q b))(h:wpV P b Q s):QQ .normal s:=by unfold Eqv at G;subst G;exact h
theorem z07(G:Eqv QQ (zr4 P Q b))(h:Q (.exit i) s):QQ (.exit i) s:=by unfold Eqv at G;subst G;exact h
theorem qz8(G:Eqv QQ (zr4 P Q b))(h:Q .ret s):QQ .ret s:=by unfold Eqv at G;subst G;exact h
theorem wv(h:vc P c Q s):wpV P c Q s:=q98 c Q s h
theorem qq2(h:∀QQ:Exit->St->Prop,Eqv QQ (qf7 i Q)->wpV P c QQ s):wpV P (.block i c) Q s:=fun W C a w β hR Q' T=>by
 refine wp_block (h _ rfl W C a w β hR _ ?_);intro e s' a' w' β' G I
 cases e<;>simp only[qf7]at I<;>simp only[Exit.inBlock]
 . exact T _ _ _ _ _ G I
 .
  split at I
  . rename_i Z;rw[if_pos Z];exact T _ _ _ _ _ G I
  rename_i Z;rw[if_neg Z];exact T _ _ _ _ _ G I
 exact T _ _ _ _ _ G I
theorem q4m{t:Operand}{b:Bool}(hb:x8 s.env t=.v (.bool b))(h1:b=true->wpV P x Q s)(h2:b=false->wpV P y Q s):wpV P (.cond t x y) Q s:=fun G C a w β T W Z=>by
 simp only[okB,Xc]at G;have:=T.ev t;rw[hb]at this;simp only[rep]at this;exact wp_cond_split this (fun I=>h1 I G.1 C a w β T W Z) (fun I=>h2 I G.2 C a w β T W Z)
theorem j57{t:Operand}(G:x8 s.env t=.v (.bool true))(I:wpV P x Q s):wpV P (.cond t x y) Q s:=q4m G (fun _=>I) (fun h=>by cases h)
theorem jt3{t:Operand}(G:x8 s.env t=.v (.bool false))(I:wpV P y Q s):wpV P (.cond t x y) Q s:=q4m G (fun h=>by cases h) (fun _=>I)
theorem j2m{ι:Type}(S:ι->St)(I:ι->Prop)(h:∀QQ:Exit->St->Prop,Eqv QQ (q6t (fun s'=>∃i l,Le s' (S i) l/\I i) Q)->wpV P x QQ s)(T:∀i,I i->wpV P y Q (S i)):wpV P (.seq x y) Q s:=
 sgW fun _ G=>by
  unfold Eqv at G;subst G;refine j0e (h _ rfl) fun e s' G=>?_
  cases e<;>simp only[q6t,zr4]at G⊢<;>first|exact G|skip
  obtain⟨i,l,W,hi⟩:=G;exact jb2 W (T i hi)
theorem ze1{ι:Type}(S:ι->St)(I:ι->Prop)(G:ι->Nat)(i0:ι)(W:List (Option Nat))(Z:Le s (S i0) W)(hI:I i0)
 (hr:∀i,I i->∀QQ:Exit->St->Prop,Eqv QQ (q6t (fun s'=>∃T l',Le s' (S T) l'/\I T/\G T<G i) Q)->wpV P c QQ (S i)):wpV P (.loop c) Q s:=
 z7f S I G i0 W Z hI fun i hi=>hr i hi _ rfl
theorem reW(T:∀(C:Ctx P) a w β,Rel C s a w β->∃β',Rel C s' a w β')(h:wpV P c Q s')(W:s'.nt=s.nt:=by rfl):wpV P c Q s:=fun G C a w β Z Q' hQ=>
 let ⟨β',I⟩:=T C a w β Z
 h (by rw[W];exact G) C a w β' I Q' hQ
def j00(P:Program)(Q:Exit->St->Prop)(e:Exit)(s:St):Prop:=∃s',(∀(C:Ctx P) a w β,Rel C s a w β->∃β',Rel C s' a w β')/\Q e s'
theorem qc0(h:wpV P c (j00 P Q) s):wpV P c Q s:=fun G C a w β hR Q' hQ=>h G C a w β hR Q' fun e s1 a1 w1 I T ⟨s2,hr,hq⟩=>
 let ⟨W,Z⟩:=hr C a1 w1 I T
 hQ e s2 a1 w1 W Z hq
theorem q2y{e:Exit}(h:Q e s):j00 P Q e s:=⟨s,fun _ _ _ β G=>⟨β,G⟩,h⟩
theorem qb5{e:Exit}(W:∀(C:Ctx P) a w β,Rel C s a w β->∃β',Rel C s' a w β')(h:j00 P Q e s'):j00 P Q e s:=
 let ⟨Z,G,hq⟩:=h
 ⟨Z,fun C a w β hR=>let ⟨I,T⟩:=W C a w β hR
  G C a w I T,hq⟩
end
section
variable {P:Program} {C:Ctx P} {s:St} {a:Act} {w:World} {β:aI}
end
end
section
open Go Go.RowKit
section
variable {P:Program} {C:Ctx P} {s:St} {a:Act} {w:World} {β:aI}
theorem Rel.dr(h:Rel C s a w β){w':World}{β':aI}{hp':Hp}{nx':Nat}(hn:s.nx<=nx')(hb:∀id,id<s.nx->β' id=β id)(aq:∀id,id<s.nx->id∉s.hp.map (·.1)->β'.inn id=β.inn id)(a6:∀p∈hp',p.1∈s.hp.map (·.1)\/s.nx<=p.1)
 (G:∀p∈hp',p.1<nx')(ar:(hp'.map (·.1)).Nodup)(aj:w.heap.size<=w'.heap.size)(hK:∀b,b<w.heap.size->¬bu β s.hp b->w'.heap[b]?=w.heap[b]?)
 (T:∀p∈hp',∀b,bof β' p.1 b->b<w'.heap.size/\((∃q∈s.hp,bof β q.1 b)\/w.heap.size<=b))(W:∀p∈hp',∀q∈hp',∀b,bof β' p.1 b->bof β' q.1 b->p.1=q.1)(b1:∀p∈hp',∀b∈β'.inn p.1,∀C,β' p.1≠some (b,C))
 (b2:∀p∈hp',qh9 p.2=false->β'.inn p.1=[])(ak:aW w w' (own β s.hp C.A) (own β' hp' C.A)->∀p∈hp',q6f w' β' nx' (own β' hp' C.A) p.1 p.2)(ho:w'.os=w.os)(ht:w'.tape=w.tape)(an:w'.output=w.output/\(dkF=true->w.drawn<=w'.drawn)):
 Rel C {s with hp:=hp',nx:=nx'} a w' β':=by
 have hO:∀b,b<w.heap.size->bu β' hp' b->bu β s.hp b:=fun b G ⟨p,hp,hb⟩=>(T p hp b hb).2.elim id fun I=>absurd G (Nat.not_lt.2 I);have hA:aW w w' (own β s.hp C.A) (own β' hp' C.A):=⟨aj,fun b Z G=>⟨hK b G (fun I=>Z (.inr I)),fun I=>I.elim (fun I=>Z (.inl I)) fun I=>Z (.inr (hO b G I))⟩⟩;have ao:∀p∈hp',∀b,bof β' p.1 b->¬C.A b:=fun p hp b hb I=>by
  rcases (T p hp b hb).2 with⟨q,hq,b3⟩|b4
  . exact h.hp.ca q hq b b3 I
  have:=h.alt b I;have:=h.ext.size;omega
 refine h.step hn hb aj hK hO ⟨ak hA,G,ar,fun p hp q hq b c c' h1 h2=>W p hp q hq b (.inl ⟨c,h1⟩) (.inl ⟨c',h2⟩),fun p hp b c h1=>ao p hp b (.inl ⟨c,h1⟩),b2,fun p hp b hb=>⟨(T p hp b (.inr hb)).1,ao p hp b (.inr hb),fun q hq c hc=>?_,fun q hq hc=>W q hq p hp b (.inr hc) (.inr hb)⟩⟩ a6 ho ht an aq;have:=W q hq p hp b (.inl ⟨c,hc⟩) (.inr hb);rw[this]at hc;exact b1 p hp b hb c hc
end
end
section
open Go Go.RowKit
section
variable {P:Program} {C:Ctx P} {s:St} {a:Act} {w:World} {β:aI}
end
attribute [go_sem] jx8 jq2 jx9 je4 j9d
end
section
open Go Go.RowKit
end
section
open Go Go.RowKit
class Ct{R:Type}(P:Program)(f:FuncId)(x:Option R)(args:outParam (List AV))(rv:outParam (R->AV)):Prop where
 ok:∀r,x=some r->aZ P f args 0 (rv r)
instance {R:Type}{P:Program}{f:FuncId}{x:Option R}{args:List AV}{G:R->AV}:CoeFun (Ct P f x args G) (fun _=>∀r,x=some r->aZ P f args 0 (G r)):=⟨fun t=>t.ok⟩
section
variable {P:Program} {Q QQ:Exit->St->Prop} {s:St} {N:St->Prop} {a b c x y:Code} {i j:Nat} {R α:Type} {r:R}
theorem sgj(G:bC a=false)(h:∀QQ:Exit->St->Prop,Eqv QQ (z1m P Q b)->vc P a QQ s):vc P (.seq a b) Q s:=zk5 G h
theorem k2t(h:vc P (.seq a b) Q s):vc P (.seq a b) Q s:=h
theorem k1b{t:Operand}(h:vc P (.cond t x y) Q s):vc P (.cond t x y) Q s:=h
theorem k2v{ops:Array Oper}{d:Bool}(h:vc P (.region i ops d) Q s):vc P (.region i ops d) Q s:=h
theorem k2u(h:vc P .ret Q s):vc P .ret Q s:=h
theorem k0y(h:vc P .skip Q s):vc P .skip Q s:=h
theorem k2w{l}(h:vc P (.label l) Q s):vc P (.label l) Q s:=h
theorem gEx(h:vc P (.exit i) Q s):vc P (.exit i) Q s:=h
theorem gBl(h:vc P (.block i c) Q s):vc P (.block i c) Q s:=h
theorem k1c{f:FuncId}{args:List AV}{K:St->AV->Prop}(h:qg1 P s f args K):qg1 P s f args K:=h
theorem k0z{u:AV}{K:AV->Hp->Nat->Prop}(h:z4u s u K):z4u s u K:=h
theorem gQ{f:FuncId}{args:List AV}{n:Nat}{g:Bool}{K:AV->Prop}(h:exQ P f args n g K):exQ P f args n g K:=h
theorem bI{G:Prop}[Row α]{L:List α}{i:Int}{k:α->Option R}(F:G)(h:q9 (idx L i) k=some r):∃x,(G/\0<=i/\i<L.length/\q3l (enc L) i.toNat=Row.row x)/\k x=some r:=by
 obtain⟨x,e,h⟩:=w9 h;obtain⟨I,T,W⟩:=q83 e;exact⟨x,⟨F,I,T,W⟩,h⟩
theorem bG{G c:Prop}[Decidable c]{k:Option R}(F:G)(h:u7 c k=some r):(G/\c)/\k=some r:=by
 obtain⟨g,h⟩:=q06 h;exact⟨⟨F,g⟩,h⟩
theorem sB{b:Bool}{G I:Option R}{t:Operand}{p q:Prop}(h:(if b=true then G else I)=some r)(T:p->G=some r->vc P x Q s)(W:q->I=some r->vc P y Q s)
 (Z:x8 s.env t=.v (.bool b):=by first|(simp only[go_sem];done)|(simp[go_sem];done)|(simp[go_sem];(first|grind|(simp_all;done)))|(simp only[go_sem];congr 2;(first|grind|(simp_all;done))))(e1:(b=true)=p:=by (conv=>lhs;(try simp only[bool_to_prop])))(e2:(b=false)=q:=by (conv=>lhs;(try simp only[bool_to_prop]))):vc P (.cond t x y) Q s:=
 qv2 Z (fun hb=>T (e1▸hb) (q1k h hb)) (fun hb=>W (e2▸hb) (q1l h hb))
theorem q4n{f:FuncId}{args args':List AV}{K:St->AV->Prop}{x:Option α}{k:α->Option R}{G:α->AV}[t:Ct P f x args' G](h:q9 x k=some r)(next:∀v,k v=some r->K s (G v))
 (I:args=args':=by rfl)(T:q0j args'=true:=by rfl):qg1 P s f args K:=by
 obtain⟨v,e,h⟩:=w9 h;exact qk7 (t.ok v e) I T (next v h)
theorem k07{f:FuncId}{args args':List AV}{nx:Nat}{g:Bool}{K:AV->Prop}{x:Option α}{k:α->Option R}{G:α->AV}[t:Ct P f x args' G](h:q9 x k=some r)(next:∀v,k v=some r->K (G v))
 (I:args=args':=by rfl)(T:q0j args'=true:=by rfl):exQ P f args nx g K:=by
 obtain⟨v,e,h⟩:=w9 h;exact br (fun _=>t.ok v e) I T (next v h)
end
def j6f:List Oper->Nat->List Nat->List Nat
 |[],_,acc=>acc
 |o::r,i,acc=>j6f r (i+1) (acc++[bF acc i o.after.toList])
def mkK(G:List Nat):Nat->Nat
 |0=>0
 |k+1=>if ((G.getD k 0 &&& (2^k-1))==2^k-1)=true then mkK G k else k+1
theorem k1d{P:Program}{ops:Array Oper}{s:St}{K:St->Prop}{k:Nat}(h:vcQ P ops (ops.toList.take k) s fun s'=>qk3 P ops (ops.toList.drop k) s' K)(I:mkK (j6f ops.toList 0 []) ops.size=k:=by (conv=>lhs;whnf))
 (T:P.follows .mixedOrders=true:=by kernel_rfl)(G:qy3 (j6f ops.toList 0 []) 0 ops.toList=true:=by kernel_rfl)(W:k<=ops.size:=by exact of_decide_eq_true (by kernel_rfl))(Z:zd5 (j6f ops.toList 0 []) ops.size k=true:=by kernel_rfl):z2n P ops s K:=
 q0a k _ T G W Z h
theorem ctI{R:Type}{P:Program}{f:FuncId}{fn:Func}{c:Code}{args:List AV}{x:Option R}{T:R->AV}(W:P.funcs[f]?=some fn)(hb:fn.body=some c)(h:∀r,x=some r->vc P c (z7a P fn.results.toList (zq4 (T r) 0)) ⟨0,qx4 args 0,[],0,fn.ntmps⟩)(I:okB fn.ntmps c=true:=by kernel_rfl)(G:(decide (args.length<=fn.ntmps)&&!(fn.name=="runtime.NumGoroutine"))=true:=by kernel_rfl):Ct P f x args T:=⟨fun r e=>Spec.cD W hb I G (h r e)⟩
theorem spI{R:Type}{r:R}{p:Prop}{b:Bool}{G I:Option R}(h:(if b=true then G else I)=some r)(T:b=true->G=some r->p)(W:b=false->I=some r->p):p:=by
 cases b
 . exact W rfl (q1l h rfl)
 exact T rfl (q1k h rfl)
theorem nxC{ι:Type}{s:St}{S:ι->St}{I:ι->Prop}(i:ι)(h:I i)(l:List (Option Nat))(T:Le s (S i) l):∃G l',Le s (S G) l'/\I G:=⟨i,l,T,h⟩
theorem leA{p:Prop}(e:p:=by simp only[go_sem,Le]<;>(repeat' apply And.intro)<;>first|(with_reducible exact j2z _ _)|(with_reducible exact ju3 _ _ _)|(with_reducible exact ju2 _ _ _ _)|(exact z1d _ (by assumption))|((try with_reducible refine q04 ?_);first|rfl|assumption|omega|exact⟨_,rfl,Nat.le_refl _,rfl,rfl⟩|exact .inr ⟨_,_,rfl,rfl⟩|exact .inr ⟨_,_,_,rfl,rfl,rfl,by simp only[go_sem]⟩|(simp only[go_sem];done)|(simp[go_sem];done)|(simp[q17,enc];done)|(simp[q17,enc];omega)|(simp[enc,qq3,qi7,zl3,q6l,j81,j48,jj9,j47];done)|(simp only[List.drop_zero,z2c,z5m,List.take_length];done)|(simp only[List.drop_zero,z2c,z5m,List.take_length,List.nil_append,q17];done)|(exact⟨_,rfl,Nat.le_of_eq (q17 _).symm,jc5 _⟩)|(simp[enc];rfl)|(simp[enc];rw[List.take_of_length_le (by simp)])|(simp only[List.length_take];omega))):p:=e
def pid(i:Nat):AV->List (Nat×Nat)
 |.ptr j _=>[(i,j)]
 |.apt j _ _ _=>[(i,j)]
 |.osl j _ _ _=>[(i,j)]
 |.bsl j _ _=>[(i,j)]
 |.mp j=>[(i,j)]
 |_=>[]
def inner:AV->List AV
 |.agg xs=>xs
 |.tup xs=>xs
 |.clo _ xs=>xs
 |_=>[]
mutual
def mA(a:AV):AV->List (Nat×Nat)
 |.ptr i _=>pid i a
 |.apt i _ _ _=>pid i a
 |.osl i _ _ _=>pid i a
 |.bsl i _ _=>pid i a
 |.mp i=>pid i a
 |.agg ys=>mL (inner a) ys
 |.tup ys=>mL (inner a) ys
 |_=>[]
def mL:List AV->List AV->List (Nat×Nat)
 |x::xs,y::ys=>mA x y++mL xs ys
 |_,_=>[]
end
def mE(env:List (Nat×AV)):List (Nat×AV)->List (Nat×Nat)
 |[]=>[]
 |(k,a)::r=>mA (q0x env k) a++mE env r
def mC:AV->AV->List (Nat×Nat)
 |.clo _ xs,.clo _ ys=>mL xs ys
 |_,_=>[]
def mCL:List AV->List AV->List (Nat×Nat)
 |x::xs,y::ys=>mC x y++mCL xs ys
 |_,_=>[]
def mF(env:List (Nat×AV)):List (Nat×AV)->List (Nat×Nat)
 |[]=>[]
 |(k,a)::r=>mC (q0x env k) a++mF env r
def lk:List (Nat×Nat)->Nat->Option Nat
 |[],_=>none
 |(a,b)::r,q=>if a=q then some b else lk r q
def mO:Option bj->bj->List (Nat×Nat)
 |some (.box as),.box G=>mL as G++mCL as G
 |_,_=>[]
def mJ(hp:Hp)(o:bj):Option Nat->List (Nat×Nat)
 |some j=>mO (q0i hp j) o
 |none=>[]
def mH(hp:Hp):Hp->List (Nat×Nat)->List (Nat×Nat)
 |[],G=>G
 |(i,o)::r,G=>mH hp r (G++mJ hp o (lk G i))
def slf:Nat->List (Nat×Nat)
 |0=>[]
 |n+1=>(n,n)::slf n
def zr8(G:List (Nat×Nat)):Nat->Nat->List (Option Nat)
 |0,_=>[]
 |n+1,q=>lk G q::zr8 G n (q+1)
def zt3(s:St)(nb nx:Nat)(hp:Hp)(G:List (Nat×Nat)):List (Option Nat):=zr8 (mH s.hp hp (mH s.hp hp (G++slf nb))) (nx-nb) nb
def zi7(s s':St):List (Option Nat):=zt3 s s'.nb s'.nx s'.hp (mE s.env s'.env++mF s.env s'.env)
theorem nxA{ι:Type}{s:St}{S:ι->St}{I:ι->Prop}{i:ι}{l:List (Option Nat)}(h:I i)(e:zi7 s (S i)=l:=by (conv=>lhs;simp only[go_sem,zi7,zt3,mE,mF,mC,mCL,mA,mL,pid,inner,lk,mO,mJ,mH,slf,zr8]))(T:Le s (S i) l:=by exact leA):∃G l',Le s (S G) l'/\I G:=⟨i,l,T,h⟩
theorem nxB{ι:Type}{s:St}{S:ι->St}{I:ι->Prop}{T:ι->Nat}{m:Nat}{i:ι}{l:List (Option Nat)}(h:I i)(W:T i<m)(e:zi7 s (S i)=l:=by (conv=>lhs;simp only[go_sem,zi7,zt3,mE,mF,mC,mCL,mA,mL,pid,inner,lk,mO,mJ,mH,slf,zr8]))(Z:Le s (S i) l:=by exact leA):∃G l',Le s (S G) l'/\I G/\T G<m:=⟨i,l,Z,h,W⟩
theorem rtA{s:St}{r I:AV}{hp':Hp}{G:Nat}{l:List (Option Nat)}(e:zt3 s s.nb G hp' (mA r I)=l:=by (conv=>lhs;simp only[go_sem,zi7,zt3,mE,mF,mC,mCL,mA,mL,pid,inner,lk,mO,mJ,mH,slf,zr8]))(h:Le s ⟨s.nb,[],hp',G,s.nt⟩ l/\be (q82 s.nb l) s.hp (fun j=>qh5 (q82 s.nb l) j hp') G r I:=by exact leA):z4u s r (j7l I hp' G):=q2b l h
theorem k0v{G R:Type}{P:Program}{Q:Exit->St->Prop}{s:St}{c:Code}{body:(G->Option R)->G->Option R}{v0:G}{r:R}(S:G->St)(h:d9 body rounds v0=some r)(T:List (Option Nat))(Z:Le s (S v0) T)
 (step:∀m i,body (d9 body m) i=some r->∀QQ:Exit->St->Prop,Eqv QQ (q6t (fun s'=>∃I l',Le s' (S I) l'/\d9 body m I=some r) Q)->vc P c QQ (S i)):vc P (.loop c) Q s:=by
 refine z8l (z7f (ι:=Nat×G) (fun p=>S p.2) (fun p=>d9 body p.1 p.2=some r) (fun p=>p.1) (rounds,v0) T Z h ?_);rintro⟨n,i⟩ hi;obtain⟨m,rfl,hm⟩:=qc8 hi;refine j0e (q98 _ _ _ (step m i hm _ rfl)) fun e s' W=>?_
 cases e with
 |normal=>obtain⟨I,l',h1,h2⟩:=W;exact⟨(m,I),l',h1,h2,Xm m⟩
 |_=>exact W
def upS(s:St)(G:List Nat)(d:List (Nat×AV)×Hp)(nx:Nat):St:=⟨s.nb,G.map (fun k=>(k,q0x s.env k))++d.1,d.2,nx,s.nt⟩
theorem q0e{G R:Type}{P:Program}{Q:Exit->St->Prop}{s:St}{c:Code}{body:(G->Option R)->G->Option R}{v0:G}{r:R}{S:G->St}{I:List (Option Nat)}(h:d9 body rounds v0=some r)(W:List Nat)(d:G->List (Nat×AV)×Hp)(nx:Nat)
 (step:∀m i,body (d9 body m) i=some r->∀QQ:Exit->St->Prop,Eqv QQ (q6t (fun s'=>∃T l',Le s' (S T) l'/\d9 body m T=some r) Q)->vc P c QQ (S i))(eS:∀x,upS s W (d x) nx=S x:=by (intro x;conv=>lhs;simp only[upS,q0x,List.map_cons,List.map_nil,List.cons_append,List.nil_append,List.append_nil,reduceIte,if_true,if_false,Nat.reduceEqDiff]))(e0:zi7 s (S v0)=I:=by (conv=>lhs;simp only[go_sem,zi7,zt3,mE,mF,mC,mCL,mA,mL,pid,inner,lk,mO,mJ,mH,slf,zr8]))(Z:Le s (S v0) I:=by exact leA):vc P (.loop c) Q s:=k0v S h I Z step
theorem q30{ι:Type}{P:Program}{Q:Exit->St->Prop}{s:St}{x y:Code}{S:ι->St}(I:ι->Prop)(G:List Nat)(d:ι->List (Nat×AV)×Hp)(nx:Nat)(h:∀QQ:Exit->St->Prop,Eqv QQ (q6t (fun s'=>∃i l,Le s' (S i) l/\I i) Q)->vc P x QQ s)(T:∀i,I i->vc P y Q (S i))(Z:∀x,upS s G (d x) nx=S x:=by (intro x;conv=>lhs;simp only[upS,q0x,List.map_cons,List.map_nil,List.cons_append,List.nil_append,List.append_nil,reduceIte,if_true,if_false,Nat.reduceEqDiff]))(W:bC x=true:=by kernel_rfl):vc P (.seq x y) Q s:=z4c W (zf7 S I h T)
theorem z1c{P:Program}{s:St}{f:FuncId}{args args':List AV}{K:St->AV->Prop}{r:AV}(h:aZ P f args' 0 r)(G:K s r)(I:be.AvLeL (q82 s.nb []) s.hp (fun j=>qh5 (q82 s.nb []) j []) s.nb args args':=by exact leA)(T:q0j args'=true:=by rfl)(W:q90 r=true:=by rfl):qg1 P s f args K:=
 k1g (s':=⟨s.nb,[],[],s.nb,s.nt⟩) (l:=[]) ⟨rfl,rfl,Xa _,trivial,trivial,trivial⟩ I h T W G
theorem k08{R α:Type}{r:R}{P:Program}{s:St}{f:FuncId}{args args':List AV}{K:St->AV->Prop}{x:Option α}{k:α->Option R}{G:α->AV}[t:Ct P f x args' G](h:q9 x k=some r)(next:∀v,k v=some r->K s (G v))(I:be.AvLeL (q82 s.nb []) s.hp (fun j=>qh5 (q82 s.nb []) j []) s.nb args args':=by exact leA)(T:q0j args'=true:=by rfl)(W:∀v,q90 (G v)=true:=by intro v;rfl):qg1 P s f args K:=by
 obtain⟨v,e,h⟩:=w9 h;exact z1c (t.ok v e) (next v h) I T (W v)
theorem qm5{P:Program}{s s':St}{f:FuncId}{args:List AV}{K:St->AV->Prop}(G:List Nat)(d:List (Nat×AV)×Hp)(nx:Nat)(l:List (Option Nat))(as:List AV)(h:qg1 P s' f as K)(W:upS s G d nx=s':=by (conv=>lhs;simp only[upS,q0x,List.map_cons,List.map_nil,List.cons_append,List.nil_append,List.append_nil,reduceIte,if_true,if_false,Nat.reduceEqDiff]))(I:Le s s' l:=by exact leA)
 (T:be.AvLeL (q82 s.nb l) s.hp (fun j=>qh5 (q82 s.nb l) j s'.hp) s'.nx args as:=by exact leA):qg1 P s f args K:=qx3 I T h
theorem q18{P:Program}{s:St}{f:FuncId}{args G:List AV}{K:St->AV->Prop}{hp0 hp1 H:Hp}{n n1 N:Nat}{I R:AV}(l:List Nat)(h:ba P f G hp0 n I hp1 n1)(T:K {s with hp:=H,nx:=N} R)(W:(s.hp.map (·.1)).Nodup:=by simp)(Z:args=q6n (ofL l) G:=by rfl)
 (hh:j21 (qe4 (ofL l) hp0) s.hp:=by repeat' (first|exact trivial|refine⟨rfl,?_⟩))(hk:(decide (l.length=n)&&bT l&&(l.all fun i=>decide (i<s.nx))&&ltL n G&&ltH n hp0)=true:=by rfl)
 (hR:q2j (upR (ofL l) n s.nx) I=R:=by rfl)(hH:qe4 (upR (ofL l) n s.nx) hp1++z6t ((qe4 (ofL l) hp0).map (·.1)) s.hp=H:=by rfl)(hN:n1-n+s.nx=N:=by rfl):qg1 P s f args K:=q7h l h W Z hh hk hR hH hN T
theorem dtI{P:Program}{f:FuncId}{fn:Func}{c:Code}{args:List AV}{hp hp':Hp}{n T:Nat}{r:AV}(W:P.funcs[f]?=some fn)(hb:fn.body=some c)(h:vc P c (z7a P fn.results.toList (j7l r hp' T)) ⟨n,qx4 args 0,hp,n,fn.ntmps⟩)(I:okB fn.ntmps c=true:=by kernel_rfl)(G:(decide (args.length<=fn.ntmps)&&!(fn.name=="runtime.NumGoroutine"))=true:=by kernel_rfl):ba P f args hp n r hp' T:=Spec.cD W hb I G h
theorem ptI{P:Program}{f:FuncId}{fn:Func}{c:Code}{args:List AV}{n:Nat}{r:AV}(T:P.funcs[f]?=some fn)(hb:fn.body=some c)(h:vc P c (z7a P fn.results.toList (zq4 r n)) ⟨n,qx4 args 0,[],n,fn.ntmps⟩)(I:okB fn.ntmps c=true:=by kernel_rfl)(G:(decide (args.length<=fn.ntmps)&&!(fn.name=="runtime.NumGoroutine"))=true:=by kernel_rfl):aZ P f args n r:=Spec.cD T hb I G h
theorem ctK{R:Type}{P:Program}{f:FuncId}{fn:Func}{c:Code}{args:List AV}{x T:Option R}{W:R->AV}(Z:P.funcs[f]?=some fn)(hb:fn.body=some c)(e:x=T)(h:∀r,T=some r->True->vc P c (z7a P fn.results.toList (zq4 (W r) 0)) ⟨0,qx4 args 0,[],0,fn.ntmps⟩)(I:okB fn.ntmps c=true:=by kernel_rfl)(G:(decide (args.length<=fn.ntmps)&&!(fn.name=="runtime.NumGoroutine"))=true:=by kernel_rfl):Ct P f x args W:=ctI Z hb (fun r hx=>h r (e▸hx) trivial) I G
theorem jg{P:Program}{Q:Exit->St->Prop}{s:St}{a b:Code}(h:∀QQ:Exit->St->Prop,Eqv QQ (z1m P Q b)->vc P a QQ s)(G:bC a=true:=by kernel_rfl):vc P (.seq a b) Q s:=z4c G (z3l h)
theorem k3b{P:Program}{Q:Exit->St->Prop}{s:St}{x y:Code}{t:Operand}(G:vc P x Q s)(I:x8 s.env t=.v (.bool true):=by simp only[go_sem];done):vc P (.cond t x y) Q s:=q7n I G
theorem k3c{P:Program}{Q:Exit->St->Prop}{s:St}{x y:Code}{t:Operand}(G:vc P y Q s)(I:x8 s.env t=.v (.bool false):=by simp only[go_sem];done):vc P (.cond t x y) Q s:=qh3 I G
theorem ai{p q:Prop}(k:q)(h:p:=by omega):p/\q:=⟨h,k⟩
theorem au{p:Prop}(e:p:=by
 repeat' (first
  |((with_reducible refine k2t ?_);first|refine sgj (Eq.refl false) (fun _ _=>?_)|(refine z4c (Eq.refl true) ?_;refine z3l (fun _ _=>?_)))
  |((with_reducible refine k2v ?_);(try (refine q07 ?_;refine k1d ?_));(repeat (first|(obtain⟨_,F,h⟩:=bI F h;try simp only[Int.toNat_natCast,Int.reduceToNat]at F)|obtain⟨F,h⟩:=bG F h));simp only[go_sem,F])
  |((with_reducible refine k1b ?_);first|(refine q7n ?_ ?_;· (simp only[go_sem];done))|(refine qh3 ?_ ?_;· (simp only[go_sem];done))|refine sB h (fun hb h=>?_) (fun hb h=>?_))
  |((with_reducible refine k2u ?_);refine q03 ?_)
  |((with_reducible refine k0y ?_);refine y7 ?_)
  |((with_reducible refine k2w ?_);refine j3f ?_)
  |((with_reducible refine gEx ?_);refine q0n ?_)
  |((with_reducible refine gBl ?_);refine z8 (fun _ _=>?_))
  |((with_reducible refine k0z ?_);obtain rfl:=Option.some.inj h;first|(refine q8q rfl ?_;exact leA)|exact rtA)
  |refine q8 (by assumption) ?_
  |refine q08 (by assumption) ?_
  |refine q0y (by assumption) ?_
  |refine q0r (by assumption) ?_
  |refine q31 (by assumption) ?_
  |refine q1f (by assumption) ?_
  |refine q0h (by assumption) ?_
  |refine j2u (by assumption) (by decide) ?_
  |refine q0o (by assumption) ?_
  |(refine p8 (by assumption) ?_
    first
     |exact nxA h
     |exact nxA (i:=(_,_)) h
     |exact nxA (i:=(_,_,_)) h
     |exact nxA (i:=(_,_,_,_)) h
     |exact nxA (i:=(_,_,_,_,_)) h
     |exact nxA (i:=(_,_,_,_,_,_)) h
     |exact nxA (i:=(_,_,_,_,_,_,_)) h
     |exact nxA (i:=(_,_,_,_,_,_,_,_)) h
     |exact nxA (i:=()) h
     |exact nxB (i:=(_,_)) h (Nat.lt_succ_self _)
     |exact nxB (i:=(_,_,_)) h (Nat.lt_succ_self _)
     |exact nxB (i:=(_,_,_,_)) h (Nat.lt_succ_self _)
     |exact nxB (i:=(_,_,_,_,_)) h (Nat.lt_succ_self _)
     |exact nxB (i:=(_,_,_,_,_,_)) h (Nat.lt_succ_self _))
  |((with_reducible refine k1c ?_);first|refine q4n h (fun v h=>?_)|refine k08 h (fun v h=>?_))
  |((with_reducible refine gQ ?_);refine k07 h (fun v h=>?_))
  |((with_reducible refine And.intro ?_ ?_);· first|omega|assumption|(simp only[List.length_append,List.length_cons,List.length_nil,Nat.zero_add]<;>omega)|(simp+contextual only[and_self,implies_true,true_and,and_true,imp_self];done)|(intros;(repeat' apply And.intro)<;>first|assumption|omega)|(simp+contextual;done)|(intros;simp_all;done)|exact rfl)
  |((repeat (first|(obtain⟨_,F,h⟩:=bI F h;try simp only[Int.toNat_natCast,Int.reduceToNat]at F)|obtain⟨F,h⟩:=bG F h));simp only[go_sem,F])
  |(refine spI h (fun hb h=>?_) (fun hb h=>?_)<;>(replace F:=And.intro F hb;(repeat (first|(obtain⟨_,F,h⟩:=bI F h;try simp only[Int.toNat_natCast,Int.reduceToNat]at F)|obtain⟨F,h⟩:=bG F h));simp only[go_sem,F])))):p:=e
theorem au1{p:Prop}(e:p:=by
 intro r h;have F:=trivial;exact au):p:=e
end
section
open Go Go.RowKit
theorem k3r{α G R:Type}{l:List α}(hl:l.length<9223372036854775807){body:(Int×G->Option R)->Int×G->Option R}(I:Nat->G->Prop){Q:R->Prop}{s0:G}(i0:Nat)
 (h:∀(rec:Int×G->Option R) (i:Nat) (_:i<l.length) s,i0<=i->I i s->(∀s',I (i+1) s'->Ok (rec (((i+1:Nat):Int),s')) Q)->Ok (body rec ((i:Int),s)) Q)
 (hK:∀(rec:Int×G->Option R) s,I l.length s->Ok (body rec ((l.length:Int),s)) Q)(h0:I i0 s0)(T:i0<=l.length):Ok (d9 body rounds ((i0:Int),s0)) Q:=by
 refine k3p (fun s=>∃i:Nat,s.1=(i:Int)/\i0<=i/\i<=l.length/\I i s.2) (fun s=>l.length-s.1.toNat) ?_ ⟨i0,rfl,Xa _,T,h0⟩ (by simp only[rounds];omega);rintro rec ⟨_,s⟩ ⟨i,rfl,h1,h2,h3⟩ hr;rcases Xg i l.length with W|a6
 . exact h rec i W s h1 h3 fun s' Z=>hr _ ⟨i+1,rfl,by omega,by omega,Z⟩ (by simp only[Yp];omega)
 obtain rfl:i=l.length:=by omega
 exact hK rec s h3
theorem k3s{α R:Type}{l:List α}(hl:l.length<9223372036854775807){body:(Int->Option R)->Int->Option R}(I:Nat->Prop){Q:R->Prop}(i0:Nat)
 (h:∀(rec:Int->Option R) (i:Nat) (_:i<l.length),i0<=i->I i->(I (i+1)->Ok (rec ((i+1:Nat):Int)) Q)->Ok (body rec (i:Int)) Q)
 (hK:∀(rec:Int->Option R),I l.length->Ok (body rec (l.length:Int)) Q)(h0:I i0)(G:i0<=l.length):Ok (d9 body rounds (i0:Int)) Q:=by
 refine k3p (fun s:Int=>∃i:Nat,s=(i:Int)/\i0<=i/\i<=l.length/\I i) (fun s=>l.length-s.toNat) ?_ ⟨i0,rfl,Xa _,G,h0⟩ (by simp only[rounds];omega);rintro rec _ ⟨i,rfl,h1,h2,Z⟩ hr;rcases Xg i l.length with T|a6
 . exact h rec i T h1 Z fun W=>hr _ ⟨i+1,rfl,by omega,by omega,W⟩ (by simp only[Yp];omega)
 obtain rfl:i=l.length:=by omega
 exact hK rec Z
theorem j24{α β:Type}{f:α->List β}{l:List α}{i:Nat}(h:i<l.length):(l.take (i+1)).flatMap f=(l.take i).flatMap f++f l[i]:=by
 rw[X3 h,List.flatMap_append];simp
theorem q7i{α:Type}{P:α->Prop}{l:List α}{i:Nat}(h:i<l.length):(∀x∈l.take (i+1),P x)↔(∀x∈l.take i,P x)/\P l[i]:=by
 rw[X3 h]
 constructor
 . intro I;exact⟨fun x G=>I x (Xq _ G),I _ (Xk _ (Yo.2 rfl))⟩
 rintro⟨I,T⟩ x G;rcases Xj.1 G with G|G
 . exact I x G
 simp only[Yo]at G;rw[G];exact T
end
section
open Go Go.RowKit
theorem j4g{w:World}{β:aI}{nx:Nat}{ow:Nat->Prop}:∀(l us:List Value),y9 w β nx ow (l.map AV.v) us->us=l
 |[],[],_=>rfl
 |a::l,u::us,h=>by
  simp only[Xw,y9,rep]at h;rw[h.1,j4g l us h.2]
 |[],u::us,h=>by simp only[List.map_nil,y9]at h
 |a::l,[],h=>by simp only[Xw,y9]at h
theorem j2d{P:Program}{f:FuncId}{fn:Func}{e:Array Value->Sem Value}(hf:P.funcs[f]?=some fn)(G:(fn.name=="runtime.NumGoroutine")=false)(hb:fn.body.isNone=true)(hn:Extern.findNext fn=none)(he:Extern.find fn=some e)
 {vs:List Value}{v:Value}{r:AV}(T:∀w,(e ⟨vs⟩).run P w=.ok v w)(hr:∀w β nx ow,rep w β nx ow r v):aZ P f (vs.map AV.v) 0 r:=by
 intro w β A us hA I Z a6;obtain rfl:=j4g vs us I;refine⟨fun hB=>?_,fun _=>⟨v,w,?_,v,_,_,_,β,rfl,⟨rfl,rfl,rfl⟩,hr _ _ _ _,Z,?_⟩⟩
 .
  unfold q02 at hB;rw[hf]at hB
  cases W:fn.body with
  |none=>simp[W]at hB
  |some c=>simp[W]at hb
 . rw[run_callFunc_extern hf G hb hn he,T];rfl
 exact {nx:=Xa _,gh:=fun _ _=>rfl,gi:=fun _ _ _=>rfl,ids:=fun p hp=>(by cases hp),blk:=fun p hp=>(by cases hp),os:=rfl,tape:=rfl,output:=⟨rfl,fun _=>Xa _⟩,size:=Xa _,keep:=fun _ _ _=>rfl}
def zq3(x y c:Int):Option (Int×Int):=u7 (0<=x/\0<=y/\0<=c/\c<=1) (some ((x+y+c)%18446744073709551616,(x+y+c)/18446744073709551616))
theorem j7i{P:Program}{f:FuncId}{fn:Func}(T:P.funcs[f]?=some fn)(G:(fn.name=="runtime.NumGoroutine")=false)(hb:fn.body.isNone=true)(W:Extern.findNext fn=none)(Z:Extern.find fn=some add64Entry)
 {x y c:Int}{r:Int×Int}(h:zq3 x y c=some r):aZ P f [.v (.int .u64 x),.v (.int .u64 y),.v (.int .u64 c)] 0 (.tup [.v (.int .u64 r.1),.v (.int .u64 r.2)]):=by
 obtain⟨I,h⟩:=q06 h;simp only[Xd]at h;subst h;refine j2d (vs:=[.int .u64 x,.int .u64 y,.int .u64 c]) T G hb W Z (fun w=>run_add64 x y c I.1 I.2.1 I.2.2.1 I.2.2.2 w) (fun w β nx ow=>?_);simp only[rep];exact⟨_,rfl,by simp only[y9,rep];exact⟨trivial,trivial,trivial⟩⟩
def j0p:Array Value->Sem Value:=fun args=>do
 let (x,y,b) <-Extern.MathBitsCarry.three "Sub64" args
 pure (Extern.MathBitsCarry.pair ((x+Extern.MathBitsCarry.m64-y-b)%Extern.MathBitsCarry.m64) (if x<y+b then 1 else 0))
theorem j5o{P:Program}(x y b:Nat)(hb:b<=1)(w:World):
 (j0p #[.int .u64 x,.int .u64 y,.int .u64 b]).run P w=
  .ok (.tuple #[.int .u64 (((x+18446744073709551616-y-b)%18446744073709551616:Nat):Int),.int .u64 ((if x<y+b then 1 else 0:Nat):Int)]) w:=by
 have:b=0\/b=1:=by omega
 rcases this with rfl|rfl<;>rfl
def zk8(x y b:Int):Option (Int×Int):=u7 (0<=x/\0<=y/\y<=18446744073709551615/\0<=b/\b<=1) (some ((x+18446744073709551616-y-b)%18446744073709551616,if x<y+b then 1 else 0))
theorem j5k{P:Program}{f:FuncId}{fn:Func}(I:P.funcs[f]?=some fn)(G:(fn.name=="runtime.NumGoroutine")=false)(hb:fn.body.isNone=true)(T:Extern.findNext fn=none)(W:Extern.find fn=some j0p)
 {x y c:Int}{r:Int×Int}(h:zk8 x y c=some r):aZ P f [.v (.int .u64 x),.v (.int .u64 y),.v (.int .u64 c)] 0 (.tup [.v (.int .u64 r.1),.v (.int .u64 r.2)]):=by
 obtain⟨⟨Z,h2,h3,h4,h5⟩,h⟩:=q06 h;simp only[Xd]at h;subst h;obtain⟨x,rfl⟩:=Yd Z;obtain⟨y,rfl⟩:=Yd h2;obtain⟨c,rfl⟩:=Yd h4;refine j2d (vs:=[.int .u64 x,.int .u64 y,.int .u64 c]) I G hb T W (fun w=>j5o x y c (by omega) w) (fun w β nx ow=>?_);simp only[rep];refine⟨_,rfl,?_⟩;simp only[y9,rep,and_true,Value.int.injEq,true_and];refine⟨by omega,?_⟩
 split<;>split<;>first|rfl|omega
end
section
open Go Go.RowKit
@[go_sem] theorem wl1:IntKind.i64.wrap 1=1:=by decide
@[go_sem] theorem wl2:IntKind.i64.wrap 2=2:=by decide
@[go_sem] theorem wl3:IntKind.i64.wrap 3=3:=by decide
@[go_sem] theorem wl4:IntKind.i64.wrap 4=4:=by decide
@[go_sem] theorem wl5:IntKind.i64.wrap 5=5:=by decide
@[go_sem] theorem wl6:IntKind.i64.wrap 6=6:=by decide
@[go_sem] theorem wl7:IntKind.i64.wrap 7=7:=by decide
@[go_sem] theorem wl8:IntKind.i64.wrap 8=8:=by decide
end
end Go.Proofs.YtomicnbiniapfaaGreat

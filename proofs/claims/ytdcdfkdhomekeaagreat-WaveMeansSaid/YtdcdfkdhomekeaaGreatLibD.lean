/-
  Regions of open order in which operations turn something; plain functions that may give nothing, and loops. No condition beyond those that each theorem names.
-/
import Derived.Test.YtdcdfkdhomekeaaGreatLibC
import Derived.Test.YtdcdfkdhomekeaaGreatLibB
import Derived.Laws.Externs
import Derived.LoopN
set_option linter.unusedSimpArgs false
set_option linter.unusedVariables false
set_option linter.unusedSectionVars false
open Nat renaming le_refl->Xa,lt_or_ge->Xg,lt_of_lt_of_le->Xi,lt_succ_self->Xm,not_lt_zero->Ya,add_sub_cancel_left->Ye,succ_ne_self->Yj,le_trans->Yn,mul_le_mul_right->Yq,zero_le->Yz,le_succ_of_le->Za,le_succ->Zb
open Array renaming getD_eq_getD_getElem?->Xb,getElem?_eq_getElem->Xh,mem_toList_iff->Xl,getElem?_setIfInBounds->Xq,getElem?_eq_some_iff->Xx,mem_append->X0,getElem?_replicate->Yd,replicate->Yp
open Bool renaming and_eq_true->Xc,or_eq_true->Xv,not_eq_true'->Yg
open Option renaming some.injEq->Xd,getD_some->Xo,some.inj->Yo,map_some->Zg
open List renaming all_eq_true->Xe,mem_cons->Xf,mem_append->Xj,mem_append_right->Xk,mem_map->Xn,mem_append_left->Xp,range->Xr,length_append->Xs,map_cons->Xt,map_congr_left->Xu,length_map->Xw,getD_eq_getElem?_getD->Xy,append_assoc->Xz,getElem?_eq_getElem->X3,take_succ_eq_append_getElem->X4,take_append_of_le_length->X5,mem_range->X6,length_take->X7,getElem?_append_right->X9,getElem?_eq_some_iff->Yb,getElem?_append_left->Yc,drop_of_length_le->Yh,length_cons->Yi,getElem_mem->Yk,take->Yl,nodup_cons->Ym,drop_append_of_le_length->Yr,getD_cons_succ->Ys,mem_singleton->Yt,map_take->Yu,findIdx?_eq_none_iff->Yw,cons_append->Yx,drop_append->Yy,take_of_length_le->Y0,contains_iff_mem->Y3,take_append_drop->Y4,all_cons->Y5,getD_cons_zero->Y6,mem_map_of_mem->Y7,getElem?_take->Y8,findIdx?_cons->Y9,nodup_range->Zc,take_length->Zd,length_drop->Ze,take_append->Zf
open Prod renaming mk.injEq->X8
open Int renaming eq_ofNat_of_zero_le->Yf,toNat_natCast->Yv
namespace Go.Proofs.YtdcdfkdhomekeaaGreat
section
open Go Go.RowKit
def q4w(a:List Nat):Hp->Hp
 |[]=>[]
 |(k,o)::r=>if k∈a then q4w a r else (k,o)::q4w a r
theorem z6r{a:List Nat}{id:Nat}(h:id∉a):∀(hp:Hp),q0i (q4w a hp) id=q0i hp id
 |[]=>rfl
 |(k,o)::r=>by
  unfold q4w
  split
  .
   rename_i b
   rw[z6r h r];have:k≠id:=λe=>h (by rw[<-e];exact b);simp only[q0i,if_neg this]
  simp only[q0i,z6r h r]
def jf0(P:Program)(nb:Nat)(hp:Hp)(nx:Nat)(f:FuncId)(args:List AV)(K:Hp->Nat->AV->Prop):Prop:=
 ∃(H:Hp) (N:Nat) (R:AV),(∀(s:St) (K':St->AV->Prop),s.nb=nb->s.hp=hp->s.nx=nx->(s.hp.map (·.1)).Nodup->K' {s with hp:=H,nx:=N} R->q9r P s f args K')/\K H N R
def j0m(a:List Nat)(hp:Hp)(K:St->Prop)(s':St):Prop:=q4w a s'.hp=q4w a hp/\K s'
def j7h(dst:Option Nat)(s:St)(K:St->Prop)(hp':Hp)(nx':Nat)(r:AV):Prop:=K (({s with hp:=hp',nx:=nx'}:St).put dst r)
def z9i(P:Program)(a:List Nat)(o:Oper)(s:St)(K:St->Prop):Prop:=
 match o.op with
 |.call c=>match c.callee,c.args.toList,c.argTypes.toList with
  |.value d,args,_=>match (y9 s.env d).st with
   |.clo f b=>(True/\(y9 s.env d).aZ/\bW (args.map (y9 s.env)))/\jf0 P s.nb s.hp s.nx f ((args.map λx=>(y9 s.env x).st)++b) (j7h o.dst s (j0m a s.hp K))
   |_=>False
  |_,_,_=>vcX P o s (j0m a s.hp K)
 |.binOp .. =>False
 |_=>vcX P o s (j0m a s.hp K)
def j0l(P:Program)(a:List Nat)(o:Oper)(s:St)(K:St->Prop)(g:Bool):Prop:=(g=true->z9i P a o s K)/\(g=false->K (s.put o.dst (.v undef)))
theorem jt9(P:Program)(a:List Nat)(o:Oper)(s:St)(K:St->Prop):j0l P a o s K true=z9i P a o s K:=by simp[j0l]
theorem ju0(P:Program)(a:List Nat)(o:Oper)(s:St)(K:St->Prop):j0l P a o s K false=K (s.put o.dst (.v undef)):=by simp[j0l]
def j0k(P:Program)(ops:Array Oper)(a:List Nat)(o:Oper)(s:St)(K:St->Prop):Prop:=
 match o.guard with
 |none=>z9i P a o s K
 |some (j,b)=>match q23 ops j with
  |some d=>match z1d (q17 s.env d) b with
   |some g=>j0l P a o s K g
   |none=>False
  |none=>False
section
variable {P:Program} {C:Ctx P} {s:St} {a:Act} {w:World} {β:aF}
theorem jg6{o:Oper}{s:St}{K:St->Prop}(hc:∀c f,o.op=.call c->c.callee≠ .value f)(hb:∀a b c d e,o.op≠ .binOp a b c d e)(h:vcX P o s K):
 ∃H N R,K (({s with hp:=H,nx:=N}:St).put o.dst R)/\∀g:List (Nat×AV),(∀x∈o.op.operands,y9 g x=y9 s.env x)->∀K':St->Prop,K' (({s with env:=g,hp:=H,nx:=N}:St).put o.dst R)->vcX P o {s with env:=g} K':=by
 unfold vcX at h⊢
 split at h
 .
  split at h
  . exact⟨_,_,_,h,λg j K' z=>by simp only[*]⟩
  . exact⟨_,_,_,h,λg j K' z=>by simp only[*]⟩
  exact h.elim
 .
  rename_i e x u
  split at h
  .
   rename_i cs S
   exact⟨_,_,_,h.2,λg j K' z=>by
    have q:y9 g x=y9 s.env x:=j x (by rw[u];simp[Op.operands]);simp only[u,q,S];exact⟨h.1,z⟩⟩
  .
   rename_i cs ar S
   exact⟨_,_,_,h.2,λg j K' z=>by
    have q:y9 g x=y9 s.env x:=j x (by rw[u];simp[Op.operands]);simp only[u,q,S];exact⟨h.1,z⟩⟩
  exact h.elim
 .
  rename_i t x y u
  split at h
  .
   rename_i id off ys G D
   split at h
   .
    rename_i cs L
    exact⟨_,_,_,h.2,λg j K' z=>by
     have q:y9 g x=y9 s.env x:=j x (by rw[u];simp[Op.operands]);have I:y9 g y=y9 s.env y:=j y (by rw[u];simp[Op.operands]);simp only[u,q,I,G,D,L];exact⟨h.1,z⟩⟩
   .
    rename_i k cs L
    split at h
    .
     rename_i n hn
     exact⟨_,_,_,h.2,λg j K' z=>by
      have q:y9 g x=y9 s.env x:=j x (by rw[u];simp[Op.operands]);have I:y9 g y=y9 s.env y:=j y (by rw[u];simp[Op.operands]);simp only[u,q,I,G,D,L,hn];exact⟨h.1,z⟩⟩
    exact h.elim
   exact h.elim
  .
   rename_i id sz i off ys G D
   split at h
   .
    rename_i T xs L
    exact⟨_,_,_,h.2,λg j K' z=>by
     have q:y9 g x=y9 s.env x:=j x (by rw[u];simp[Op.operands]);have I:y9 g y=y9 s.env y:=j y (by rw[u];simp[Op.operands]);simp only[u,q,I,G,D,L];exact⟨h.1,z⟩⟩
   .
    rename_i k cs L
    split at h
    .
     rename_i n hn
     exact⟨_,_,_,h.2,λg j K' z=>by
      have q:y9 g x=y9 s.env x:=j x (by rw[u];simp[Op.operands]);have I:y9 g y=y9 s.env y:=j y (by rw[u];simp[Op.operands]);simp only[u,q,I,G,D,L,hn];exact⟨h.1,z⟩⟩
    exact h.elim
   exact h.elim
  exact h.elim
 .
  rename_i t n parts u
  split at h
  .
   rename_i e i0 o0 rs J hr
   split at h
   .
    rename_i zs O
    exact⟨_,_,_,h.2,λg j K' z=>by
     have hp:∀p∈parts.toList,y9 g p.2=y9 s.env p.2:=λp hp=>j p.2 (by rw[u];simp only[Op.operands];simp;exact⟨p.1,by simpa using hp⟩);have G:(parts.toList.map λp:Nat×Operand=>(y9 g p.2).st)=parts.toList.map λp=>(y9 s.env p.2).st:=Xu λp q=>by rw[hp p q]
     have D:(parts.toList.map λp:Nat×Operand=>y9 g p.2)=parts.toList.map λp=>y9 s.env p.2:=Xu λp q=>hp p q;simp only[u,G,D,J,hr,O];exact⟨h.1,z⟩⟩
   exact h.elim
  .
   rename_i e rs _ J hr
   split at h
   .
    rename_i zs O
    exact⟨_,_,_,h.2,λg j K' z=>by
     have hp:∀p∈parts.toList,y9 g p.2=y9 s.env p.2:=λp hp=>j p.2 (by rw[u];simp only[Op.operands];simp;exact⟨p.1,by simpa using hp⟩);have G:(parts.toList.map λp:Nat×Operand=>(y9 g p.2).st)=parts.toList.map λp=>(y9 s.env p.2).st:=Xu λp q=>by rw[hp p q]
     have D:(parts.toList.map λp:Nat×Operand=>y9 g p.2)=parts.toList.map λp=>y9 s.env p.2:=Xu λp q=>hp p q;simp only[u,G,D,J,hr,O];exact⟨h.1,z⟩⟩
   exact h.elim
  exact h.elim
 .
  rename_i t l c u
  split at h
  .
   rename_i k n k' m e hl a6 J
   split at h
   .
    rename_i zs O
    exact⟨_,_,_,h.2,λg j K' z=>by
     have q:y9 g l=y9 s.env l:=j l (by rw[u];simp[Op.operands]);have I:y9 g c=y9 s.env c:=j c (by rw[u];simp[Op.operands]);simp only[u,q,I,hl,a6,J,O];exact⟨h.1,z⟩⟩
   exact h.elim
  exact h.elim
 .
  rename_i b0 dst x u
  split at h
  .
   rename_i id sz off len e ao J
   split at h
   .
    rename_i T xs L
    exact⟨_,_,_,h.2,λg j K' z=>by
     have q:y9 g x=y9 s.env x:=j x (by rw[u];simp[Op.operands]);simp only[u,q,ao,J,L];exact⟨h.1,z⟩⟩
   exact h.elim
  exact h.elim
 .
  rename_i t x lo hi mx u
  split at h
  .
   rename_i c r hr
   exact⟨s.hp,s.nx,_,h.2,λg j K' z=>by
    have h1:y9 g x=y9 s.env x:=j x (by rw[u];simp[Op.operands]);have Q:y9 g lo=y9 s.env lo:=j lo (by rw[u];simp[Op.operands]);have h3:y9 g hi=y9 s.env hi:=j hi (by rw[u];simp[Op.operands]);have h4:y9 g mx=y9 s.env mx:=j mx (by rw[u];simp[Op.operands]);simp only[u,h1,Q,h3,h4,hr];exact⟨h.1,z⟩⟩
  exact h.elim
 . rename_i u;exact absurd u (hb _ _ _ _ _)
 . rename_i u;exact absurd u (hb _ _ _ _ _)
 .
  obtain⟨H,N,R,U,V⟩:=h;exact⟨H,N,R,U,λg j K' z=>by
   exact⟨H,N,R,z,λA B W Q=>V A (λx q=>(B x q).trans (j x q)) W Q⟩⟩
 .
  obtain⟨H,N,R,U,V⟩:=h;exact⟨H,N,R,U,λg j K' z=>by
   exact⟨H,N,R,z,λA B W Q=>V A (λx q=>(B x q).trans (j x q)) W Q⟩⟩
 .
  rename_i cl u
  split at h
  .
   rename_i x y t t' G D X
   split at h
   .
    rename_i e szx xs ids cb szy ys cs J Y Z
    split at h
    .
     rename_i zs O
     exact⟨_,_,_,h.2,λg j K' z=>by
      have E:∀x∈cl.args.toList,y9 g x=y9 s.env x:=λx q=>j x (by rw[u];simp only[Op.operands,Call.operands];exact X0.2 (.inr (Xl.1 q)));rw[D]at E;have q:=E x (by simp);have I:=E y (by simp);simp only[u,G,D,X,q,I,J,Y,Z,O];exact⟨h.1,z⟩⟩
    exact h.elim
   .
    rename_i J Y Z
    obtain⟨H,N,R,U,V⟩:=h;exact⟨H,N,R,U,λg j K' z=>by
     have E:∀x∈cl.args.toList,y9 g x=y9 s.env x:=λx q=>j x (by rw[u];simp only[Op.operands,Call.operands];exact X0.2 (.inr (Xl.1 q)));rw[D]at E;have q:=E x (by simp);have I:=E y (by simp);simp only[u,G,D,X,q,I,J,Y,Z];exact⟨H,N,R,z,λA B W Q=>V A (λx q=>(B x q).trans (j x q)) W Q⟩⟩
   exact h.elim
  .
   rename_i x t G D X
   split at h
   .
    rename_i id sz off len e M J
    split at h
    .
     rename_i T xs zs L O
     exact⟨_,s.nx,_,h.2,λg j K' z=>by
      have E:∀x∈cl.args.toList,y9 g x=y9 s.env x:=λx q=>j x (by rw[u];simp only[Op.operands,Call.operands];exact X0.2 (.inr (Xl.1 q)));rw[D]at E;have q:=E x (by simp);simp only[u,G,D,X,q,M,J,L,O];exact⟨h.1,z⟩⟩
    exact h.elim
   exact h.elim
  .
   rename_i x y t t' G D X
   split at h
   .
    rename_i id sz off len e szy ys cs M J Z
    split at h
    .
     rename_i T xs L
     exact⟨_,s.nx,_,h.2,λg j K' z=>by
      have E:∀x∈cl.args.toList,y9 g x=y9 s.env x:=λx q=>j x (by rw[u];simp only[Op.operands,Call.operands];exact X0.2 (.inr (Xl.1 q)));rw[D]at E;have q:=E x (by simp);have I:=E y (by simp);simp only[u,G,D,X,q,I,M,J,Z,L];exact⟨h.1,z⟩⟩
    exact h.elim
   .
    rename_i id off len e szy ys cs M J Z
    split at h
    .
     rename_i xs L
     exact⟨_,s.nx,_,h.2,λg j K' z=>by
      have E:∀x∈cl.args.toList,y9 g x=y9 s.env x:=λx q=>j x (by rw[u];simp only[Op.operands,Call.operands];exact X0.2 (.inr (Xl.1 q)));rw[D]at E;have q:=E x (by simp);have I:=E y (by simp);simp only[u,G,D,X,q,I,M,J,Z,L];exact⟨h.1,z⟩⟩
    exact h.elim
   exact h.elim
  .
   obtain⟨H,N,R,U,V⟩:=h;exact⟨H,N,R,U,λg j K' z=>by
    exact⟨H,N,R,z,λA B W Q=>V A (λx q=>(B x q).trans (j x q)) W Q⟩⟩
  . exact absurd (by assumption) (hc _ _ u)
  exact h.elim
 exact h.elim
theorem j1h{nb nx nx' nt:Nat}{hp hp':Hp}{E:Nat->AV}{o:Oper}{r:AV}(z:∀t,nt<=t->E t=.bU)
 (h:∀(env:List (Nat×AV)),(∀t,q17 env t=E t)->∀(a:Act) (w:World) (β:aF),Rel C ⟨nb,env,hp,nx,nt⟩ a w β->∀(K:Act->World->Prop) (Q:Exit->Act->World->Prop),
  (∀f w',RK C (λs'=>s'=(⟨nb,env,hp',nx',nt⟩:St).put o.dst r) f w'->K f w')->o.wp P a w K Q):eL P C nb nx nx' nt hp hp' E o r:=by
 intro a w β e g K Q A;have b:∀t,q17 ((Xr nt).map λt=>(t,E t)) t=E t:=by
  have key:∀(l:List Nat) (t:Nat),q17 (l.map λt=>(t,E t)) t=if t∈l then E t else .bU:=by
   intro l
   induction l with
   |nil=>intro t;rfl
   |cons x l B=>
    intro t;simp only[Xt,q17,B,Xf]
    by_cases j:x=t
    . subst j;simp
    simp[j,Ne.symm j]
  intro t;rw[key]
  split
  . rfl
  rename_i D;rw[z t (by simpa using D)]
 have k:Rel C ⟨nb,(Xr nt).map λt=>(t,E t),hp,nx,nt⟩ a w β:=
  {df:=e.df,nt:=e.nt,ntc:=e.ntc,nb:=e.nb,alt:=e.alt,gs:=e.gs,hp:=e.hp,ext:=e.ext,env:=λt=>by rw[b];exact g t}
 refine h _ b a w β k K Q λf w' G=>?_;obtain⟨s',β',c,rfl⟩:=G;have n:((⟨nb,(Xr nt).map λt=>(t,E t),hp',nx',nt⟩:St).put o.dst r).hp=hp':=by cases o.dst<;>rfl
 have p:((⟨nb,(Xr nt).map λt=>(t,E t),hp',nx',nt⟩:St).put o.dst r).nx=nx':=by cases o.dst<;>rfl
 have H:((⟨nb,(Xr nt).map λt=>(t,E t),hp',nx',nt⟩:St).put o.dst r).nb=nb:=by cases o.dst<;>rfl
 have q:((⟨nb,(Xr nt).map λt=>(t,E t),hp',nx',nt⟩:St).put o.dst r).nt=nt:=by cases o.dst<;>rfl
 have u:=c.hp;have y:=c.ext;have I:=c.env;rw[n,p]at u y;refine A f w' β' {df:=c.df,nt:=by rw[c.nt,q],ntc:=by rw[<-c.ntc,q],nb:=by rw[c.nb,H],alt:=c.alt,gs:=c.gs,hp:=u,ext:=y,env:=λt=>by simp only[q17,rep]} λt=>?_;have m:=I t;rw[n,p]at m;have J:q17 ((⟨nb,(Xr nt).map λt=>(t,E t),hp',nx',nt⟩:St).put o.dst r).env t=q5g E o.dst r t:=by
  cases hd:o.dst with
  |none=>simp only[St.put,q5g,b]
  |some d=>simp only[St.put,q5g,q17,b]
 rw[J]at m;exact m
theorem bC{s:St}{d:Option Nat}{x:AV}:(s.put d x).hp=s.hp/\(s.put d x).nx=s.nx/\(s.put d x).nb=s.nb/\(s.put d x).nt=s.nt:=by cases d<;>exact⟨rfl,rfl,rfl,rfl⟩
theorem j9i{ops:Array Oper}{o:Oper}{E:Nat->AV}{env:List (Nat×AV)}(h:∀t∈o.looksAt ops,E t=q17 env t):∀x∈o.op.operands,evF E x=y9 env x:=λx b=>by
 cases x with
 |tmp t=>exact h t (by unfold Oper.looksAt;exact Xp _ (List.mem_filterMap.2 ⟨.tmp t,Xl.2 b,rfl⟩))
 |_=>rfl
theorem zi6{ops:Array Oper}{g:List Nat}{o:Oper}{s:St}{K:St->Prop}(h:z9i P g o s K)(hd:dok s.nt o.dst=true):
 ∃H N R,q4w g H=q4w g s.hp/\K (({s with hp:=H,nx:=N}:St).put o.dst R)/\
  ∀(C:Ctx P) (E:Nat->AV),(∀t,s.nt<=t->E t=.bU)->(∀t∈o.looksAt ops,E t=q17 s.env t)->eL P C s.nb s.nx N s.nt s.hp H E o R:=by
 unfold z9i at h;have k:∀{E:Nat->AV} {env:List (Nat×AV)},(∀t∈o.looksAt ops,E t=q17 s.env t)->(∀t,q17 env t=E t)->∀x∈o.op.operands,y9 env x=y9 s.env x:=λ{E env} p j x l=>by
  have:=j9i p x l;rw[<-this]
  cases x with
  |tmp t=>exact j t
  |_=>rfl
 have plain:(∀c f,o.op=.call c->c.callee≠ .value f)->(∀a b c d e,o.op≠ .binOp a b c d e)->vcX P o s (j0m g s.hp K)->∃H N R,q4w g H=q4w g s.hp/\K (({s with hp:=H,nx:=N}:St).put o.dst R)/\
  ∀(C:Ctx P) (E:Nat->AV),(∀t,s.nt<=t->E t=.bU)->(∀t∈o.looksAt ops,E t=q17 s.env t)->eL P C s.nb s.nx N s.nt s.hp H E o R:=by
  intro n hb l;obtain⟨M,O,S,⟨g1,g2⟩,q⟩:=jg6 n hb l;refine⟨M,O,S,by rw[bC.1]at g1;exact g1,g2,λC E D p=>j1h D λenv j a w β A K' Q m=>?_⟩;have:=zn4 (Q:=Q) A hd (q env (k p j) (λs'=>s'=(⟨s.nb,env,M,O,s.nt⟩:St).put o.dst S) rfl);exact Oper.wp_mono (λG w' I=>m G w' I) this
 split at h
 .
  rename_i cl u
  split at h
  .
   rename_i J T
   split at h
   .
    rename_i f U B
    obtain⟨⟨c1,W,c3⟩,H,N,r,X,g1,g2⟩:=h;refine⟨_,N,r,by rw[bC.1]at g1;exact g1,g2,λC E D p=>j1h D λenv j a w β A K' Q m=>?_⟩;have y:=k p j;have z:y9 env J=y9 s.env J:=y J (by rw[u];simp[Op.operands,Call.operands,T]);have V:∀x∈cl.args.toList,y9 env x=y9 s.env x:=λx l=>y x (by rw[u];simp only[Op.operands,Call.operands];exact X0.2 (.inr (Xl.1 l)));have a1:cl.args.toList.map (y9 env)=cl.args.toList.map (y9 s.env):=Xu V;have a2:(cl.args.toList.map λx=>(y9 env x).st)=cl.args.toList.map λx=>(y9 s.env x).st:=Xu λx l=>by rw[V x l]
    refine Oper.wp_mono (λG w' I=>m G w' I) (j24 (Q:=Q) (K:=λs'=>s'=(⟨s.nb,env,H,N,s.nt⟩:St).put o.dst r) A u T (by rw[z];exact B) (by rw[z];exact W) (by rw[a1];exact c3) hd ?_);rw[a2];exact X _ _ rfl rfl rfl A.hp.nd rfl
   exact h.elim
  rename_i L
  exact plain (λc f n B=>by rw[u]at n;cases n;exact L f B) (λa b c d e hb=>by rw[u]at hb;cases hb) h
 . exact h.elim
 rename_i Y Z
 exact plain (λc f n B=>Y c n) (λa b c d e hb=>Z _ _ _ _ _ hb) h
theorem j7b{ops:Array Oper}{c:List Nat}{o:Oper}{s:St}{K:St->Prop}(h:j0k P ops c o s K)(hd:dok s.nt o.dst=true):
 ∃H N R,q4w c H=q4w c s.hp/\K (({s with hp:=H,nx:=N}:St).put o.dst R)/\
  ∀(C:Ctx P) (E:Nat->AV),(∀t,s.nt<=t->E t=.bU)->(∀t∈o.looksAt ops,E t=q17 s.env t)->j57 P C ops s.nb s.nx N s.nt s.hp H E o R:=by
 unfold j0k at h
 split at h
 .
  rename_i p
  obtain⟨H,N,R,g1,g2,g3⟩:=zi6 (ops:=ops) h hd;exact⟨H,N,R,g1,g2,λC E u n=>(g3 C E u n).g p⟩
 rename_i j B p
 split at h
 .
  rename_i d k
  have q:d∈o.looksAt ops:=by
   unfold Oper.looksAt;refine Xk _ ?_;rw[p];unfold q23 at k;simp[k]
  split at h
  .
   rename_i D l
   cases D with
   |true=>
    obtain⟨H,N,R,g1,g2,g3⟩:=zi6 (ops:=ops) (h.1 rfl) hd;refine⟨H,N,R,g1,g2,λC E u n a w β f b K' Q y=>?_⟩;have z:=qn4 (ops:=ops) p k (by rw[<-n d q]at l;exact l) (b d);rw[z,if_pos rfl];exact g3 C E u n a w β f b K' Q y
   |false=>
    refine⟨s.hp,s.nx,.v undef,rfl,?_,λC E u n a w β f b K' Q y=>?_⟩
    .
     have e:({s with hp:=s.hp,nx:=s.nx}:St).put o.dst (.v undef)=s.put o.dst (.v undef):=by cases o.dst<;>rfl
     rw[e];exact h.2 rfl
    have z:=qn4 (ops:=ops) p k (by rw[<-n d q]at l;exact l) (b d);rw[z,if_neg (by simp)];have G:(a.put o.dst undef).tmps.size=a.tmps.size:=by cases m:o.dst<;>simp[Act.put]
    have I:(a.put o.dst undef).defers=a.defers:=by cases m:o.dst<;>rfl
    refine y _ _ β {df:=by rw[I];exact f.df,nt:=by rw[G];exact f.nt,ntc:=f.ntc,nb:=f.nb,alt:=f.alt,gs:=f.gs,hp:=f.hp,ext:=f.ext,env:=λt=>by simp only[q17,rep]} λt=>?_
    cases m:o.dst with
    |none=>simp only[q5g,Act.put];exact b t
    |some J=>
     simp only[q5g,Act.put];have A:J<a.tmps.size:=by
      rw[m]at hd;simp only[dok,decide_eq_true_eq]at hd;rw[f.nt];exact hd
     rw[z3h _ _ _ _ _ A]
     split
     . simp only[rep]
     exact b t
  exact h.elim
 exact h.elim
end
end
section
open Go Go.RowKit
def z1y(a:List Nat)(ev:Operand->AV):Op->Prop
 |.load _ x=>match (ev x).st with
  |.ptr id _=>id∉a
  |.apt id _ _ _=>id∉a
  |_=>True
 |.lookup _ m _ _=>match (ev m).st with
  |.mp id=>id∉a
  |_=>True
 |_=>True
section
variable {P:Program} {C:Ctx P} {s:St} {a:Act} {w:World} {β:aF}
theorem jk4{b:List Nat}{hp hp':Hp}{ev:Operand->AV}{op:Op}(e:z1y b ev op)(l:q4w b hp=q4w b hp'):qn5 P hp ev op=qn5 P hp' ev op:=by
 have g:∀id,id∉b->q0i hp id=q0i hp' id:=λid hid=>by rw[<-z6r hid hp,l,z6r hid hp']
 unfold qn5
 cases op
 case load t x=>
  simp only[z1y]at e;simp only[fop];unfold z99
  cases j:(ev x).st<;>rw[j]at e<;>simp only at e⊢
  . rw[g _ e]
  rw[g _ e]
 case makeFunc f _ _=>cases f<;>rfl
 case slice _ _ _ _ m=>cases m<;>rfl
 case lookup t m k c=>
  simp only[z1y]at e
  cases c
  .
   simp only[fop];unfold zh0
   cases j:(ev m).st<;>rw[j]at e<;>simp only at e⊢
   cases z3f (ev k).st with
   |none=>rfl
   |some kv=>cases P.underlying t with
    |none=>rfl
    |some d=>cases d<;>first
     |rfl
     |simp only[g _ e]
  rfl
 all_goals rfl
theorem jf3{b:List Nat}{hp hp':Hp}{nx:Nat}{ev:Operand->AV}{op:Op}{r:AV}(c:z1y b ev op)(d:q4w b hp=q4w b hp')(h:QV P hp nx ev op r):QV P hp' nx ev op r:=by
 unfold QV at h⊢;rw[<-jk4 c d];exact h
theorem jf4{ops:Array Oper}{b:List Nat}{hp hp':Hp}{nx:Nat}{E:Nat->AV}{o:Oper}{r:AV}(c:z1y b (evF E) o.op)(d:q4w b hp=q4w b hp')(h:QG P hp nx ops E o r):QG P hp' nx ops E o r:=by
 unfold QG at h⊢
 split at h
 . exact jf3 c d h
 split at h
 .
  split at h
  . obtain⟨e,f,g⟩:=h;exact⟨e,λj=>jf3 c d (f j),g⟩
  exact h.elim
 exact h.elim
def b7(P:Program)(ops:Array Oper)(T:Nat->List Nat)(b effs:List Nat)(nb nt:Nat)(env:List (Nat×AV))(r:Nat->AV)(c:Nat->Hp)(ns:Nat->Nat)(j:Nat)(o:Oper):Prop:=
 if j∈effs then q4w (T j) (c (j+1))=q4w (T j) (c j)/\∀(C:Ctx P) (E:Nat->AV),(∀t,nt<=t->E t=.bU)->(∀t∈o.looksAt ops,E t=q17 env t)->j57 P C ops nb (ns j) (ns (j+1)) nt (c j) (c (j+1)) E o (r j)
 else c (j+1)=c j/\ns (j+1)=ns j/\QG P (c j) 0 ops (q17 env) o (r j)/\(j∈b->z1y (T j) (y9 env) o.op)
theorem zx6{s:St}{H:Hp}{N:Nat}{d:Option Nat}{x:AV}:({s with hp:=H,nx:=N}:St).put d x={s.put d x with hp:=H,nx:=N}:=by cases d<;>rfl
theorem zb3(r:Nat->AV):∀(l:List Oper) (k:Nat) (s:St) (H:Hp) (N:Nat),q1y l r k {s with hp:=H,nx:=N}={q1y l r k s with hp:=H,nx:=N}
 |[],_,_,_,_=>rfl
 |o::l,k,s,H,N=>by
  show q1y l r (k+1) (({s with hp:=H,nx:=N}:St).put o.dst (r k))={q1y l r (k+1) (s.put o.dst (r k))with hp:=H,nx:=N}
  rw[zx6,zb3 r l (k+1)]
def q28(effs:List Nat)(listed:Array Bool):Nat->Nat
 |0=>0
 |n+1=>if n∈effs/\listed.getD n false=true then n+1 else q28 effs listed n
theorem j2j{effs:List Nat}{listed:Array Bool}{α:Type}{f:Nat->α}{j:Nat}(b:∀i,i<j->i∉effs->f (i+1)=f i)(c:∀i,i<j->i∈effs->listed.getD i false=true):∀n,n<=j->f (q28 effs listed n)=f n
 |0,_=>rfl
 |n+1,h=>by
  unfold q28
  split
  . rfl
  rename_i e
  have:n∉effs:=λd=>e ⟨d,c n (by omega) d⟩;rw[j2j b c n (by omega),b n (by omega) this]
theorem qm9{effs:List Nat}{listed:Array Bool}{j:Nat}(d:∀i,j<=i->i∈effs->listed.getD i false=false):∀n,j<=n->q28 effs listed n=q28 effs listed j
 |0,h=>by have:j=0:=by omega
          subst this;rfl
 |n+1,h=>by
  rcases Xg n j with e|b
  . have:j=n+1:=by omega
    subst this;rfl
  have:q28 effs listed (n+1)=q28 effs listed n:=by
   rw[q28,if_neg (λc=>by rw[d n b c.1]at c;cases c.2)]
  rw[this,qm9 d n b]
theorem z96{effs:List Nat}{listed:Array Bool}:∀n,q28 effs listed n<=n
 |0=>Xa _
 |n+1=>by
  unfold q28
  split
  . exact Xa _
  exact Za (z96 n)
end
def zh1(n:Nat)(env:List (Nat×AV)):Bool:=env.all λp=>decide (p.1<n)
theorem z4z{n:Nat}:∀{env:List (Nat×AV)},zh1 n env=true->∀t,n<=t->q17 env t=.bU
 |[],_,_,_=>rfl
 |(k,x)::r,h,t,a=>by
  simp only[zh1,Y5,Xc,decide_eq_true_eq]at h;simp only[q17];rw[if_neg (by omega)];exact z4z (env:=r) h.2 t a
end
section
open Go Go.RowKit
def aS{P:Program}(C:Ctx P)(B:Nat->Prop):Ctx P:={C with A:=λb=>C.A b\/B b}
section
variable {P:Program} {C:Ctx P} {a:Act} {w:World} {β:aF} {nb nx nt:Nat} {hp:Hp}
theorem zf9{C:Ctx P}{B:Nat->Prop}(h:∀b,¬B b):aS C B=C:=by
 cases C;simp only[aS];congr;funext b;apply propext;exact⟨λc=>c.elim id (λhb=>absurd hb (h b)),.inl⟩
theorem z4v{C:Ctx P}{B B':Nat->Prop}(h:∀b,B b↔B' b):aS C B=aS C B':=by
 have:B=B':=funext λb=>propext (h b);rw[this]
theorem Rel.release{B B':Nat->Prop}{b0:Nat}{zs:List Value}{e:TypeId}(I:∀b,B' b↔(B b\/b=b0))(h:Rel (aS C B') ⟨nb,[],hp,nx,nt⟩ a w β)(Q:w.heap[b0]?=some (.cells ⟨zs⟩ e (0,0)))(R:C.w0.heap.size<=b0)(J:¬B b0)(K:¬C.A b0):
 Rel (aS C B) ⟨nb,[],(nx,.box (zs.map AV.v))::hp,nx+1,nt⟩ a w (upd β nx (some (b0,0)))/\
 (∀x u,rep w β nx (own β hp (aS C B').A) x u->rep w (upd β nx (some (b0,0))) (nx+1) (own (upd β nx (some (b0,0))) ((nx,.box (zs.map AV.v))::hp) (aS C B).A) x u)/\
 rep w (upd β nx (some (b0,0))) (nx+1) (own (upd β nx (some (b0,0))) ((nx,.box (zs.map AV.v))::hp) (aS C B).A) (.ptr nx 0) (.pointer (some ⟨b0,0,none⟩)):=by
 have d:∀p∈hp,p.1<nx:=h.hp.lt;have D:(aS C B').A b0:=.inr ((I b0).2 (.inr rfl));have E:∀b,own (upd β nx (some (b0,0))) ((nx,bT.box (zs.map AV.v))::hp) (aS C B).A b↔own β hp (aS C B').A b:=by
  intro b
  constructor
  . rintro ((g|g)|⟨q,m,j⟩)
    . exact .inl (.inl g)
    . exact .inl (.inr ((I b).2 (.inl g)))
    rcases Xf.1 m with rfl|m
    . obtain⟨c,j⟩:=z2o j
      simp only[Xd,X8]at j;rw[<-j.1];exact .inl D
    exact .inr ⟨q,m,(z2i (d q m)).1 j⟩
  rintro ((g|g)|⟨q,m,j⟩)
  . exact .inl (.inl g)
  . rcases (I b).1 g with g|rfl
    . exact .inl (.inr g)
    exact .inr ⟨_,List.mem_cons_self,.inl ⟨0,q1m _ _ _⟩⟩
  exact .inr ⟨q,List.mem_cons_of_mem _ m,(z2i (d q m)).2 j⟩
 have O:b9 w w (own β hp (aS C B').A) (own (upd β nx (some (b0,0))) ((nx,.box (zs.map AV.v))::hp) (aS C B).A):=⟨Xa _,λb hb _=>⟨rfl,λg=>hb ((E b).1 g)⟩⟩;have y:∀x u,rep w β nx (own β hp (aS C B').A) x u->rep w (upd β nx (some (b0,0))) (nx+1) (own (upd β nx (some (b0,0))) ((nx,.box (zs.map AV.v))::hp) (aS C B).A) x u:=
  λx u S=>q5i O nx (nx+1) (Zb _) (λid hid=>q2x _ _ _ _ hid) x u S
 have k:¬cn β hp b0:=λ⟨q,m,j⟩=>h.hp.dM q m b0 j D;have L:∀p∈hp,p.1≠nx:=λp hp'=>Nat.ne_of_lt (d p hp');have n:∀b,(aS C B).A b->(aS C B').A b:=λb g=>by
  rcases g with g|g
  . exact .inl g
  exact .inr ((I b).2 (.inl g))
 have halt:∀b,(aS C B).A b->b<w.heap.size:=λb hb=>h.alt b (n b hb);have M:b8 w (upd β nx (some (b0,0))) (nx+1) (aS C B).A ((nx,.box (zs.map AV.v))::hp):=by
  refine⟨?_,?_,?_,?_,?_,?_,?_⟩
  . intro p hp'
    rcases Xf.1 hp' with rfl|hp'
    . exact⟨b0,0,⟨zs⟩,e,q1m _ _ _,Q,qw4 _ _ _ _ _⟩
    exact q48 O (Zb _) (λid hid=>q2x _ _ _ _ hid) (d p hp') (λ_ _=>rfl) (λ_=>q5r _ _ _ _ (d p hp')) (h.hp.obj p hp')
  . intro p hp'
    rcases Xf.1 hp' with rfl|hp'
    . exact Xm _
    exact Nat.lt_succ_of_lt (d p hp')
  . simp only[Xt,Ym]
    refine⟨?_,h.hp.nd⟩;intro T;obtain⟨q,m,U⟩:=Xn.1 T;exact L q m U
  . intro p hp1 q f G N V l z
    rcases Xf.1 hp1 with rfl|hp1<;>rcases Xf.1 f with rfl|f
    . rfl
    . rw[q1m]at l
      rw[q2x _ _ _ _ (d q f)]at z;simp only[Xd,X8]at l;exact absurd (q7p f (by rw[l.1];exact z)) k
    . rw[q1m]at z
      rw[q2x _ _ _ _ (d p hp1)]at l;simp only[Xd,X8]at z;exact absurd (q7p hp1 (by rw[z.1];exact l)) k
    rw[q2x _ _ _ _ (d p hp1)]at l
    rw[q2x _ _ _ _ (d q f)]at z;exact h.hp.inj p hp1 q f G N V l z
  . intro p hp1 G N l g
    rcases Xf.1 hp1 with rfl|hp1
    . rw[q1m]at l
      simp only[Xd,X8]at l;rw[<-l.1]at g;rcases g with g|g
      . exact K g
      exact J g
    rw[q2x _ _ _ _ (d p hp1)]at l
    exact h.hp.av p hp1 G N l (n _ g)
  . intro p hp1 j
    rcases Xf.1 hp1 with rfl|hp1
    . exact q9y _ _ _
    rw[q5r _ _ _ _ (d p hp1)];exact h.hp.i0 p hp1 j
  intro p hp1 G hb
  rcases Xf.1 hp1 with rfl|hp1
  . rw[q9y]at hb;cases hb
  rw[q5r _ _ _ _ (d p hp1)]at hb
  obtain⟨i1,i2,i3,W⟩:=h.hp.ib p hp1 G hb;refine⟨i1,λg=>i2 (n _ g),λq f C j=>?_,λq f s=>?_⟩
  . rcases Xf.1 f with rfl|f
    . rw[q1m]at j
      simp only[Xd,X8]at j;exact k ⟨p,hp1,.inr (by rw[j.1];exact hb)⟩
    rw[q2x _ _ _ _ (d q f)]at j;exact i3 q f C j
  rcases Xf.1 f with rfl|f
  . rw[q9y]at s;cases s
  rw[q5r _ _ _ _ (d q f)]at s;exact W q f s
 have H:Ext C.w0 C.β0 C.nx0 C.hp0 w (upd β nx (some (b0,0))) (nx+1) ((nx,.box (zs.map AV.v))::hp):=
  {nx:=Za h.ext.nx,gh:=λid hid=>(q2x _ _ _ _ (Xi hid h.ext.nx)).trans (h.ext.gh id hid),
   gi:=λid hid X=>(q5r _ _ _ _ (Xi hid h.ext.nx)).trans (h.ext.gi id hid X),
   ids:=λp hp1=>by
    rcases Xf.1 hp1 with rfl|hp1
    . exact .inr h.ext.nx
    exact h.ext.ids p hp1,
   blk:=λp hp1 b o=>by
    rcases Xf.1 hp1 with rfl|hp1
    . obtain⟨c,o⟩:=z2o o
      simp only[Xd,X8]at o;rw[<-o.1];exact .inr R
    exact h.ext.blk p hp1 b ((z2i (d p hp1)).1 o),
   os:=h.ext.os,tape:=h.ext.tape,output:=h.ext.output,size:=h.ext.size,keep:=h.ext.keep}
 refine⟨{df:=h.df,nt:=h.nt,ntc:=h.ntc,nb:=h.nb,alt:=halt,gs:=h.gs,env:=λt=>by simp only[q17,rep],hp:=M,ext:=H},y,?_⟩;simp only[rep];exact⟨Xm _,b0,0,q1m _ _ _,rfl⟩
structure Aside{P:Program}(C:Ctx P)(F:List Nat)(d:Nat->Nat)(zs:Nat->List Value)(listed:Array Bool)(a:Act)(w:World)(blk:Nat->Nat):Prop where
 tmp:∀f∈F,listed.getD f false=true->a.tmps.getD (d f) undef=.pointer (some ⟨blk f,0,none⟩)
 cell:∀f∈F,listed.getD f false=true->∃e,w.heap[blk f]?=some (.cells ⟨zs f⟩ e (0,0))
 new:∀f∈F,listed.getD f false=true->C.w0.heap.size<=blk f/\¬C.A (blk f)
 inj:∀f∈F,∀g∈F,listed.getD f false=true->listed.getD g false=true->blk f=blk g->f=g
def q87(F:List Nat)(listed:Array Bool)(blk:Nat->Nat)(b:Nat):Prop:=∃f∈F,listed.getD f false=true/\blk f=b
def z3w(zs:Nat->List Value):List Nat->Nat->Hp->Hp
 |[],_,hp=>hp
 |f::r,nx,hp=>z3w zs r (nx+1) ((nx,.box (zs f |>.map AV.v))::hp)
def eU(d:Nat->Nat):List Nat->Nat->(Nat->AV)->Nat->AV
 |[],_,E=>E
 |f::r,nx,E=>eU d r (nx+1) (q5g E (some (d f)) (.ptr nx 0))
theorem Rel.dA{d:Nat->Nat}{zs:Nat->List Value}{blk:Nat->Nat}:∀(F:List Nat) (hp:Hp) (nx:Nat) (β:aF) (E:Nat->AV),F.Nodup->
 (∀f∈F,a.tmps.getD (d f) undef=.pointer (some ⟨blk f,0,none⟩))->(∀f∈F,∃e,w.heap[blk f]?=some (.cells ⟨zs f⟩ e (0,0)))->(∀f∈F,C.w0.heap.size<=blk f/\¬C.A (blk f))->(∀f∈F,∀g∈F,blk f=blk g->f=g)->
 Rel (aS C λb=>∃f∈F,blk f=b) ⟨nb,[],hp,nx,nt⟩ a w β->(∀t,rep w β nx (own β hp (aS C λb=>∃f∈F,blk f=b).A) (E t) (a.tmps.getD t undef))->
 ∃β',Rel C ⟨nb,[],z3w zs F nx hp,nx+F.length,nt⟩ a w β'/\∀t,rep w β' (nx+F.length) (own β' (z3w zs F nx hp) C.A) (eU d F nx E t) (a.tmps.getD t undef)
 |[],hp,nx,β,E,_,_,_,_,_,j,k=>by
  have:(aS C λb=>∃f∈([]:List Nat),blk f=b)=C:=zf9 λb=>by simp
  rw[this]at j k;exact⟨β,j,k⟩
 |f::F,hp,nx,β,E,l,o,p,m,q,j,k=>by
  simp only[Ym]at l;obtain⟨e,s⟩:=p f (by simp);obtain⟨u,y,z⟩:=Rel.release (B:=λb=>∃g∈F,blk g=b) (B':=λb=>∃g∈f::F,blk g=b) (b0:=blk f) (λb=>by
   constructor
   .
    rintro⟨g,c,hb⟩;rcases Xf.1 c with rfl|c
    . exact .inr hb.symm
    exact .inl ⟨g,c,hb⟩
   rintro (⟨g,c,hb⟩|rfl)
   . exact⟨g,by simp[c],hb⟩
   . exact⟨f,by simp,rfl⟩) j s (m f (by simp)).1 (λ⟨g,c,hb⟩=>by
   have:=q g (by simp[c]) f (by simp) hb;subst this;exact l.1 c) (m f (by simp)).2
  have:=Rel.dA F _ (nx+1) _ (q5g E (some (d f)) (.ptr nx 0)) l.2 (λg c=>o g (by simp[c])) (λg c=>p g (by simp[c])) (λg c=>m g (by simp[c])) (λg c D n=>q g (by simp[c]) D (by simp[n])) u (λt=>by
   simp only[q5g]
   split
   .
    rename_i hd
    subst hd;rw[o f (by simp)];exact z
   exact y _ _ (k t))
  simp only[z3w,eU,Yi];rw[show nx+(F.length+1)=nx+1+F.length by omega];exact this
end
end
section
open Go Go.RowKit
section
variable {P:Program} {C:Ctx P} {nb nt:Nat}
theorem jn8{ops:Array Oper}{hp:Hp}{nx:Nat}{a:Act}{w:World}{β:aF}{E:Nat->AV}{c:Oper}{r:AV}(n:Rel C ⟨nb,[],hp,nx,nt⟩ a w β)(o:∀t,rep w β nx (own β hp C.A) (E t) (a.tmps.getD t undef))(b:QG P hp nx ops E c r)
 {K:Act->World->Prop}{Q:Exit->Act->World->Prop}(j:∀v w',cK w w'->rep w' β nx (own β hp C.A) r v->K (a.put c.dst v) w'):if Region.wanted c (yielded ops a.tmps)then c.wp P a w K Q else K (a.put c.dst undef) w:=by
 have e:∀x,rep w β nx (own β hp C.A) (evF E x) (a.eval x):=λx=>by
  cases x with
  |tmp t=>exact o t
  |const v=>simp only[evF,rep,Act.eval]
  |global g=>simp only[evF,rep,Act.eval]
  |func f=>simp only[evF,rep,Act.eval];exact⟨[],rfl,by simp[y8]⟩
 unfold QG at b
 split at b
 .
  rename_i k
  rw[if_pos (by simp[Region.wanted,k])];exact z7h n e b j
 rename_i g p k
 split at b
 .
  rename_i d hd
  split at b
  .
   rename_i s l
   obtain⟨B,u,q⟩:=b;have y:=qn4 k hd l (o d);rw[y]
   cases s with
   |true=>
    rw[if_pos rfl];exact z7h n e (u rfl) λv w' m z=>j v w' m (by rw[q];exact z2w z)
   |false=>
    rw[if_neg (by simp)];exact j undef w (cK.refl w) (by rw[q];exact z1h)
  exact b.elim
 exact b.elim
theorem zs8{ops:Array Oper}{k:Nat}{r E0:Nat->AV}{Ej:Nat->Nat->AV}(bi:z5v ops=true)(ht:z18 ops k=true)(ar:k<=ops.size)(bk:∀j,j<k->ck ops r E0 (· <j) (Ej j))
 (stop:Array Bool->Prop)(S:Array Bool->Act->World->(Nat->AV)->Prop){Q:Exit->Act->World->Prop}(O:∀listed,(∀i,i<k->listed.getD i false=true)->stop listed)
 (hs:∀listed j s a w E,listed.size=ops.size->j<k->ops[j]?=some s->qa7 ops k listed->¬stop listed->qm7 s j listed->S listed a w E->(∀t∈s.looksAt ops,E t=Ej j t)->∀K:Act->World->Prop,
  (∀V w',S (listed.setIfInBounds j true) V w' (q5g E s.dst (r j))->K V w')->if Region.wanted s (yielded ops a.tmps)then s.wp P a w K Q else K (a.put s.dst undef) w)
 (G:∀g listed a w E,listed.size=ops.size->((Xr ops.size).filter λi=>!listed.getD i true).length<=g->qa7 ops k listed->stop listed->S listed a w E->ck ops r E0 (λi=>listed.getD i false=true) E->wpAny P .any ops Q g listed a w):
 ∀(g:Nat) (listed:Array Bool) (a:Act) (w:World) (E:Nat->AV),listed.size=ops.size->((Xr ops.size).filter λi=>!listed.getD i true).length<=g->
  qa7 ops k listed->S listed a w E->ck ops r E0 (λi=>listed.getD i false=true) E->wpAny P .any ops Q g listed a w:=by
 obtain⟨R,b0⟩:=z14 bi;have bs:=z4p ht;intro g
 induction g with
 |zero=>
  intro listed a w E H I u hS hI;refine G 0 listed a w E H I u (O listed λi hi=>?_) hS hI;have bv:i<listed.size:=by omega
  cases hx:listed.getD i false with
  |true=>rfl
  |false=>
   have:i∈(Xr ops.size).filter λi=>!listed.getD i true:=List.mem_filter.2 ⟨X6.2 (by omega),by
    simp only[Xb,Xh bv,Xo]at hx⊢;simp[hx]⟩
   have:=List.length_pos_of_mem this;omega
 |succ g ih=>
  intro listed a w E H I u hS hI
  by_cases B:stop listed
  . exact G _ listed a w E H I u B hS hI
  have W:∃i,i<k/\listed.getD i false=false:=Classical.byContradiction λhn=>B (O listed λi hi=>by
   cases hx:listed.getD i false with
   |true=>rfl
   |false=>exact absurd ⟨i,hi,hx⟩ hn)
  obtain⟨i0,b1,T⟩:=W;refine⟨λc1=>?_,λj hj=>?_⟩
  .
   exfalso
   have X:∀n i,i<n->i<k->listed.getD i false=true:=by
    intro n
    induction n with
    |zero=>intro i hi;omega
    |succ n b2=>
     intro i hi b3;rcases Xg i n with c2|cc
     . exact b2 i c2 b3
     have c4:i=n:=by omega
     subst c4;have J:i<ops.size:=by omega
     by_cases hl:listed.getD i false=true
     . exact hl
     exfalso
     have c:ops[i]?=some ops[i]:=Xh J;have:i∈Region.ready .any ops listed:=mem_ready.2 ⟨by
      have c5:i<listed.size:=by omega
      simp only[Array.getD_eq_getD_getElem?,Array.getElem?_eq_getElem c5,Option.getD_some]at hl⊢
      simpa using hl,ops[i],c,λe N hb=>b2 e.on (R i _ c e N hb) (Nat.lt_trans (R i _ c e N hb) b3)⟩
     rw[c1]at this
     cases this
   have:=X k i0 b1 b1;rw[T]at this
   cases this
  obtain⟨Y,s,z,m⟩:=mem_ready.1 hj;have L:j<ops.size:=(Xx.1 z).1;have b4:j<listed.size:=by omega
  have Z:¬listed.getD j false=true:=by
   simp only[Xb,Xh b4,Xo]at Y⊢;simp[Y]
  have M:j<k:=by
   rcases Xg j k with h|h
   . exact h
   exfalso
   have:=q7y (listed:=λi=>listed.getD i false=true) (λi D c l=>(u i D c l).2) ops.size j i0 s z m (bs j L h i0 (by omega));rw[T]at this
   cases this
  have b5:qm7 s j listed:=⟨by simpa using Z,m⟩;have b6:q23 ops j=s.dst:=by simp[q23,z]
  have c6:∀i D,i<j->ops[i]?=some D->¬listed.getD i false=true->D.apart ops s=true:=λi D A c l=>b0 i j D s A c z λe N hb heq=>l (by rw[<-heq];exact m e N hb);have bc:∀i D,j<i->ops[i]?=some D->listed.getD i false=true->s.apart ops D=true:=λi D A c l=>b0 j i s D A z c λe N hb heq=>Z (by rw[<-heq];exact (u i D c l).2 e N hb);have c7:∀t∈s.looksAt ops,E t=Ej j t:=hI.agree (bk j M) L Z
   (λi A l d hd=>by
    have J:i<ops.size:=Nat.lt_trans A L;have c:ops[i]?=some ops[i]:=Xh J;exact (Oper.apart_spec (c6 i _ A c l)).1 d (by simpa [q23,c]using hd))
   (λi A J l d hd=>by
    have c:ops[i]?=some ops[i]:=Xh J;exact (Oper.apart_spec (bc i _ A c l)).2.2 d (by simpa [q23,c]using hd))
  have a6:=hI.step L λk' M ar c8 d hd c9=>by
   have U:ops[k']?=some ops[k']:=Xh ar;exact (Oper.apart_spec (bc k' _ M U c8)).2.1 d (by rw[<-b6];exact hd) (by simpa [q23,U]using c9)
  have f:∀(i:Nat) (b:Bool),(listed.setIfInBounds j true).getD i b=if j=i then true else listed.getD i b:=λi b=>by
   by_cases o:j=i
   . subst o;rw[if_pos rfl];simp[b4]
   rw[if_neg o];simp[o]
  have ao:∀V w',S (listed.setIfInBounds j true) V w' (q5g E s.dst (r j))->wpAny P .any ops Q g (listed.setIfInBounds j true) V w':=by
   intro V w' cb;refine ih _ V w' (q5g E (q23 ops j) (r j)) (by simpa using H) ?_ ?_ (by rw[b6];exact cb) ?_
   . have:=z7d (p:=λi=>!listed.getD i true) (q:=λi=>!(listed.setIfInBounds j true).getD i true) (x:=j) Zc (X6.2 L) (by simp only[Y];rfl) (by simp only[f,if_true];rfl) (λy hy=>by simp only[f,if_neg (Ne.symm hy)]);omega
   .
    intro i D c l;rw[f]at l
    by_cases o:j=i
    .
     subst o;rw[z]at c;simp only[Xd]at c;subst c;refine⟨M,λe N hb=>?_⟩;rw[f]
     split
     . rfl
     exact m e N hb
    rw[if_neg o]at l;refine⟨(u i D c l).1,λe N hb=>?_⟩;rw[f]
    split
    . rfl
    exact (u i D c l).2 e N hb
   refine a6.iff λi _=>?_;rw[f]
   constructor
   .
    rintro (h1|h1)
    .
     split
     . rfl
     exact h1
    rw[if_pos h1.symm]
   intro h1
   by_cases o:j=i
   . exact .inr o.symm
   rw[if_neg o]at h1;exact .inl h1
  unfold wpOp;rw[z];simp only;have:=hs listed j s a w E H M z u B b5 hS c7 _ ao
  split at this
  .
   rename_i hw
   rw[if_pos hw];exact .inl this
  rename_i hw
  rw[if_neg hw];exact this
end
end
section
open Go Go.RowKit
def vcA(P:Program)(ops:Array Oper)(T:Nat->List Nat)(b effs a:List Nat):List Oper->Nat->St->(St->Prop)->Prop
 |[],_,s,K=>K s
 |o::r,j,s,K=>if j∈a then (o.guard=none/\s.nx∈T j)/\match o.op with
  |.alloc e=>match q1s P e with
   |some zs=>vcA P ops T b effs a r (j+1) (({s with hp:=(s.nx,.box (zs.map AV.v))::s.hp,nx:=s.nx+1}:St).put o.dst (.ptr s.nx 0)) K
   |none=>False
  |_=>False
  else if j∈effs then j0k P ops (T j) o s λs'=>vcA P ops T b effs a r (j+1) s' K
  else (j∈b->z1y (T j) (y9 s.env) o.op)/\qG P ops s o λx=>vcA P ops T b effs a r (j+1) (s.put o.dst x) K
section
variable {P:Program} {C:Ctx P} {s:St} {a:Act} {w:World} {β:aF}
def ba(P:Program)(ops:Array Oper)(T:Nat->List Nat)(c effs b:List Nat)(nb nt:Nat)(env:List (Nat×AV))(r:Nat->AV)(d:Nat->Hp)(ns:Nat->Nat)(j:Nat)(o:Oper):Prop:=
 if j∈b then (o.guard=none/\ns j∈T j)/\∃e zs,o.op=.alloc e/\q1s P e=some zs/\r j=.ptr (ns j) 0/\d (j+1)=(ns j,.box (zs.map AV.v))::d j/\ns (j+1)=ns j+1
 else b7 P ops T c effs nb nt env r d ns j o
theorem zu9{ops:Array Oper}{d:Nat->List Nat}{c effs b:List Nat}{K:St->Prop}:∀(l:List Oper) (k:Nat) (s:St),z0y s.nt l=true->vcA P ops d c effs b l k s K->
 ∃(r:Nat->AV) (q:Nat->Hp) (ns:Nat->Nat),q k=s.hp/\ns k=s.nx/\(∀j o,l[j]?=some o->ba P ops d c effs b s.nb s.nt (q1y (l.take j) r k s).env r q ns (k+j) o)/\
  K {q1y l r k s with hp:=q (k+l.length),nx:=ns (k+l.length)}
 |[],k,s,_,h=>⟨λ_=> .bU,λ_=>s.hp,λ_=>s.nx,rfl,rfl,by simp,h⟩
 |o::l,k,s,y,h=>by
  simp only[z0y,Y5,Xc]at y;have key:∀(x:AV) (H:Hp) (N:Nat),ba P ops d c effs b s.nb s.nt s.env (λ_=>x) (λi=>if i=k then s.hp else H) (λi=>if i=k then s.nx else N) k o->
   vcA P ops d c effs b l (k+1) ({s.put o.dst x with hp:=H,nx:=N}) K->
   ∃(r:Nat->AV) (q:Nat->Hp) (ns:Nat->Nat),q k=s.hp/\ns k=s.nx/\(∀j o',(o::l)[j]?=some o'->ba P ops d c effs b s.nb s.nt (q1y ((o::l).take j) r k s).env r q ns (k+j) o')/\
    K {q1y (o::l) r k s with hp:=q (k+(o::l).length),nx:=ns (k+(o::l).length)}:=by
   intro x H N f L;obtain⟨r,q,ns,M,O,Q,J⟩:=zu9 l (k+1) _ (by show z0y (s.put o.dst x).nt l=true;rw[bC.2.2.2];exact y.2) L
   let u:Nat->AV:=λi=>if i=k then x else r i
   let n:Nat->Hp:=λi=>if i=k then s.hp else q i
   let p:Nat->Nat:=λi=>if i=k then s.nx else ns i
   have A:∀(l:List Oper) (m:Nat) (s:St),k<m->q1y l u m s=q1y l r m s:=by
    intro l
    induction l with
    |nil=>intro m s _;rfl
    |cons o' l S=>
     intro m s W;simp only[q1y];have:u m=r m:=by simp only[u];rw[if_neg (by omega)]
     rw[this,S (m+1) _ (by omega)]
   have z:u k=x:=by simp[u]
   have gh:∀i,k<i->n i=q i:=λi hi=>by simp only[n];rw[if_neg (by omega)]
   have D:∀i,k<i->p i=ns i:=λi hi=>by simp only[p];rw[if_neg (by omega)]
   have gr:∀i,k<i->u i=r i:=λi hi=>by simp only[u];rw[if_neg (by omega)]
   refine⟨u,n,p,by simp[n],by simp[p],?_,?_⟩
   .
    intro j o' t
    cases j with
    |zero=>
     simp only[List.getElem?_cons_zero,Xd]at t;subst t;simp only[List.take_zero,q1y,Nat.add_zero];unfold ba b7 at f⊢;have g:¬(k+1=k):=Yj k;simp only[if_neg g,if_true]at f;rw[gh (k+1) (by omega),D (k+1) (by omega),M,O,z];simp only[n,p,if_true];exact f
    |succ j=>
     have:=Q j o' (by simpa using t);rw[zb3]at this;simp only[List.take_succ_cons,q1y,z,A _ (k+1) _ (Xm k)];rw[bC.2.2.1,bC.2.2.2]at this;rw[show k+(j+1)=k+1+j by omega];unfold ba b7 at this⊢;rw[gh _ (by omega),gh _ (by omega),D _ (by omega),D _ (by omega),gr _ (by omega)];exact this
   rw[zb3]at J;simp only[q1y,z,A _ (k+1) _ (Xm k),Yi];rw[show k+(l.length+1)=k+1+l.length by omega,gh _ (by omega),D _ (by omega)];exact J
  unfold vcA at h
  split at h
  .
   rename_i t
   obtain⟨⟨g1,g2⟩,g3⟩:=h
   split at g3
   .
    rename_i e T
    split at g3
    .
     rename_i zs U
     refine key (.ptr s.nx 0) ((s.nx,.box (zs.map AV.v))::s.hp) (s.nx+1) ?_ (by rw[zx6]at g3;exact g3);have g:¬(k+1=k):=Yj k;unfold ba;rw[if_pos t];simp only[if_neg g,if_true];exact⟨⟨g1,g2⟩,e,zs,T,U,by trivial,by trivial,by trivial⟩
    exact g3.elim
   exact g3.elim
  rename_i B
  split at h
  .
   rename_i t
   obtain⟨H,N,R,g1,g2,V⟩:=j7b (ops:=ops) h y.1;refine key R H N ?_ (by rw[zx6]at g2;exact g2);have g:¬(k+1=k):=Yj k;unfold ba b7;rw[if_neg B,if_pos t];simp only[if_neg g,if_true];exact⟨g1,λC E G I=>V C E G I⟩
  rename_i t
  obtain⟨x,G,I⟩:=j2h h.2;refine key x s.hp s.nx ?_ ?_
  . have g:¬(k+1=k):=Yj k;unfold ba b7;rw[if_neg B,if_neg t];simp only[if_neg g,if_true];exact⟨trivial,trivial,G,h.1⟩
  have e:({s.put o.dst x with hp:=s.hp,nx:=s.nx}:St)=s.put o.dst x:=by cases o.dst<;>rfl
  rw[e];exact I
end
def zn0(ops:Array Oper)(anc:Nat->Nat->Bool)(k p q:Nat)(b pre effs a:List Nat):Bool:=
 effs.all (λe=>decide (q<=e)&&decide (e<k))&&a.all (λf=>decide (p<=f)&&decide (f<q))&&decide (q<=k)&&decide (p<=q)&&pre.all (λe=>decide (e<p))&&(Xr k).all λj=>
  if a.contains j then (match q23 ops j with
   |some d=>(Xr k).all λi=>i==j||(!(q23 ops i==some d)&&(a.contains i||(a.all (λf=>anc i f)&&pre.all (λe=>anc i e))||match ops[i]? with|some o=>!(o.looksAt ops).contains d|none=>false))
   |none=>false)
  else if pre.contains j then pre.all λe=>e==j||(if e<j then anc j e else anc e j)
  else (b.contains j&&!effs.contains j)||(a.all (λf=>anc j f)&&pre.all (λe=>anc j e)&&effs.all λe=>e==j||(if e<j then anc j e else anc e j))
theorem zf5{zs:Nat->List Value}{f:Nat}:∀(l:List Nat) (nx:Nat) (hp:Hp),z3w zs (l++[f]) nx hp=(nx+l.length,.box (zs f |>.map AV.v))::z3w zs l nx hp
 |[],nx,hp=>rfl
 |g::l,nx,hp=>by
  simp only[Yx,z3w,zf5 l,Yi];rw[show nx+1+l.length=nx+(l.length+1) by omega]
theorem zp3{d:Nat->Nat}{f:Nat}:∀(l:List Nat) (nx:Nat) (E:Nat->AV),eU d (l++[f]) nx E=q5g (eU d l nx E) (some (d f)) (.ptr (nx+l.length) 0)
 |[],nx,E=>rfl
 |g::l,nx,E=>by
  simp only[Yx,eU,zp3 l,Yi];rw[show nx+1+l.length=nx+(l.length+1) by omega]
theorem Oper.fM{P:Program}{o:Oper}{a:Act}{w:World}{K:Act->World->Prop}{Q:Exit->Act->World->Prop}(h:o.wp P a w (λj w'=>(∃v,j.tmps=(a.put o.dst v).tmps)->K j w') Q):o.wp P a w K Q:=by
 unfold Oper.wp at*
 cases k:(execOp a.eval o).run P w with
 |ok x w'=>
  rw[k]at h
  cases x with
  |value v=>exact h ⟨v,rfl⟩
  |skip=>exact h ⟨undef,rfl⟩
  |defer d=>exact h ⟨undef,by cases o.dst<;>rfl⟩
  |enter f args=>
   refine Calls.mono h λe g b=>?_
   cases e with
   |returned v=>exact b ⟨v,rfl⟩
   |panicked c=>exact b
   |outgrown=>exact b
  |row rw_ args=>exact Rows.mono h λv g b=>b ⟨v,rfl⟩
  |_=>exact h
 |halt x w'=>
  rw[k]at h
  cases x<;>exact h
theorem j9o{P:Program}{o:Oper}{a:Act}{w:World}{b:Bool}{K:Act->World->Prop}{Q:Exit->Act->World->Prop}(h:if b=true then o.wp P a w (λc w'=>(∃v,c.tmps=(a.put o.dst v).tmps)->K c w') Q else (∃v,(a.put o.dst undef).tmps=(a.put o.dst v).tmps)->K (a.put o.dst undef) w):if b=true then o.wp P a w K Q else K (a.put o.dst undef) w:=by
 split at h
 . rename_i hb;rw[if_pos hb];exact Oper.fM h
 rename_i hb;rw[if_neg hb];exact h ⟨undef,rfl⟩
theorem Ext.then{w0 w w':World}{β0 β β':aF}{nx0 nx nx':Nat}{hp0 hp hp':Hp}(h:Ext w0 β0 nx0 hp0 w β nx hp)(a:Ext w β nx0 hp w' β' nx' hp'):Ext w0 β0 nx0 hp0 w' β' nx' hp':=by
 have hb:∀b,cn β hp b->cn β0 hp0 b\/w0.heap.size<=b:=λb ⟨x,d,j⟩=>h.blk x d b j;refine {nx:=a.nx,gh:=λid hid=>(a.gh id hid).trans (h.gh id hid),gi:=λid hid f=>(a.gi id hid λm=>?_).trans (h.gi id hid f),ids:=λx d=>?_,blk:=λx d b j=>?_,os:=a.os.trans h.os,tape:=a.tape.trans h.tape,output:=⟨a.output.1.trans h.output.1,λk=>Yn (h.output.2 k) (a.output.2 k)⟩,size:=Yn h.size a.size,keep:=λb g f=>?_}
 .
  obtain⟨y,l,e⟩:=Xn.1 m;rcases h.ids y l with c|c
  . exact f (e▸c)
  omega
 .
  rcases a.ids x d with c|c
  . obtain⟨y,l,e⟩:=Xn.1 c;rw[<-e];exact h.ids y l
  exact .inr c
 .
  rcases a.blk x d b j with c|c
  . exact hb b c
  exact .inr (Yn h.size c)
 rw[a.keep b (Xi g h.size) (λd=>(hb b d).elim f (λc=>by omega)),h.keep b g f]
def tOk(anc:Nat->Nat->Bool)(T:Nat->List Nat)(b pre effs a:List Nat):Bool:=
 b.all λj=>(a.all λf=>(T f).all λx=>decide (x∈T j))&&(pre++effs).all λe=>e==j||(if e<j then anc j e else anc e j)||(T e).all λx=>decide (x∈T j)
theorem z3x{a b:List Nat}(h:∀x∈a,x∈b):∀(hp:Hp),q4w b (q4w a hp)=q4w b hp
 |[]=>rfl
 |(k,o)::r=>by
  simp only[q4w]
  by_cases c:k∈a
  . rw[if_pos c,if_pos (h k c),z3x h r]
  rw[if_neg c];simp only[q4w];rw[z3x h r]
theorem j9d{a b:List Nat}{hp hp':Hp}(h:∀x∈a,x∈b)(c:q4w a hp=q4w a hp'):q4w b hp=q4w b hp':=by rw[<-z3x h hp,c,z3x h hp']
theorem z81{effs:List Nat}{listed:Array Bool}:∀n,q28 effs listed n=0\/(q28 effs listed n-1∈effs/\listed.getD (q28 effs listed n-1) false=true/\0<q28 effs listed n)
 |0=> .inl rfl
 |n+1=>by
  unfold q28
  split
  . rename_i h;exact .inr ⟨h.1,h.2,Nat.succ_pos _⟩
  exact z81 n
theorem z6h{effs:List Nat}{listed:Array Bool}:∀n m,q28 effs listed n<=m->m<n->m∈effs->listed.getD m false=false
 |0,m,_,h,_=>absurd h (Ya _)
 |n+1,m,a,f,b=>by
  unfold q28 at a
  split at a
  . omega
  rename_i d
  rcases Xg m n with c|c
  . exact z6h n m a c b
  have:m=n:=by omega
  subst this
  cases e:listed.getD m false with
  |false=>rfl
  |true=>exact absurd ⟨b,e⟩ d
theorem ja4{P:Program}{ops:Array Oper}{s:St}{K:St->Prop}(k p q:Nat)(ms:List Nat)(T:Nat->List Nat)(bk pre effs l:List Nat)(i6:tOk (λi j=>(ms.getD i 0).testBit j) T bk pre effs l=true)(hm:P.follows .mixedOrders=true)(h7:qs7 ms 0 ops.toList=true)(hk:k<=ops.size)(i7:z94 ms ops.size k=true)(hc:zn0 ops (λi j=>(ms.getD i 0).testBit j) k p q bk pre effs l=true)(f2:zh1 s.nt s.env=true)
 (h:vcA P ops T bk (pre++effs) l (ops.toList.take k) 0 s λs'=>qe2 P ops (ops.toList.drop k) s' K):z13 P ops s K:=by
 intro id h8 C a w β Y Q' hQ;simp only[okB,Xc,Bool.not_true,Bool.false_or]at h8;obtain⟨e0,d6⟩:=h8;have gK:z0y s.nt (ops.toList.take k)=true:=Xe.2 λo ho=>Xe.1 e0 o (List.mem_of_mem_take ho);obtain⟨r,hs,ns,z1,z2,et,hK⟩:=zu9 (ops.toList.take k) 0 s gK h;have h9:(ops.toList.take k).length=k:=by rw[X7];simp;omega
 rw[h9,Nat.zero_add]at hK;have ht:=zv6 h7 i7;have a6:∀i j,i<k->(ms.getD i 0).testBit j=true->q4d ops ops.size i j=true:=λi j hi=>zz2 h7 i j (by omega);simp only[zn0,Xc,Xe,decide_eq_true_eq,X6]at hc;obtain⟨⟨⟨⟨⟨bs,gG⟩,ea⟩,ia⟩,Z⟩,gL⟩:=hc;have c9:∀f∈l,f<q:=λf u=>(gG f u).2;have f4:∀f∈l,p<=f:=λf u=>(gG f u).1;have hh:∀e∈pre,e∉l:=λe L N=>by have:=Z e L;have:=f4 e N;omega
 have hq:∀e∈pre,e∉effs:=λe L N=>by have:=Z e L;have:=(bs e N).1;omega
 have ao:∀j (X:j<k),ops[j]?=some (ops[j]'(Xi X hk)):=λj X=>Xh (Xi X hk);have bv:∀j D,j<k->ops[j]?=some D->ba P ops T bk (pre++effs) l s.nb s.nt (q1y (ops.toList.take j) r 0 s).env r hs ns j D:=λj D X ho=>by
  have:=et j D (by rw[Y8,if_pos X];simpa using ho);rw[Nat.zero_add,List.take_take,Nat.min_eq_left (by omega)]at this;exact this
 have eb:∀f,f∈l->∃d,q23 ops f=some d/\∀i,i<k->i≠f->q23 ops i≠some d/\(i∈l\/((∀g∈l,q4d ops ops.size i g=true)/\∀g∈pre,q4d ops ops.size i g=true)\/∀o,ops[i]?=some o->d∉o.looksAt ops):=by
  intro f u;have:=gL f (Xi (c9 f u) ea);rw[if_pos (by simpa using u)]at this
  split at this
  . rename_i d hd
    refine⟨d,hd,λi hi W=>?_⟩;have:=Xe.1 this i (X6.2 hi);simp only[Xv,beq_iff_eq,Xc,Yg,beq_eq_false_iff_ne,Y3,Xe]at this;rcases this with U|⟨U,O⟩
    . exact absurd U W
    refine⟨U,?_⟩
    rcases O with (O|O)|O
    . exact .inl O
    . exact .inr (.inl ⟨λg hg=>a6 _ _ hi (O.1 g hg),λg hg=>a6 _ _ hi (O.2 g hg)⟩)
    refine .inr (.inr λo ho=>?_)
    rw[ho]at O
    simpa using O
  cases this
 have f5:∀j,j<k->j∉l->j∉pre->(j∈bk/\j∉effs)\/((∀f∈l,q4d ops ops.size j f=true)/\(∀f∈pre,q4d ops ops.size j f=true)/\∀e∈effs,e≠j->(if e<j then q4d ops ops.size j e else q4d ops ops.size e j)=true):=by
  intro j X bc cb;have:=gL j X;rw[if_neg (by simpa using bc),if_neg (by simpa using cb)]at this;simp only[Xv,Xc,Yg,Xe,beq_iff_eq]at this;rcases this with⟨U,O⟩|⟨⟨U,h0⟩,O⟩
  . exact .inl ⟨by simpa using U,by simpa using O⟩
  refine .inr ⟨λf u=>a6 _ _ X (U f u),λf u=>a6 _ _ X (h0 f u),λe L W=>?_⟩
  rcases O e L with h3|h3
  . exact absurd h3 W
  split at h3
  . rename_i b6
    rw[if_pos b6];exact a6 _ _ X h3
  rename_i b6
  rw[if_neg b6];exact a6 _ _ (bs e L).2 h3
 have gM:∀j∈pre,∀e∈pre,e≠j->(if e<j then q4d ops ops.size j e else q4d ops ops.size e j)=true:=by
  intro j c5 e L W;have cc:j<k:=by have:=Z j c5;omega
  have:=gL j cc;rw[if_neg (by simpa using hh j c5),if_pos (by simpa using c5)]at this;simp only[Xv,Xe,beq_iff_eq]at this;rcases this e L with h3|h3
  . exact absurd h3 W
  split at h3
  . rename_i b6
    rw[if_pos b6];exact a6 _ _ cc h3
  rename_i b6
  rw[if_neg b6];exact a6 _ _ (by have:=Z e L;omega) h3
 have c7:∀i,i<k->i∉pre->i∉effs->i∉l->hs (i+1)=hs i/\ns (i+1)=ns i:=λi hi cb W bc=>by
  have:=bv i _ hi (ao i hi);unfold ba b7 at this;rw[if_neg bc,if_neg (λV=>(Xj.1 V).elim cb W)]at this;exact⟨this.1,this.2.1⟩
 have d7:∀(t:List Nat) (a b:Nat),a<=b->b<=k->(∀m,a<=m->m<b->m∈pre++effs\/m∈l->∀x∈T m,x∈t)->q4w t (hs b)=q4w t (hs a):=by
  intro t a b
  induction b with
  |zero=>intro U _ _;have:a=0:=by omega
         subst this;rfl
  |succ b ih=>
   intro U O h3;rcases Xg b a with h4|h4
   . have:a=b+1:=by omega
     subst this;rfl
   have h5:=ih h4 (by omega) λm g1 g2=>h3 m g1 (by omega)
   have h6:=h3 b h4 (Xm _);have:=bv b _ (by omega) (ao b (by omega));unfold ba b7 at this
   split at this
   . rename_i ef
     obtain⟨⟨_,g1⟩,e,zs,_,_,_,g2,_⟩:=this;rw[g2,q4w,if_pos (h6 (.inr ef) _ g1),h5]
   split at this
   . rename_i ic
     rw[j9d (h6 (.inl ic)) this.1,h5]
   rw[this.1,h5]
 have gH:∀j,j<k->j∈bk->(∀f∈l,∀x∈T f,x∈T j)/\∀e,e∈pre++effs->e≠j->(if e<j then q4d ops ops.size j e else q4d ops ops.size e j)=true\/∀x∈T e,x∈T j:=by
  intro j cc X;have U:=Xe.1 i6 j X;simp only[Xc,Xe,decide_eq_true_eq,Xv,beq_iff_eq]at U;refine⟨U.1,λe L W=>?_⟩;have f6:e<k:=(Xj.1 L).elim (λU=>by have:=Z e U;omega) (λU=>(bs e U).2);rcases U.2 e L with (O|O)|O
  . exact absurd O W
  . refine .inl ?_
    split at O
    . rename_i b6;rw[if_pos b6];exact a6 _ _ cc O
    rename_i b6;rw[if_neg b6];exact a6 _ _ f6 O
  exact .inr O
 obtain⟨hr,_⟩:=z14 d6;have c6:∀(listed:Array Bool) (j:Nat) (D:Oper),ops[j]?=some D->qa7 ops k listed->qm7 D j listed->∀e,e∈pre++effs->e≠j->(if e<j then q4d ops ops.size j e else q4d ops ops.size e j)=true->listed.getD e false=decide (e<j):=by
  intro listed j D G I J e L iN a6
  split at a6
  . rename_i b6
    rw[decide_eq_true b6];exact q7y (listed:=λi=>listed.getD i false=true) (λi oi cd cp=>(I i oi cd cp).2) ops.size j e D G J.2 a6
  rename_i gA
  rw[decide_eq_false gA]
  cases V:listed.getD e false with
  |false=>rfl
  |true=>
   exfalso
   have f6:e<k:=(Xj.1 L).elim (λU=>by have:=Z e U;omega) (λU=>(bs e U).2);have hw:=ao e f6;have:=q7y (listed:=λi=>listed.getD i false=true) (λi oi cd cp=>(I i oi cd cp).2) ops.size e j _ hw (I e _ hw V).2 a6;rw[J.1]at this
   cases this
 have d8:∀(listed:Array Bool) (j:Nat) (D:Oper),ops[j]?=some D->qa7 ops k listed->qm7 D j listed->(∀f∈l,q4d ops ops.size j f=true)->∀f∈l,listed.getD f false=true:=λlisted j D G I J S f u=>
  q7y (listed:=λi=>listed.getD i false=true) (λi oi cd cp=>(I i oi cd cp).2) ops.size j f D G J.2 (S f u)
 have er:∀n j f,j<k->q4d ops n j f=true->f<j:=by
  intro n
  induction n with
  |zero=>intro j f _ V;simp[q4d]at V
  |succ n ih=>
   intro j f X V;unfold q4d at V;rw[ao j X]at V;obtain⟨e,L,hb⟩:=Array.any_eq_true'.1 V;simp only[Xc,Xv,beq_iff_eq]at hb;have U:=hr j _ (ao j X) e L hb.1;rcases hb.2 with O|O
   . omega
   have:=ih e.on f (by omega) O
   omega
 have hy:∀j,j<k->j∉l->(∀f∈l,q4d ops ops.size j f=true)->∀f∈l,f<j:=λj X _ S f u=>er _ j f X (S f u);have hC:∀j,j<k->(∀f∈pre,q4d ops ops.size j f=true)->∀f∈pre,f<j:=λj X S f u=>er _ j f X (S f u);have dc:∀(listed:Array Bool) (j:Nat) (D:Oper),ops[j]?=some D->qa7 ops k listed->qm7 D j listed->(∀f∈pre,q4d ops ops.size j f=true)->∀f∈pre,listed.getD f false=true:=λlisted j D G I J S f u=>
  q7y (listed:=λi=>listed.getD i false=true) (λi oi cd cp=>(I i oi cd cp).2) ops.size j f D G J.2 (S f u)
 let p0:Nat:=q
 let H:Array Bool->Nat:=λlisted=>max (q28 effs listed k) q
 have ei:∀i j,i<=j->j<=k->(∀m,i<=m->m<j->m∉pre/\m∉effs/\m∉l)->hs j=hs i/\ns j=ns i:=by
  intro i j
  induction j with
  |zero=>intro U _ _;have:i=0:=by omega
         subst this;exact⟨rfl,rfl⟩
  |succ j ih=>
   intro U O h3;rcases Xg j i with h4|h4
   . have:i=j+1:=by omega
     subst this;exact⟨rfl,rfl⟩
   have h5:=c7 j (by omega) (h3 j h4 (Xm _)).1 (h3 j h4 (Xm _)).2.1 (h3 j h4 (Xm _)).2.2
   have h6:=ih h4 (by omega) (λm g1 g2=>h3 m g1 (by omega));exact⟨h5.1.trans h6.1,h5.2.trans h6.2⟩
 have gI:∀(listed:Array Bool) (j:Nat) (D:Oper),j<k->ops[j]?=some D->j∉l->qa7 ops k listed->qm7 D j listed->(∀f∈l,q4d ops ops.size j f=true)->(∀f∈pre,q4d ops ops.size j f=true)->(∀e,e∈effs->e≠j->(if e<j then q4d ops ops.size j e else q4d ops ops.size e j)=true)->
  hs (H listed)=hs j/\ns (H listed)=ns j:=by
  intro listed j D X G bc I J ef ie S;have y:∀i,i<j->i∈effs->listed.getD i false=true:=λi hi L=>by
   rw[c6 listed j D G I J i (Xk _ L) (by omega) (S i L (by omega)),decide_eq_true hi]
  have hu:∀i,j<=i->i∈effs->listed.getD i false=false:=λi hi L=>by
   rcases Xg j i with U|U
   . rw[c6 listed j D G I J i (Xk _ L) (by omega) (S i L (by omega)),decide_eq_false (by omega)]
   have:i=j:=by omega
   rw[this];exact J.1
  have B:=hy j X bc ef;have ig:=hC j X ie;have hp:q28 effs listed k=q28 effs listed j:=qm9 hu k (by omega);simp only[H,hp]
  rcases Nat.eq_zero_or_pos (q28 effs listed j)with h0|h0
  . -- none
    have gN:∀i,i<j->i∉effs:=by
     intro i hi L;have:∀n,i<n->n<=j->0<q28 effs listed n:=by
      intro n
      induction n with
      |zero=>intro V;omega
      |succ n ih=>
       intro U O;rw[q28]
       split
       . omega
       rename_i hn
       rcases Xg i n with h3|h3
       . exact ih h3 (by omega)
       have:i=n:=by omega
       subst this;exact absurd ⟨L,y i (by omega) L⟩ hn
     have:=this j hi (Xa _);omega
    rw[h0,Nat.max_eq_right (Yz _)];rcases Xg j q with hD|hD
    . exact ei j q (by omega) ea λm U O=>⟨λL=>by have:=ig m L;omega,λL=>by have:=(bs m L).1;omega,λN=>by have:=B m N;omega⟩
    have:=ei q j hD (by omega) λm U O=>⟨λL=>by have:=Z m L;omega,gN m O,λN=>by have:=c9 m N;omega⟩
    exact⟨this.1.symm,this.2.symm⟩
  -- the last one
  have gO:∀n,n<=j->0<q28 effs listed n->q28 effs listed n<=n/\q28 effs listed n-1∈effs/\∀m,q28 effs listed n<=m->m<n->m∉effs:=by
   intro n
   induction n with
   |zero=>intro _ V;simp[q28]at V
   |succ n ih=>
    intro U O;rw[q28]at O⊢
    split
    . rename_i hn
      exact⟨Xa _,hn.1,λm g1 g2=>by omega⟩
    rename_i hn
    rw[if_neg hn]at O;obtain⟨g1,g2,g3⟩:=ih (by omega) O;refine⟨by omega,g2,λm g4 g5 L=>?_⟩;rcases Xg m n with g6|g6
    . exact g3 m g4 g6 L
    have:m=n:=by omega
    subst this;exact hn ⟨L,y m (by omega) L⟩
  obtain⟨g1,g2,g3⟩:=gO j (Xa _) h0;have gA:=(bs _ g2).1;rw[Nat.max_eq_left (by omega)];have:=ei (q28 effs listed j) j g1 (by omega) λm U O=>⟨λL=>by have:=Z m L;omega,g3 m U O,λN=>by have:=c9 m N;omega⟩;exact⟨this.1.symm,this.2.symm⟩
 have e5:∀(listed:Array Bool) (j:Nat),listed.size=ops.size->j<k->j∉effs->H (listed.setIfInBounds j true)=H listed:=by
  intro listed j c8 X W;have:∀n,q28 effs (listed.setIfInBounds j true) n=q28 effs listed n:=by
   intro n
   induction n with
   |zero=>rfl
   |succ n ih=>
    rw[q28,q28,ih]
    by_cases hn:n∈effs
    . have:(listed.setIfInBounds j true).getD n false=listed.getD n false:=by
       have ek:¬j=n:=λe=>W (by rw[e];exact hn);simp[Xb,Xq,ek]
      rw[this]
    simp[hn]
  simp only[H,this k]
 have f7:∀(listed:Array Bool) (j:Nat) (D:Oper),listed.size=ops.size->j<k->j∈effs->ops[j]?=some D->qa7 ops k listed->qm7 D j listed->(∀e,e∈effs->e≠j->(if e<j then q4d ops ops.size j e else q4d ops ops.size e j)=true)->
  H (listed.setIfInBounds j true)=j+1:=by
  intro listed j D c8 X cs G I J S;have hu:∀i,j+1<=i->i∈effs->(listed.setIfInBounds j true).getD i false=false:=λi hi L=>by
   have ek:¬j=i:=by omega
   have:(listed.setIfInBounds j true).getD i false=listed.getD i false:=by
    simp[Xb,Xq,ek]
   rw[this,c6 listed j D G I J i (Xk _ L) (by omega) (S i L (by omega)),decide_eq_false (by omega)]
  have:=(bs j cs).1;simp only[H];rw[qm9 hu k (by omega),q28,if_pos ⟨cs,by simp[Xb,show j<listed.size by omega]⟩];omega
 have u:=qm8 (ops:=ops) r s k hk;obtain⟨e1,e2,e3,e4⟩:=z6g r (ops.toList.take k) 0 s;have gP:∀(listed:Array Bool) (E:Nat->AV),ck ops r (q17 s.env) (λi=>listed.getD i false=true) E->∀t,s.nt<=t->E t=.bU:=by
  intro listed E hE t cz;rcases hE t with⟨i,hi,_,hd,_,_⟩|⟨_,V⟩
  . exfalso
    have:=Xe.1 e0 (ops[i]) (Xl.2 (Array.getElem_mem hi));have ij:(ops[i]).dst=some t:=by simpa [q23,hi]using hd
    rw[ij]at this;simp only[dok,decide_eq_true_eq]at this;omega
  rw[V];exact z4z f2 t cz
 have gB:=z7p (P:=P) (C:=C) (nb:=s.nb) (nt:=s.nt) (ops:=ops) (r:=r) (E0:=q17 s.env) (Ej:=λj=>q17 (q1y (ops.toList.take j) r 0 s).env) (k:=k) (Q:=λe a w=>Q' e a w) d6 ht hk e0 (λj X=>qm8 r s j (by omega)) (l++pre) (λj=>decide (j∈effs))
  (λlisted=>hs (H listed)) (λlisted=>ns (H listed))
  (λlisted j D c8 X G I hF J W=>by
   simp only[decide_eq_false_iff_not]at W;have bc:j∉l:=λN=>by have:=hF j (Xp _ N);rw[J.1]at this;cases this
   have cb:j∉pre:=λN=>by have:=hF j (Xk _ N);rw[J.1]at this;cases this
   have U:=bv j D X G;unfold ba b7 at U;rw[if_neg bc,if_neg (λV=>(Xj.1 V).elim cb W)]at U;refine⟨?_,by rw[e5 listed j c8 X W],by rw[e5 listed j c8 X W]⟩;rcases f5 j X bc cb with O|O
   . obtain⟨t1,t2⟩:=gH j X O.1
     have ik:H listed<=k:=Nat.max_le.2 ⟨z96 (effs:=effs) (listed:=listed) k,ea⟩;refine jf4 (hp':=hs (H listed)) (U.2.2.2 O.1) ?_ U.2.2.1;rcases Nat.le_total j (H listed)with hle|hle
     . refine (d7 (T j) j (H listed) hle ik λm g1 g2 g3=>?_).symm
       rcases g3 with g3|g3
       . have f8:m≠j:=λe=>by rw[e]at g3;exact (Xj.1 g3).elim cb W
         rcases t2 m g3 f8 with g4|g4
         . exfalso
           have y:=c6 listed j D G I J m g3 f8 g4;rw[decide_eq_false (by omega)]at y;rcases Xj.1 g3 with g5|g5
           . rw[hF m (Xk _ g5)]at y;cases y
           have iO:=(bs m g5).1
           have iP:m<q28 effs listed k:=by simp only[H]at g2;omega
           rcases z81 (effs:=effs) (listed:=listed) k with h0|⟨h0,f9,im⟩
           . omega
           rcases Nat.lt_or_ge m (q28 effs listed k-1)with h3|h3
           . have d4:=(bs _ h0).2
             have hG:q28 effs listed k-1∉l:=λN=>by have:=c9 _ N;have:=(bs _ h0).1;omega
             have hH:q28 effs listed k-1∉pre:=λN=>hq _ N h0;rcases f5 _ d4 hG hH with h4|h4
             . exact h4.2 h0
             have h5:=h4.2.2 m g5 (by omega)
             rw[if_pos h3]at h5;have h6:=q7y (listed:=λi=>listed.getD i false=true) (λi oi cd cp=>(I i oi cd cp).2) ops.size _ m _ (ao _ d4) (I _ _ (ao _ d4) f9).2 h5;rw[h6]at y;cases y
           have:m=q28 effs listed k-1:=by omega
           rw[this,f9]at y;cases y
         exact g4
       exact t1 m g3
     refine d7 (T j) (H listed) j hle (by omega) λm g1 g2 g3=>?_
     rcases g3 with g3|g3
     . rcases t2 m g3 (by omega)with g4|g4
       . exfalso
         have y:=c6 listed j D G I J m g3 (by omega) g4;rw[decide_eq_true g2]at y;rcases List.mem_append.1 g3 with g5|g5
         . have:=Z m g5;simp only[H]at g1;omega
         rw[z6h k m (by simp only[H]at g1;omega) (by omega) g5]at y;cases y
       exact g4
     exact t1 m g3
   rw[(gI listed j D X G bc I J O.1 O.2.1 O.2.2).1]
   exact U.2.2.1)
  (λlisted j D c8 X G I hF J cs=>by
   simp only[decide_eq_true_eq]at cs;have bc:j∉l:=λN=>by have:=hF j (Xp _ N);rw[J.1]at this;cases this
   have cb:j∉pre:=λN=>by have:=hF j (Xk _ N);rw[J.1]at this;cases this
   have U:=bv j D X G;unfold ba b7 at U;rw[if_neg bc,if_pos (Xk _ cs)]at U;rcases f5 j X bc cb with O|O
   . exact absurd cs O.2
   intro E hE gC;have hp1:=gI listed j D X G bc I J O.1 O.2.1 O.2.2;have hp2:=f7 listed j D c8 X cs G I J O.2.2;have:=U.2 C E (gP listed E hE) gC;rw[hp1.1,hp1.2,hp2];exact this)
  u (λfd listed a' w' β' c8 hL ip R ex=>by
   have S:∀i,i<k->i∈effs->listed.getD i false=true:=λi hi _=>(hL i (by omega)).2 hi;have g:hs (H listed)=hs k/\ns (H listed)=ns k:=by
    have hJ:∀n,n<=k->q<=n->hs (max (q28 effs listed n) q)=hs n/\ns (max (q28 effs listed n) q)=ns n:=by
     intro n
     induction n with
     |zero=>intro _ O;have:q=0:=by omega
            simp[q28,this]
     |succ n ih=>
      intro U O;rw[q28]
      split
      . rw[Nat.max_eq_left O];exact⟨rfl,rfl⟩
      rename_i hn
      rcases Nat.lt_or_ge n q with h3|h3
      . have:q=n+1:=by omega
        rw[Nat.max_eq_right (Nat.le_trans (z96 n) (by omega)),this];exact⟨rfl,rfl⟩
      have h4:=ih (by omega) h3
      have h5:=c7 n (by omega) (λL=>by have:=Z n L;omega) (λL=>hn ⟨L,S n (by omega) L⟩) (λN=>by have:=c9 n N;omega);exact⟨h4.1.trans h5.1.symm,h4.2.trans h5.2.symm⟩
    exact hJ k (Nat.le_refl _) ea
   simp only[g.1,g.2]at R ex;refine zv5 (k:=k) (K:=K) d6 ht (λa w ⟨s',β',R,iq⟩=>hQ _ _ _ _ _ R ⟨rfl,iq⟩) fd k listed {q1y (ops.toList.take k) r 0 s with hp:=hs k,nx:=ns k} a' w' β' (Nat.le_refl _) hk c8 hL ip (by show z0y (q1y (ops.toList.take k) r 0 s).nt _=true;rw[e3];exact e0) ?_ hK;exact {df:=R.df,nt:=by show _=(q1y (ops.toList.take k) r 0 s).nt;rw[e3];exact R.nt,ntc:=by show (q1y (ops.toList.take k) r 0 s).nt=_;rw[e3];exact R.ntc,nb:=by show _=(q1y (ops.toList.take k) r 0 s).nb;rw[e4];exact R.nb,alt:=R.alt,gs:=R.gs,hp:=R.hp,ext:=R.ext,env:=λt=>ex t})
 let r1:Nat->AV:=λi=>if i∈l then .bU else r i
 let dd:Nat->Nat:=λf=>(q23 ops f).getD 0
 let zz:Nat->List Value:=λf=>match ops[f]? with
  |some o=>(match o.op with|.alloc e=>(q1s P e).getD []|_=>[])
  |none=>[]
 let Fn:Nat->List Nat:=λn=>(Xr n).filter λi=>decide (i∈l)
 have ar:∀f,f∈Fn q↔f∈l:=λf=>by
  simp only[Fn,List.mem_filter,X6,decide_eq_true_eq];exact⟨λh=>h.2,λh=>⟨c9 f h,h⟩⟩
 have hM:(Fn q).Nodup:=List.Nodup.sublist List.filter_sublist Zc;have hN:∀n,Fn (n+1)=if n∈l then Fn n++[n]else Fn n:=λn=>by
  simp only[Fn,List.range_succ,List.filter_append]
  by_cases hn:n∈l<;>simp[hn]
 have d0:∀f,f∈l->q23 ops f=some (dd f):=λf u=>by
  obtain⟨d,hd,_⟩:=eb f u;simp only[dd,hd,Xo]
 have ef:∀f,f∈l->∃o e,ops[f]?=some o/\o.guard=none/\o.op=.alloc e/\q1s P e=some (zz f)/\r f=.ptr (ns f) 0/\hs (f+1)=(ns f,.box (zz f |>.map AV.v))::hs f/\ns (f+1)=ns f+1:=λf u=>by
  have fl:=Xi (c9 f u) ea;have:=bv f _ fl (ao f fl);unfold ba at this;rw[if_pos u]at this;obtain⟨⟨U,_⟩,e,zs,O,h3,h4,h5,h6⟩:=this;have hz:zz f=zs:=by simp only[zz,ao f fl,O,h3,Xo]
  exact⟨_,e,ao f fl,U,O,by rw[hz];exact h3,h4,by rw[hz];exact h5,h6⟩
 have hO:∀n,n<=p->Fn n=[]:=λn hn=>List.filter_eq_nil_iff.2 λi hi=>by
  simp only[decide_eq_true_eq];intro N;have:=f4 i N;have:=X6.1 hi;omega
 have gJ:∀n,p<=n->n<=q->hs n=z3w zz (Fn n) (ns p) (hs p)/\ns n=ns p+(Fn n).length:=by
  intro n
  induction n with
  |zero=>
   intro h0 _;have:p=0:=by omega
   subst this;rw[hO 0 (Xa _)];exact⟨rfl,rfl⟩
  |succ n ih=>
   intro iQ hn;rcases Xg n p with b6|gA
   . have:p=n+1:=by omega
     rw[hO (n+1) (by omega),this];exact⟨rfl,rfl⟩
   obtain⟨g1,g2⟩:=ih gA (by omega);rw[hN]
   split
   . rename_i N
     obtain⟨_,_,_,_,_,_,_,h5,h6⟩:=ef n N;rw[zf5,Xs,List.length_singleton,h5,h6,g1,g2];exact⟨rfl,by omega⟩
   rename_i N
   obtain⟨h5,h6⟩:=c7 n (by omega) (λL=>by have:=Z n L;omega) (λL=>by have:=(bs n L).1;omega) N;exact⟨h5.trans g1,h6.trans g2⟩
 have gR:∀(E:Nat->AV) (t:Nat) n,n<=q->(∃f,f<n/\f∈l/\dd f=t/\eU dd (Fn n) (ns p) E t=r f)\/((∀f,f<n->f∈l->dd f≠t)/\eU dd (Fn n) (ns p) E t=E t):=by
  intro E t n
  induction n with
  |zero=>intro _;exact .inr ⟨λf u=>by omega,rfl⟩
  |succ n ih=>
   intro hn;rw[hN]
   split
   . rename_i N
     obtain⟨_,_,_,_,_,_,h4,_,_⟩:=ef n N;rw[zp3]
     by_cases hd:dd n=t
     . refine .inl ⟨n,Xm _,N,hd,?_⟩
       simp only[q5g,hd,if_true];rw[h4,(gJ n (f4 n N) (by omega)).2]
     simp only[q5g,if_neg hd]
     rcases ih (by omega)with⟨f,g1,g2,g3,g4⟩|⟨g1,g2⟩
     . exact .inl ⟨f,by omega,g2,g3,g4⟩
     refine .inr ⟨λf u gD=>?_,g2⟩
     rcases Xg f n with h|h
     . exact g1 f h gD
     have:f=n:=by omega
     rw[this];exact hd
   rename_i N
   rcases ih (by omega)with⟨f,g1,g2,g3,g4⟩|⟨g1,g2⟩
   . exact .inl ⟨f,by omega,g2,g3,g4⟩
   refine .inr ⟨λf u gD=>?_,g2⟩
   rcases Xg f n with h|h
   . exact g1 f h gD
   have:f=n:=by omega
   exact absurd (by rw[<-this];exact gD) N
 have dk:∀(a:Act) (d:Option Nat) (v:Value) (t:Nat),d≠some t->(a.put d v).tmps.getD t undef=a.tmps.getD t undef:=λa d v t W=>by
  cases d with
  |none=>rfl
  |some d=>
   have:¬d=t:=λe=>W (by rw[e]);simp[Act.put,Xb,this]
 have fo:∀j t,j<=k->(∀f∈l,dd f≠t)->q17 (q1y (ops.toList.take j) r1 0 s).env t=q17 (q1y (ops.toList.take j) r 0 s).env t:=by
  intro j t X W;have g1:=qm8 (ops:=ops) r1 s j (by omega) t;have g2:=qm8 (ops:=ops) r s j (by omega) t;rcases g1 with⟨i,a1,a2,a3,a4,a5⟩|⟨a1,a2⟩<;>rcases g2 with⟨i',b1,b2,b3,b4,b5⟩|⟨b1,b2⟩
  . have ir:i=i':=by
     rcases Nat.lt_trichotomy i i' with h|h|h
     . exact absurd b3 (a4 i' h b1 b2)
     . exact h
     exact absurd a3 (b4 i h a1 a2)
    subst ir;rw[a5,b5];have:i∉l:=λN=>W i N (by have:=d0 i N;rw[a3]at this;exact (Yo this).symm);simp only[r1,if_neg this]
  . exact absurd a3 (b1 i a1 a2)
  . exact absurd b3 (a1 i' b1 b2)
  rw[a2,b2]
 have hP:cK w {w with drawn:=w.drawn+1}:=⟨rfl,rfl,⟨rfl,λ_=>by first|exact Xa _|exact Zb _⟩,Xa _,λ_ _=>rfl⟩;have is:Rel C ⟨s.nb,[],s.hp,s.nx,s.nt⟩ a {w with drawn:=w.drawn+1} β:=by
  have:=Y.still (w':={w with drawn:=w.drawn+1}) hP;exact {df:=this.df,nt:=this.nt,ntc:=this.ntc,nb:=this.nb,alt:=this.alt,gs:=this.gs,hp:=this.hp,ext:=this.ext,env:=λt=>by simp only[q17,rep]}
 have it:=(Y.still (w':={w with drawn:=w.drawn+1}) hP).env
 let H1:Array Bool->Nat:=λlisted=>q28 pre listed p
 have e6:∀(listed:Array Bool) (j:Nat),j∉pre->H1 (listed.setIfInBounds j true)=H1 listed:=by
  intro listed j cb;have:∀n,q28 pre (listed.setIfInBounds j true) n=q28 pre listed n:=by
   intro n
   induction n with
   |zero=>rfl
   |succ n ih=>
    rw[q28,q28,ih]
    by_cases hn:n∈pre
    . have:(listed.setIfInBounds j true).getD n false=listed.getD n false:=by
       have ek:¬j=n:=λe=>cb (by rw[e];exact hn);simp[Xb,Xq,ek]
      rw[this]
    simp[hn]
  exact this p
 have gE:∀(listed:Array Bool) (j:Nat) (D:Oper),listed.size=ops.size->j∈pre->ops[j]?=some D->qa7 ops k listed->qm7 D j listed->H1 (listed.setIfInBounds j true)=j+1/\hs (H1 listed)=hs j/\ns (H1 listed)=ns j:=by
  intro listed j D c8 c5 G I J;have iR:=Z j c5;have y:∀i,i<j->i∈pre->listed.getD i false=true:=λi hi L=>by
   rw[c6 listed j D G I J i (Xp _ L) (by omega) (gM j c5 i L (by omega)),decide_eq_true hi]
  have hu:∀i,j<=i->i∈pre->listed.getD i false=false:=λi hi L=>by
   rcases Xg j i with U|U
   . rw[c6 listed j D G I J i (Xp _ L) (by omega) (gM j c5 i L (by omega)),decide_eq_false (by omega)]
   have:i=j:=by omega
   rw[this];exact J.1
  have iu:∀i,j+1<=i->i∈pre->(listed.setIfInBounds j true).getD i false=false:=λi hi L=>by
   have ek:¬j=i:=by omega
   have:(listed.setIfInBounds j true).getD i false=listed.getD i false:=by
    simp[Xb,Xq,ek]
   rw[this];exact hu i (by omega) L
  have iS:j<ops.size:=by omega
  have es:∀m,m<j->m∉effs/\m∉l:=λm hm=>⟨λL=>by have:=(bs m L).1;omega,λN=>by have:=f4 m N;omega⟩;have hS:∀{α:Type} (f:Nat->α),(∀i,i<j->i∉pre->f (i+1)=f i)->f (H1 listed)=f j:=λf u=>by
   simp only[H1];rw[qm9 hu p (by omega)];exact j2j u y j (Xa _)
  refine⟨?_,hS hs λi hi hn=>(c7 i (by omega) hn (es i hi).1 (es i hi).2).1,hS ns λi hi hn=>(c7 i (by omega) hn (es i hi).1 (es i hi).2).2⟩;simp only[H1];rw[qm9 iu p (by omega),q28,if_pos ⟨c5,by simp[Xb,show j<listed.size by omega]⟩]
 have M:∀(listed:Array Bool) (j i:Nat),¬j=i->(listed.setIfInBounds j true).getD i false=listed.getD i false:=λlisted j i W=>by
  simp[Xb,Xq,W]
 refine wp_region_any hm (zs8 (P:=P) (ops:=ops) (r:=r1) (E0:=q17 s.env) (Ej:=λj=>q17 (q1y (ops.toList.take j) r1 0 s).env) (k:=k) d6 ht hk (λj X=>qm8 r1 s j (by omega))
  (λlisted=>(∀f∈l,listed.getD f false=true)/\∀f∈pre,listed.getD f false=true)
  (λlisted a w E=>(∀e∈effs,listed.getD e false=false)/\(∀t,s.nt<=t->E t=.bU)/\∃β blk,Rel (aS C (q87 (Fn q) listed blk)) ⟨s.nb,[],hs (H1 listed),ns (H1 listed),s.nt⟩ a w β/\
   (∀t,rep w β (ns (H1 listed)) (own β (hs (H1 listed)) (aS C (q87 (Fn q) listed blk)).A) (E t) (a.tmps.getD t undef))/\Aside C (Fn q) dd zz listed a w blk)
  (λlisted y=>⟨λf u=>y f (Xi (c9 f u) ea),λf u=>y f (by have:=Z f u;omega)⟩) ?_ ?_
  ops.size (Yp ops.size false) a _ (q17 s.env) (by simp) ?_ ?_ ?_ ?_)
 . -- one more
   intro listed j D a w E c8 X G I gF J ⟨W,cc,β,blk,Y,hE,hA⟩ gC K' gS;have bi:dok s.nt D.dst=true:=Xe.1 e0 D (Xl.2 (Array.mem_of_getElem? G));have gT:q23 ops j=D.dst:=by simp[q23,G]
   have cs:j∉effs:=λL=>by
    have bc:j∉l:=λN=>by have:=(bs j L).1;have:=c9 j N;omega
    rcases f5 j X bc (λV=>hq j V L)with O|O
    . exact O.2 L
    exact gF ⟨d8 listed j D G I J O.1,dc listed j D G I J O.2.1⟩
   have ft:∀e∈effs,(listed.setIfInBounds j true).getD e false=false:=λe L=>by
    rw[M listed j e (λe'=>cs (by rw[e'];exact L))];exact W e L
   by_cases N:j∈l
   . -- a new variable
     obtain⟨o,e,ho,hg,iv,hz,_,_,_⟩:=ef j N;rw[G]at ho;simp only[Xd]at ho;subst ho;have g7:D.dst=some (dd j):=by rw[<-gT];exact d0 j N
     rw[if_pos (by simp[Region.wanted,hg])];have gU:=hz;unfold q1s at gU;simp only[Option.map_eq_some_iff,Option.bind_eq_some_iff]at gU;obtain⟨z,⟨i,hi,iy⟩,iz⟩:=gU;have hT:(execOp a.eval D).run P w=.ok (.value (.pointer (some ⟨w.heap.size,0,none⟩))) (w.alloc (.cells ⟨z.cells.toList⟩ e)):=by
      unfold execOp;simp only[iv];simp[Instr.alloc,zeroValue,typeInfo,hi,iy,newVar,newRow]
     unfold Oper.wp;rw[hT];simp only[Oper.upon];have iA:=e6 listed j (λV=>hh j V N);rw[<-iA]at Y hE;refine gS _ _ ⟨ft,λt cz=>by
      rw[g7];simp only[q5g]
      split
      . simp only[r1,if_pos N]
      exact cc t cz,β,λf=>if f=j then w.heap.size else blk f,?_⟩
     have gV:∀f∈Fn q,listed.getD f false=true->blk f<w.heap.size:=λf u y=>by
      obtain⟨e,L⟩:=hA.cell f u y;exact (Xx.1 L).1
     have iB:listed.getD j false=false:=J.1;have hB:∀b,q87 (Fn q) (listed.setIfInBounds j true) (λf=>if f=j then w.heap.size else blk f) b↔(q87 (Fn q) listed blk b\/b=w.heap.size):=by
      intro b
      constructor
      . rintro⟨f,u,y,hb⟩
        dsimp only at hb
        by_cases B:f=j
        . rw[if_pos B]at hb;exact .inr hb.symm
        rw[if_neg B]at hb
        rw[M listed j f (Ne.symm B)]at y;exact .inl ⟨f,u,y,hb⟩
      rintro (⟨f,u,y,hb⟩|rfl)
      . have B:¬f=j:=λe=>by rw[e,iB]at y;cases y
        exact⟨f,u,by rw[M listed j f (Ne.symm B)];exact y,by dsimp only;rw[if_neg B];exact hb⟩
      exact⟨j,(ar j).2 N,by simp[Xb,show j<listed.size by omega],by dsimp only;rw[if_pos rfl]⟩
     have g8:w.heap.size<=(w.alloc (.cells ⟨z.cells.toList⟩ e)).heap.size:=by simp
     have iM:(w.alloc (.cells ⟨z.cells.toList⟩ e)).heap.size=w.heap.size+1:=by simp
     have ds:∀b,b<w.heap.size->(w.alloc (.cells ⟨z.cells.toList⟩ e)).heap[b]?=w.heap[b]?:=λb hb=>Below.heap_alloc w _ b hb;have hU:b9 w (w.alloc (.cells ⟨z.cells.toList⟩ e)) (own β (hs (H1 (listed.setIfInBounds j true))) (aS C (q87 (Fn q) listed blk)).A) (own β (hs (H1 (listed.setIfInBounds j true))) (aS C (q87 (Fn q) (listed.setIfInBounds j true) (λf=>if f=j then w.heap.size else blk f))).A):=⟨g8,λb hb b6=>⟨ds b b6,λV=>hb (by
      rcases V with (V|V)|V
      . exact .inl (.inl V)
      . rcases (hB b).1 V with V|V
        . exact .inl (.inr V)
        omega
      exact .inr V)⟩⟩
     have b0:=Y.ext;refine⟨?_,?_,?_⟩
     . have gW:(a.put D.dst (.pointer (some ⟨w.heap.size,0,none⟩))).tmps.size=a.tmps.size:=by cases d0:D.dst<;>simp[Act.put]
       have gY:(a.put D.dst (.pointer (some ⟨w.heap.size,0,none⟩))).defers=a.defers:=by cases d0:D.dst<;>rfl
       have halt:∀b,(aS C (q87 (Fn q) (listed.setIfInBounds j true) (λf=>if f=j then w.heap.size else blk f))).A b->b<(w.alloc (.cells ⟨z.cells.toList⟩ e)).heap.size:=λb hb=>by
        rcases hb with hb|hb
        . have:=Y.alt b (.inl hb);omega
        rcases (hB b).1 hb with hb|rfl
        . have:=Y.alt b (.inr hb);omega
        omega
       have iC:b8 (w.alloc (.cells ⟨z.cells.toList⟩ e)) β (ns (H1 (listed.setIfInBounds j true))) (aS C (q87 (Fn q) (listed.setIfInBounds j true) (λf=>if f=j then w.heap.size else blk f))).A (hs (H1 (listed.setIfInBounds j true))):=
        ⟨λp hp=>q48 hU (Xa _) (λ_ _=>rfl) (Y.hp.lt p hp) (λb g9=>ds b (Y.hp.cC p hp b g9)) (λ_=>rfl) (Y.hp.obj p hp),Y.hp.lt,Y.hp.nd,Y.hp.inj,λp hp b c g9 V=>by
         rcases V with V|V
         . exact Y.hp.av p hp b c g9 (.inl V)
         . rcases (hB b).1 V with V|V
           . exact Y.hp.av p hp b c g9 (.inr V)
           have:=Y.hp.blt p hp b c g9;omega,Y.hp.i0,λp hp b hb=>by
         obtain⟨i1,i2,i3,i4⟩:=Y.hp.ib p hp b hb;refine⟨Xi i1 g8,λV=>?_,i3,i4⟩;rcases V with V|V
         . exact i2 (.inl V)
         rcases (hB b).1 V with V|V
         . exact i2 (.inr V)
         omega⟩
       have iD:Ext C.w0 C.β0 C.nx0 C.hp0 (w.alloc (.cells ⟨z.cells.toList⟩ e)) β (ns (H1 (listed.setIfInBounds j true))) (hs (H1 (listed.setIfInBounds j true))):=
        {nx:=b0.nx,gh:=b0.gh,gi:=b0.gi,ids:=b0.ids,blk:=b0.blk,os:=b0.os,tape:=b0.tape,output:=b0.output,size:=Yn b0.size g8,
         keep:=λb hb iE=>(ds b (Xi hb b0.size)).trans (b0.keep b hb iE)}
       exact {df:=by rw[gY];exact Y.df,nt:=by rw[gW];exact Y.nt,ntc:=Y.ntc,nb:=Y.nb,alt:=halt,gs:=Y.gs,hp:=iC,ext:=iD,env:=λt=>by simp only[q17,rep]}
     . intro t
       have gb:r1 j=.bU:=by simp only[r1,if_pos N]
       rw[g7,gb];simp only[q5g]
       split
       . simp only[rep]
       rename_i gn
       have:=dk a (some (dd j)) (.pointer (some ⟨w.heap.size,0,none⟩)) t (λe=>gn (Yo e));rw[this];exact q5i hU (ns (H1 (listed.setIfInBounds j true))) (ns (H1 (listed.setIfInBounds j true))) (Xa _) (λ_ _=>rfl) _ _ (hE t)
     have hV:dd j<a.tmps.size:=by
      rw[g7]at bi;simp only[dok,decide_eq_true_eq]at bi;rw[Y.nt];exact bi
     have gw:∀f∈Fn q,¬f=j->¬dd j=dd f:=λf u B e=>by
      obtain⟨d,U,O⟩:=eb f ((ar f).1 u);have h3:=(O j X (Ne.symm B)).1;rw[d0 j N,e,<-d0 f ((ar f).1 u),U]at h3;exact h3 rfl
     refine⟨λf u y=>?_,λf u y=>?_,λf u y=>?_,λf u g hg y d3 hb=>?_⟩
     . skip
       by_cases B:f=j
       . subst B
         rw[if_pos rfl,g7];simp only[Act.put];rw[z3h _ _ _ _ _ hV,if_pos rfl]
       rw[if_neg B]
       rw[M listed j f (Ne.symm B)]at y;rw[g7,dk a (some (dd j)) _ (dd f) (λe=>gw f u B (Yo e))];exact hA.tmp f u y
     . skip
       by_cases B:f=j
       . subst B
         rw[if_pos rfl];refine⟨e,?_⟩;rw[<-iz];exact heap_alloc_new w _
       rw[if_neg B]
       rw[M listed j f (Ne.symm B)]at y;obtain⟨e',eS⟩:=hA.cell f u y;exact⟨e',(ds _ (gV f u y)).trans eS⟩
     . skip
       by_cases B:f=j
       . subst B
         rw[if_pos rfl];exact⟨b0.size,λV=>Nat.lt_irrefl _ (Y.alt _ (.inl V))⟩
       rw[if_neg B]
       rw[M listed j f (Ne.symm B)]at y;exact hA.new f u y
     skip
     by_cases B:f=j<;>by_cases eX:g=j
     . rw[B,eX]
     . rw[if_pos B,if_neg eX]at hb
       rw[M listed j g (Ne.symm eX)]at d3;have:=gV g hg d3;omega
     . rw[if_neg B,if_pos eX]at hb
       rw[M listed j f (Ne.symm B)]at y;have:=gV f u y;omega
     rw[if_neg B,if_neg eX]at hb
     rw[M listed j f (Ne.symm B)]at y;rw[M listed j g (Ne.symm eX)]at d3;exact hA.inj f u g hg y d3 hb
   by_cases c5:j∈pre
   . -- what is turned early
     have U:=bv j D X G;unfold ba b7 at U;rw[if_neg N,if_pos (Xp _ c5)]at U;obtain⟨_,hW⟩:=U;obtain⟨q1,q2,q3⟩:=gE listed j D c8 c5 G I J;have gZ:∀f∈l,dd f∉D.looksAt ops:=λf u=>by
      obtain⟨d,g1,g2⟩:=eb f u;have dT:dd f=d:=by simp only[dd,g1,Xo]
      rw[dT];rcases (g2 j X (λe=>N (by rw[e];exact u))).2 with g3|g3|g3
      . exact absurd g3 N
      . exact absurd ⟨d8 listed j D G I J g3.1,dc listed j D G I J g3.2⟩ gF
      exact g3 D G
     rw[q2,q3]at Y hE;have d5:aS C (q87 (Fn q) (listed.setIfInBounds j true) blk)=aS C (q87 (Fn q) listed blk):=z4v λb=>by
      constructor<;>rintro⟨f,u,y,hb⟩
      . have B:¬j=f:=λe=>N (by rw[e];exact (ar f).1 u)
        exact⟨f,u,by rw[<-M listed j f B];exact y,hb⟩
      have B:¬j=f:=λe=>N (by rw[e];exact (ar f).1 u)
      exact⟨f,u,by rw[M listed j f B];exact y,hb⟩
     let C1:Ctx P:={aS C (q87 (Fn q) listed blk)with w0:=w,β0:=β,hp0:=hs j}
     have iF:Rel C1 ⟨s.nb,[],hs j,ns j,s.nt⟩ a w β:={df:=Y.df,nt:=Y.nt,ntc:=Y.ntc,nb:=Y.nb,alt:=Y.alt,gs:=Y.gs.ext Y.ext,hp:=Y.hp,env:=Y.env,ext:={nx:=Y.ext.nx,gh:=λ_ _=>rfl,gi:=λ_ _ _=>rfl,ids:=λx V=> .inl (Xn.2 ⟨x,V,rfl⟩),blk:=λx V b hb=> .inl ⟨x,V,hb⟩,os:=rfl,tape:=rfl,output:=⟨rfl,λ_=>Xa _⟩,size:=Xa _,keep:=λ_ _ _=>rfl}};refine j9o (hW C1 E cc (λt gx=>by rw[gC t gx,fo j t (by omega) (λf u e=>gZ f u (by rw[e];exact gx))]) a w β iF hE _ _ λa' w' β' R ex=>?_);rintro⟨v,hv⟩;have gb:r1 j=r j:=by simp only[r1,if_neg N]
     refine gS _ _ ⟨ft,λt cz=>?_,β',blk,?_⟩
     . have gn:D.dst≠some t:=λe=>by
        rw[e]at bi;simp only[dok,decide_eq_true_eq]at bi;omega
       cases gy:D.dst with
       |none=>simp only[q5g];exact cc t cz
       |some d=>
        simp only[q5g];rw[if_neg (λe=>gn (by rw[gy,e]))];exact cc t cz
     rw[d5,q1];have hX:∀f∈Fn q,listed.getD f false=true->w'.heap[blk f]?=w.heap[blk f]?:=λf u y=>by
      obtain⟨e,L⟩:=hA.cell f u y;refine R.ext.keep _ (Xx.1 L).1 ?_;rintro⟨x,V,hb⟩;exact Y.hp.dM x V _ hb (.inr ⟨f,u,y,rfl⟩)
     refine⟨{df:=R.df,nt:=R.nt,ntc:=R.ntc,nb:=R.nb,alt:=R.alt,gs:=Y.gs,hp:=R.hp,env:=R.env,ext:=Y.ext.then (by rw[Y.nb];have:=R.ext;rw[show C1.nx0=s.nb from Y.nb]at this;exact this)},?_,?_⟩
     . rw[gb];exact ex
     have B:∀f∈Fn q,¬j=f:=λf u e=>N (by rw[e];exact (ar f).1 u)
     have gw:∀f∈Fn q,D.dst≠some (dd f):=λf u e=>by
      obtain⟨d,g1,g2⟩:=eb f ((ar f).1 u);have dT:dd f=d:=by simp only[dd,g1,Xo]
      have:=(g2 j X (λe'=>B f u e')).1;rw[gT,e,dT]at this;exact this rfl
     refine⟨λf u y=>?_,λf u y=>?_,λf u y=>?_,λf u g hg y d3 hb=>?_⟩
     . rw[M listed j f (B f u)]at y
       rw[hv,dk a _ _ _ (gw f u)];exact hA.tmp f u y
     . rw[M listed j f (B f u)]at y
       obtain⟨e',eS⟩:=hA.cell f u y;exact⟨e',(hX f u y).trans eS⟩
     . rw[M listed j f (B f u)]at y
       exact hA.new f u y
     rw[M listed j f (B f u)]at y
     rw[M listed j g (B g hg)]at d3;exact hA.inj f u g hg y d3 hb
   -- what only looks
   have U:=bv j D X G;unfold ba b7 at U;rw[if_neg N,if_neg (λV=>(Xj.1 V).elim c5 cs)]at U;have hY:j∈bk:=by
    rcases f5 j X N c5 with O|O
    . exact O.1
    exact absurd ⟨d8 listed j D G I J O.1,dc listed j D G I J O.2.1⟩ gF
   have gZ:∀f∈l,dd f∉D.looksAt ops:=λf u=>by
    obtain⟨d,g1,g2⟩:=eb f u;have dT:dd f=d:=by simp only[dd,g1,Xo]
    rw[dT];rcases (g2 j X (λe=>N (by rw[e];exact u))).2 with g3|g3|g3
    . exact absurd g3 N
    . exact absurd ⟨d8 listed j D G I J g3.1,dc listed j D G I J g3.2⟩ gF
    exact g3 D G
   have iG:QG P (hs (H1 listed)) (ns (H1 listed)) ops E D (r j):=by
    obtain⟨t1,t2⟩:=gH j X hY;have gz:H1 listed<=p:=z96 (effs:=pre) (listed:=listed) p;have iH:q4w (T j) (hs j)=q4w (T j) (hs (H1 listed)):=by
     rcases Nat.le_total j (H1 listed)with hle|hle
     . refine (d7 (T j) j (H1 listed) hle (by omega) λm g1 g2 g3=>?_).symm
       rcases g3 with g3|g3
       . have f8:m≠j:=λe=>by rw[e]at g3;exact (Xj.1 g3).elim c5 cs
         rcases t2 m g3 f8 with g4|g4
         . exfalso
           have y:=c6 listed j D G I J m g3 f8 g4;rw[decide_eq_false (by omega)]at y;rcases Xj.1 g3 with g5|g5
           . rcases z81 (effs:=pre) (listed:=listed) p with h0|⟨h0,f9,im⟩
             . simp only[H1]at g2;omega
             rcases Xg m (q28 pre listed p-1)with h3|h3
             . have d4:q28 pre listed p-1<k:=by have:=Z _ h0;omega
               have h5:=gM _ h0 m g5 (by omega);rw[if_pos h3]at h5;have h6:=q7y (listed:=λi=>listed.getD i false=true) (λi oi cd cp=>(I i oi cd cp).2) ops.size _ m _ (ao _ d4) (I _ _ (ao _ d4) f9).2 h5;rw[h6]at y;cases y
             have:m=q28 pre listed p-1:=by simp only[H1]at g2;omega
             rw[this,f9]at y;cases y
           have:=(bs m g5).1;omega
         exact g4
       exact t1 m g3
     refine d7 (T j) (H1 listed) j hle (by omega) λm g1 g2 g3=>?_
     rcases g3 with g3|g3
     . rcases t2 m g3 (by omega)with g4|g4
       . exfalso
         have y:=c6 listed j D G I J m g3 (by omega) g4;rw[decide_eq_true g2]at y;rcases Xj.1 g3 with g5|g5
         . rw[z6h p m (by simp only[H1]at g1;omega) (Z m g5) g5]at y;cases y
         rw[W m g5]at y;cases y
       exact g4
     exact t1 m g3
    have g1:=jf4 (hp':=hs (H1 listed)) (U.2.2.2 hY) iH U.2.2.1;refine j1c (nx:=ns (H1 listed)) (λt gx=>?_) g1;rw[gC t gx,fo j t (by omega) (λf u e=>gZ f u (by rw[e];exact gx))]
   have d5:aS C (q87 (Fn q) (listed.setIfInBounds j true) blk)=aS C (q87 (Fn q) listed blk):=z4v λb=>by
    constructor<;>rintro⟨f,u,y,hb⟩
    . have B:¬j=f:=λe=>N (by rw[e];exact (ar f).1 u)
      exact⟨f,u,by rw[<-M listed j f B];exact y,hb⟩
    have B:¬j=f:=λe=>N (by rw[e];exact (ar f).1 u)
    exact⟨f,u,by rw[M listed j f B];exact y,hb⟩
   refine jn8 Y hE iG λv w' et hv=>gS _ _ ⟨ft,λt cz=>?_,β,blk,?_⟩
   . have gn:D.dst≠some t:=λe=>by
      rw[e]at bi;simp only[dok,decide_eq_true_eq]at bi;omega
     cases gy:D.dst with
     |none=>simp only[q5g];exact cc t cz
     |some d=>
      simp only[q5g];rw[if_neg (λe=>gn (by rw[gy,e]))];exact cc t cz
   rw[d5,e6 listed j c5];have gb:r1 j=r j:=by simp only[r1,if_neg N]
   have R:=Y.still et;refine⟨?_,?_,?_⟩
   . have gW:(a.put D.dst v).tmps.size=a.tmps.size:=by cases d0:D.dst<;>simp[Act.put]
     have gY:(a.put D.dst v).defers=a.defers:=by cases d0:D.dst<;>rfl
     exact {df:=by rw[gY];exact R.df,nt:=by rw[gW];exact R.nt,ntc:=R.ntc,nb:=R.nb,alt:=R.alt,gs:=R.gs,hp:=R.hp,ext:=R.ext,env:=λt=>by simp only[q17,rep]}
   . intro t
     rw[gb]
     cases gy:D.dst with
     |none=>simp only[q5g,Act.put];exact z7t (s:=⟨s.nb,[],hs (H1 listed),ns (H1 listed),s.nt⟩) (C:=aS C (q87 (Fn q) listed blk)) et (hE t)
     |some d=>
      simp only[q5g,Act.put];have b6:d<a.tmps.size:=by
       rw[gy]at bi;simp only[dok,decide_eq_true_eq]at bi;rw[Y.nt];exact bi
      rw[z3h _ _ _ _ _ b6]
      split
      . exact hv
      exact z7t (s:=⟨s.nb,[],hs (H1 listed),ns (H1 listed),s.nt⟩) (C:=aS C (q87 (Fn q) listed blk)) et (hE t)
   have B:∀f∈Fn q,¬j=f:=λf u e=>N (by rw[e];exact (ar f).1 u)
   have gw:∀f∈Fn q,D.dst≠some (dd f):=λf u e=>by
    obtain⟨d,g1,g2⟩:=eb f ((ar f).1 u);have dT:dd f=d:=by simp only[dd,g1,Xo]
    have:=(g2 j X (λe'=>B f u e')).1;rw[gT,e,dT]at this;exact this rfl
   refine⟨λf u y=>?_,λf u y=>?_,λf u y=>?_,λf u g hg y d3 hb=>?_⟩
   . rw[M listed j f (B f u)]at y
     rw[dk a _ _ _ (gw f u)];exact hA.tmp f u y
   . rw[M listed j f (B f u)]at y
     obtain⟨e',eS⟩:=hA.cell f u y;exact⟨e',(et.block _ (Xx.1 eS).1).trans eS⟩
   . rw[M listed j f (B f u)]at y
     exact hA.new f u y
   rw[M listed j f (B f u)]at y
   rw[M listed j g (B g hg)]at d3;exact hA.inj f u g hg y d3 hb
 . -- all are there
   intro fd listed a w E c8 hZ I S ⟨W,_,β,blk,Y,hE,hA⟩ hI;have eY:∀f∈Fn q,listed.getD f false=true:=λf u=>S.1 f ((ar f).1 u);have d5:aS C (q87 (Fn q) listed blk)=aS C (λb=>∃f∈Fn q,blk f=b):=z4v λb=>by
    constructor
    . rintro⟨f,u,_,hb⟩;exact⟨f,u,hb⟩
    rintro⟨f,u,hb⟩;exact⟨f,u,eY f u,hb⟩
   have gz:hs (H1 listed)=hs p/\ns (H1 listed)=ns p:=by
    have:∀n,n<=p->hs (q28 pre listed n)=hs n/\ns (q28 pre listed n)=ns n:=by
     intro n
     induction n with
     |zero=>intro _;exact⟨rfl,rfl⟩
     |succ n ih=>
      intro U;rw[q28]
      split
      . exact⟨rfl,rfl⟩
      rename_i hn
      have h4:=ih (by omega);have h5:=c7 n (by omega) (λL=>hn ⟨L,S.2 n L⟩) (λL=>by have:=(bs n L).1;omega) (λN=>by have:=f4 n N;omega);exact⟨h4.1.trans h5.1.symm,h4.2.trans h5.2.symm⟩
    exact this p (Xa _)
   rw[d5,gz.1,gz.2]at Y;rw[d5,gz.1,gz.2]at hE;obtain⟨β',R,ex⟩:=Rel.dA (d:=dd) (zs:=zz) (blk:=blk) (Fn q) (hs p) (ns p) β E hM (λf u=>hA.tmp f u (eY f u)) (λf u=>hA.cell f u (eY f u)) (λf u=>hA.new f u (eY f u)) (λf u g hg=>hA.inj f u g hg (eY f u) (eY g hg)) Y hE;have hp0:q28 effs listed k=0:=by
    rw[qm9 (j:=0) (λi _ L=>W i L) k (Yz _)];rfl
   have i5:H listed=q:=by simp only[H,hp0];exact Nat.max_eq_right (Yz _)
   obtain⟨g1,g2⟩:=gJ q ia (Xa _);refine gB fd listed a w β' (eU dd (Fn q) (ns p) E) c8 hZ I ?_ ?_ ?_ (λf u=>(Xj.1 u).elim (S.1 f) (S.2 f))
   . rw[i5,g1,g2];exact R
   . rw[i5,g1,g2];exact ex
   intro t
   rcases gR E t q (Xa _)with⟨f,c1,c2,c3,c4⟩|⟨c1,c2⟩
   . have fl:f<k:=Xi (c9 f c2) ea
     refine .inl ⟨f,by omega,S.1 f c2,by rw[d0 f c2,c3],λi iT iI y=>?_,c4⟩;have iJ:=(I i _ (Xh iI) y).1;obtain⟨d,d1,d2⟩:=eb f c2;have dT:dd f=d:=by simp only[dd,d1,Xo]
     rw[<-c3,dT];exact (d2 i iJ (by omega)).1
   rcases hI t with⟨i,b1,b2,b3,b4,b5⟩|⟨b1,b2⟩
   . have bc:i∉l:=λN=>c1 i (c9 i N) N (by have:=d0 i N;rw[b3]at this;exact (Yo this).symm)
     refine .inl ⟨i,b1,b2,b3,b4,?_⟩;rw[c2,b5];simp only[r1,if_neg bc]
   exact .inr ⟨b1,by rw[c2,b2]⟩
 . exact Yn (List.length_filter_le _ _) (by simp)
 . intro i oi _ hL
   simp[Yd]at hL
   split at hL<;>simp at hL
 . have eo:∀i,(Yp ops.size false).getD i false=false:=λi=>by
    simp[Xb,Yd];split<;>rfl
   have iK:aS C (q87 (Fn q) (Yp ops.size false) λ_=>0)=C:=zf9 λb=>by
    rintro⟨f,_,y,_⟩;rw[eo]at y;cases y
   have iL:H1 (Yp ops.size false)=0:=by
    simp only[H1];rw[qm9 (j:=0) (λi _ _=>eo i) p (Yz _)];rfl
   refine⟨λe _=>eo e,λt cz=>z4z f2 t cz,β,λ_=>0,?_⟩;rw[iK,iL,z1,z2];exact⟨is,it,⟨(λf _ y=>by rw[eo]at y;cases y),(λf _ y=>by rw[eo]at y;cases y),(λf _ y=>by rw[eo]at y;cases y),(λf _ g _ y=>by rw[eo]at y;cases y)⟩⟩
 refine λt=> .inr ⟨λi _ hL=>?_,rfl⟩
 simp[Yd]at hL
 split at hL<;>simp at hL
theorem q1r{P:Program}{ops:Array Oper}{s:St}{K:St->Prop}(k p q:Nat)(f c b pre effs a:List Nat)(n:P.follows .mixedOrders=true)(g:qs7 f 0 ops.toList=true)(o:k<=ops.size)(l:z94 f ops.size k=true)(t:zn0 ops (λi j=>(f.getD i 0).testBit j) k p q b pre effs a=true)(d:zh1 s.nt s.env=true)
 (h:vcA P ops (λ_=>c) b (pre++effs) a (ops.toList.take k) 0 s λs'=>qe2 P ops (ops.toList.drop k) s' K):z13 P ops s K:=
 ja4 k p q f (λ_=>c) b pre effs a (Xe.2 λj _=>by
  simp only[Xc,Xe,decide_eq_true_eq,Xv];exact⟨λ_ _ x m=>m,λe _=> .inr λx m=>m⟩) n g o l t d h
end
section
open Go Go.RowKit
def Eqv(a b:Exit->St->Prop):Prop:=a=b
section
variable {P:Program} {Q QQ:Exit->St->Prop} {s:St} {N:St->Prop} {a b c x y:Code} {i j:Nat}
theorem ze1(d:cI a=false)(h:∀QQ:Exit->St->Prop,Eqv QQ (z0b P Q b)->vc P a QQ s):vc P (.seq a b) Q s:=by
 rw[zu7,if_neg (by simp[d])];exact h _ rfl
theorem sg(h:∀QQ:Exit->St->Prop,Eqv QQ (z0b P Q b)->vc P a QQ s)(d:cI a=false:=by kernel_rfl):vc P (.seq a b) Q s:=ze1 d h
theorem z5f(d:cI a=true)(h:wpV P (.seq a b) Q s):vc P (.seq a b) Q s:=by
 rw[zu7,if_pos d];exact h
theorem ze7(h:∀QQ:Exit->St->Prop,Eqv QQ (z0b P Q b)->vc P a QQ s):wpV P (.seq a b) Q s:=jh8 (h _ rfl)
theorem w9(h:∀QQ:Exit->St->Prop,Eqv QQ (q9m i Q)->vc P c QQ s):vc P (.block i c) Q s:=h _ rfl
theorem q8(d:Eqv QQ (z0b P Q b))(h:vc P b Q s):QQ .normal s:=by unfold Eqv at d;subst d;exact h
theorem q1w(d:Eqv QQ (z0b P Q b))(h:Q (.exit i) s):QQ (.exit i) s:=by unfold Eqv at d;subst d;exact h
theorem q18(d:Eqv QQ (z0b P Q b))(h:Q .ret s):QQ .ret s:=by unfold Eqv at d;subst d;exact h
theorem q08(d:Eqv QQ (q9m i Q))(h:Q .normal s):QQ .normal s:=by unfold Eqv at d;subst d;exact h
theorem q0m(d:Eqv QQ (q9m i Q))(h:Q .normal s):QQ (.exit i) s:=by unfold Eqv at d;subst d;simp only[q9m,if_true];exact h
theorem j0y(e:Eqv QQ (q9m i Q))(d:¬j=i)(h:Q (.exit j) s):QQ (.exit j) s:=by unfold Eqv at e;subst e;simp only[q9m,if_neg d];exact h
theorem q12(d:Eqv QQ (q9m i Q))(h:Q .ret s):QQ .ret s:=by unfold Eqv at d;subst d;exact h
theorem u6(d:Eqv QQ (q6x N Q))(h:N s):QQ .normal s:=by unfold Eqv at d;subst d;exact h
theorem q0v(d:Eqv QQ (q6x N Q))(h:Q (.exit i) s):QQ (.exit i) s:=by unfold Eqv at d;subst d;exact h
theorem q34(d:Eqv QQ (q6x N Q))(h:Q .ret s):QQ .ret s:=by unfold Eqv at d;subst d;exact h
theorem qg3{b:Bool}{t:Operand}(d:y9 s.env t=.v (.bool b))(e:b=true->vc P x Q s)(f:b=false->vc P y Q s):vc P (.cond t x y) Q s:=by
 simp only[vc,d];exact⟨e,f⟩
theorem qa8{t:Operand}(d:y9 s.env t=.v (.bool true))(e:vc P x Q s):vc P (.cond t x y) Q s:=qg3 d (λ_=>e) (λh=>by cases h)
theorem z15{t:Operand}(d:y9 s.env t=.v (.bool false))(e:vc P y Q s):vc P (.cond t x y) Q s:=qg3 d (λh=>by cases h) (λ_=>e)
theorem q00{ops:Array Oper}(h:z13 P ops s (Q .normal)):vc P (.region i ops true) Q s:=by simp only[vc,if_true];exact h
theorem y5(h:Q .normal s):vc P .skip Q s:=h
theorem j1n{l}(h:Q .normal s):vc P (.label l) Q s:=h
theorem q04(h:Q .ret s):vc P .ret Q s:=h
theorem q0u(h:Q (.exit i) s):vc P (.exit i) Q s:=h
theorem j3e(h:wpV P (.loop c) Q s):vc P (.loop c) Q s:=h
theorem z4r{ι:Type}(S:ι->St)(I:ι->Prop)(h:∀QQ:Exit->St->Prop,Eqv QQ (q6x (λs'=>∃i l,Le s' (S i) l/\I i) Q)->vc P x QQ s)(d:∀i,I i->vc P y Q (S i)):wpV P (.seq x y) Q s:=
 jh9 S I (h _ rfl) d
end
end
section
open Go Go.RowKit
section
variable {P:Program} {ops:Array Oper} {t:Nat->List Nat} {l e a:List Nat} {j:Nat} {s:St} {K:St->Prop}
def vaK(P:Program)(ops:Array Oper)(t:Nat->List Nat)(l e a:List Nat)(r:List Oper)(j:Nat)(K:St->Prop)(s:St):Prop:=vcA P ops t l e a r j s K
def vqK(P:Program)(ops:Array Oper)(t:Nat->List Nat)(l e a:List Nat)(r:List Oper)(j:Nat)(K:St->Prop)(s:St)(d:Option Nat)(x:AV):Prop:=vcA P ops t l e a r j (s.put d x) K
theorem jp4{r:List Oper}:vaK P ops t l e a r j K s=vcA P ops t l e a r j s K:=rfl
theorem jp2{r:List Oper}{d:Option Nat}{x:AV}:vqK P ops t l e a r j K s d x=vcA P ops t l e a r j (s.put d x) K:=rfl
theorem jg8:vcA P ops t l e a [] j s K=K s:=rfl
theorem j87{o:Oper}{r:List Oper}:vcA P ops t l e a (o::r) j s K=if j∈a then (o.guard=none/\s.nx∈t j)/\(match o.op with
 |.alloc ty=>match q1s P ty with
  |some zs=>vaK P ops t l e a r (j+1) K (({s with hp:=(s.nx,.box (zs.map AV.v))::s.hp,nx:=s.nx+1}:St).put o.dst (.ptr s.nx 0))
  |none=>False
 |_=>False)
 else if j∈e then j0k P ops (t j) o s (vaK P ops t l e a r (j+1) K)
 else (j∈l->z1y (t j) (y9 s.env) o.op)/\qG P ops s o (vqK P ops t l e a r (j+1) K s o.dst):=rfl
theorem jl7{t:List Nat}{hp:Hp}:j0m t hp K s=(q4w t s.hp=q4w t hp/\K s):=rfl
theorem j7g{d:Option Nat}{hp':Hp}{nx':Nat}{r:AV}:j7h d s K hp' nx' r=K (({s with hp:=hp',nx:=nx'}:St).put d r):=rfl
end
attribute [go_sem] jp4 jp2 jg8 j87 jl7 j7g j0k z9i jt9 ju0 q4w z1y Xf List.not_mem_nil
end
section
open Go Go.RowKit
def Ok{α:Type}(x:Option α)(Q:α->Prop):Prop:=∃r,x=some r/\Q r
section
variable {α β σ R:Type}
theorem Ok.some{a:α}{Q:α->Prop}(h:Q a):Ok (some a) Q:=⟨a,rfl,h⟩
theorem Ok.bind{x:Option α}{k:α->Option β}{Q:β->Prop}(h:Ok x λa=>Ok (k a) Q):Ok (q9 x k) Q:=by
 obtain⟨a,rfl,r,b,c⟩:=h;exact⟨r,by simpa [q9]using b,c⟩
theorem k2g{x:Option α}{k:α->Option β}{P:α->Prop}{Q:β->Prop}(h:Ok x P)(b:∀a,P a->Ok (k a) Q):Ok (q9 x k) Q:=by
 obtain⟨a,rfl,h⟩:=h;exact Ok.bind ⟨a,rfl,b a h⟩
theorem Ok.guard{c:Prop}[Decidable c]{k:Option α}{Q:α->Prop}(a:c)(h:Ok k Q):Ok (x9 c k) Q:=by
 unfold x9;rw[if_pos a];exact h
theorem Ok.mono{x:Option α}{P Q:α->Prop}(h:Ok x P)(b:∀a,P a->Q a):Ok x Q:=by
 obtain⟨a,rfl,h⟩:=h;exact⟨a,rfl,b a h⟩
theorem k2h{b:Bool}{x y:Option α}{Q:α->Prop}(a:b=true->Ok x Q)(c:b=false->Ok y Q):Ok (if b=true then x else y) Q:=by
 cases b
 . exact c rfl
 exact a rfl
theorem Ok.idx{l:List α}{i:Int}{Q:α->Prop}(a:0<=i)(b:i<l.length)(h:Q (l[i.toNat]'(by omega))):Ok (Go.Proofs.YtdcdfkdhomekeaaGreat.idx l i) Q:=by
 refine⟨_,?_,h⟩;unfold Go.Proofs.YtdcdfkdhomekeaaGreat.idx;rw[if_pos a,X3 (by omega)]
theorem Ok.dg{l:List α}{i:Int}{Q:α->Prop}(a:0<=i)(b:i<l.length)(h:∀x,l[i.toNat]?=.some x->Q x):Ok (Go.Proofs.YtdcdfkdhomekeaaGreat.idx l i) Q:=
 Ok.idx a b (h _ (X3 (by omega)))
theorem k2i{l:List α}{i:Nat}{Q:α->Prop}(a:i<l.length)(h:Q l[i]):Ok (Go.Proofs.YtdcdfkdhomekeaaGreat.idx l (i:Int)) Q:=Ok.idx (by omega) (by omega) (by simpa using h)
theorem Ok.loop{body:(σ->Option R)->σ->Option R}(I:σ->Prop)(a:σ->Nat){Q:R->Prop}
 (h:∀(rec:σ->Option R) s,I s->(∀s',I s'->a s'<a s->Ok (rec s') Q)->Ok (body rec s) Q):∀(n:Nat) (s:σ),I s->a s<n->Ok (q02 body n s) Q
 |0,_,_,b=>absurd b (Ya _)
 |n+1,s,hi,b=>h (q02 body n) s hi λs' hi' c=>Ok.loop I a h n s' hi' (by omega)
theorem k2j{body:(σ->Option R)->σ->Option R}(I:σ->Prop)(a:σ->Nat){Q:R->Prop}{s:σ}
 (h:∀(rec:σ->Option R) s,I s->(∀s',I s'->a s'<a s->Ok (rec s') Q)->Ok (body rec s) Q)(hi:I s)(b:a s<rounds):Ok (q02 body rounds s) Q:=Ok.loop I a h rounds s hi b
theorem k2k{x:Option α}{a:α}(h:Ok x λr=>r=a):x=.some a:=by
 obtain⟨r,rfl,rfl⟩:=h;rfl
theorem Ok.of_eq{x:Option α}{a:α}{Q:α->Prop}(h:x=.some a)(b:Q a):Ok x Q:=⟨a,h,b⟩
end
def In(n:Int):Prop:=-9223372036854775808<=n/\n<9223372036854775808
end
section
open Go Go.RowKit
section
variable {α:Type}
def jy0(s:List α)(f:α->Option Bool)(rec:Int->Option Int):Int->Option Int:=
 λt=>(if (decide (t<(List.length s:Int)))=true then q9 (idx s t) (λx=>q9 (f x) (λv=>(if v=true then some t else rec (IntKind.i64.wrap (t+1)))))else some (-1))
def zh6(s:List α)(f:α->Option Bool):Option Int:=q02 (jy0 s f) rounds 0
def z7l(s:List α)(f:α->Option Bool):Option Bool:=q9 (zh6 s f) λv=>some (decide (0<=v))
def z8h(p:α->Bool)(s:List α):Int:=match s.findIdx? p with
 |some i=>i
 |none=>-1
theorem za3{p:α->Bool}:∀{s:List α} {i:Nat},(∀x∈s.take i,p x=false)->∀(h:i<s.length),p s[i]=true->s.findIdx? p=some i
 |[],_,_,h,_=>by simp at h
 |x::s,0,_,_,hp=>by simp at hp;simp[Y9,hp]
 |x::s,i+1,a,h,hp=>by
  have b:p x=false:=a x (by simp);rw[Y9,b];simp at hp;have:=za3 (s:=s) (i:=i) (λy c=>a y (by simp[c])) (by simpa using h) hp;rw[this];rfl
theorem zs3{s:List α}{f:α->Option Bool}{p:α->Bool}(k:s.length<9223372036854775808)(e:∀x∈s,f x=some (p x)):zh6 s f=some (z8h p s):=by
 refine k2k (k2j (λt:Int=>∃i:Nat,t=i/\i<=s.length/\∀x∈s.take i,p x=false) (λt:Int=>s.length-t.toNat) ?_ ⟨0,rfl,by omega,by simp⟩ (by simp[rounds];omega));rintro rec t ⟨i,rfl,hi,hp⟩ g;refine k2h (λc=>?_) (λc=>?_)
 .
  simp only[decide_eq_true_eq]at c;have a:i<s.length:=by omega
  refine Ok.bind (k2i a (Ok.bind (Ok.of_eq (e _ (Yk a)) ?_)));refine k2h (λd=>Ok.some ?_) (λd=>?_)
  . unfold z8h;rw[za3 hp a d]
  have j:IntKind.i64.wrap ((i:Int)+1)=((i+1:Nat):Int):=by rw[wrap_i64 _ (by omega)];omega
  rw[j];refine g _ ⟨i+1,rfl,by omega,λx b=>?_⟩ (by simp only[Yv];omega);rw[X4 a,Xj]at b;rcases b with b|b
  . exact hp x b
  simp only[Yt]at b;rw[b];exact d
 simp only[decide_eq_false_iff_not]at c;have:i=s.length:=by omega
 subst this;refine Ok.some ?_;rw[Zd]at hp;unfold z8h;rw[Yw.2 hp]
theorem zs2{p:α->Bool}{s:List α}:decide (0<=z8h p s)=s.any p:=by
 unfold z8h
 cases h:s.findIdx? p with
 |none=>
  have:=Yw.1 h;have a:s.any p=false:=by simpa using this
  simp[a]
 |some i=>
  obtain⟨hi,hp,_⟩:=List.findIdx?_eq_some_iff_getElem.1 h;have a:s.any p=true:=List.any_eq_true.2 ⟨_,Yk hi,hp⟩;simp[a]
theorem qg6{s:List α}{f:α->Option Bool}{p:α->Bool}(a:s.length<9223372036854775808)(b:∀x∈s,f x=some (p x)):z7l s f=some (s.any p):=by
 unfold z7l;rw[zs3 a b];simp only[q9,Option.bind_some,zs2]
end
end
section
open Go Go.RowKit
abbrev fF:Nat->Prop:=own noG [] (λ_=>False)
theorem q2m:∀{e d:List CT} {b:List AV},q47 (e++d) b->∃a1 a2,b=a1++a2/\q47 e a1/\q47 d a2
 |[],d,b,h=>⟨[],b,rfl,by simp only[q47],h⟩
 |c::e,d,b,h=>by
  simp only[Yx,q47]at h;obtain⟨a,r,rfl,f,g⟩:=h;obtain⟨a1,a2,rfl,j,k⟩:=q2m g;exact⟨a::a1,a2,rfl,by simp only[q47];exact⟨a,a1,rfl,f,j⟩,k⟩
end
section
open Go Go.RowKit
theorem j8j(l:List UInt8):(enc l).map z2j=l:=by
 induction l with
 |nil=>rfl
 |cons x l a=>
  simp only[enc,Xt]at a⊢;rw[a];simp[zf0,z2j]
theorem jh6(l:List UInt8):(enc l).all z5x=true:=by
 induction l with
 |nil=>rfl
 |cons x l a=>
  simp only[enc,Xt,Y5]at a⊢;rw[a];simp[zf0,z5x]
theorem j2c(a b:List UInt8):((⟨⟨a⟩⟩:ByteArray)==⟨⟨b⟩⟩)=(a==b):=by
 show ((⟨a⟩:Array UInt8)==⟨b⟩)=(a==b)
 simp
theorem jh5(a b:List UInt8):((⟨⟨a⟩⟩:ByteArray)!=⟨⟨b⟩⟩)=!(a==b):=by rw[bne,j2c]
theorem j8i(a:List UInt8):(⟨⟨a⟩⟩:ByteArray).size=a.length:=rfl
theorem j8k(a:List UInt8):(⟨⟨a⟩⟩:ByteArray).data.toList=a:=rfl
theorem jh4(a:List UInt8):(⟨a.toArray⟩:ByteArray)=⟨⟨a⟩⟩:=rfl
attribute [go_sem] zi9 j8j jh6 j2c jh5 j8i j8k jh4
theorem j4v{P:Program}{ops:Array Oper}{s s':St}{l:List (Option Nat)}{K:St->Prop}(e:Le s s' l)(h:z13 P ops s' K):z13 P ops s K:=λid b C a w β f g j=>by
 obtain⟨c,d,_⟩:=qo9 f e;exact h id (by rw[e.1];exact b) C a w c d g j
attribute [go_sem] Int.reduceToNat Int.reduceLT Int.reduceLE Int.reduceBEq Int.reduceEq Int.reduceNeg Int.reduceNegSucc Int.reduceSub Int.reduceAdd Int.reduceMul Int.natCast_zero Int.natCast_one UInt8.reduceToNat Nat.reduceEqDiff Nat.reduceAdd Nat.reduceMul Nat.reduceSub Nat.reduceLeDiff Nat.reduceBEq reduceCtorEq
attribute [go_sem ↓] reduceIte
attribute [bool_to_prop] decide_eq_true_eq decide_eq_false_iff_not Yg Bool.not_eq_false' beq_iff_eq beq_eq_false_iff_ne ne_eq Xc Xv Int.not_lt Int.not_le
end
section
open Go Go.RowKit
theorem j06{α:Type}{f:α->AV}{L:List α}{i:Int}{x:α}(h:idx L i=some x):0<=i/\i<L.length/\i.toNat<L.length/\(L.map f)[i.toNat]?.getD .bU=f x:=by
 unfold idx at h
 split at h
 .
  rename_i b
  obtain⟨a,c⟩:=Yb.1 h;refine⟨b,by omega,a,?_⟩;simp[a,c]
 cases h
theorem q4i{α:Type}{f:α->AV}{L:List α}{i:Int}{x:α}(pre post:List AV)(h:idx L i=some x):0<=i/\i<L.length/\pre.length+i.toNat<(pre++(L.map f++post)).length/\(pre++(L.map f++post))[pre.length+i.toNat]?.getD .bU=f x:=by
 obtain⟨a,b,c,d⟩:=j06 (f:=f) h;refine⟨a,b,by simp only[Xs,Xw];omega,?_⟩;rw[X9 (Nat.le_add_right _ _),Ye,Yc (by rw[Xw];exact c)];exact d
theorem j8e{α:Type}[Row α](l:List α):enc l=Yl l.length (enc l):=by rw[<-q1c,Zd]
mutual
def q2f(ρ:Nat->Nat):AV->AV
 |.ptr id off=> .ptr (ρ id) off
 |.apt id sz i off=> .apt (ρ id) sz i off
 |.osl id sz off len=> .osl (ρ id) sz off len
 |.bsl id off len=> .bsl (ρ id) off len
 |.agg cs=> .agg (q5y ρ cs)
 |.tup cs=> .tup (q5y ρ cs)
 |.clo f cs=> .clo f (q5y ρ cs)
 |.grd g a=> .grd g (q2f ρ a)
 |.v x=> .v x
 |.sl sz xs=> .sl sz xs
 |.el sz xs i off=> .el sz xs i off
 |.mp id=> .mp (ρ id)
 |.erb g=> .erb g
 |.bU=> .bU
def q5y(ρ:Nat->Nat):List AV->List AV
 |[]=>[]
 |a::r=>q2f ρ a::q5y ρ r
end
mutual
def ltA(n:Nat):AV->Bool
 |.ptr id _=>decide (id<n)
 |.apt id _ _ _=>decide (id<n)
 |.osl id _ _ _=>decide (id<n)
 |.bsl id _ _=>decide (id<n)
 |.agg cs=>ltL n cs
 |.tup cs=>ltL n cs
 |.clo _ cs=>ltL n cs
 |.grd _ a=>ltA n a
 |.v _=>true
 |.sl _ _=>true
 |.el _ _ _ _=>true
 |.mp id=>decide (id<n)
 |.erb _=>true
 |.bU=>true
def ltL(n:Nat):List AV->Bool
 |[]=>true
 |a::r=>ltA n a&&ltL n r
end
mutual
theorem zp2{ρ:Nat->Nat}:∀(a:AV),q0n a=true->q2f ρ a=a
 |.v _,_=>rfl
 |.sl ..,_=>rfl
 |.el ..,_=>rfl
 |.ptr ..,h=>by simp[q0n]at h
 |.apt ..,h=>by simp[q0n]at h
 |.osl ..,h=>by simp[q0n]at h
 |.bsl ..,h=>by simp[q0n]at h
 |.mp _,h=>by simp[q0n]at h
 |.erb _,_=>rfl
 |.bU,_=>rfl
 |.agg cs,h=>by simp only[q0n]at h;simp only[q2f,q5j h]
 |.tup cs,h=>by simp only[q0n]at h;simp only[q2f,q5j h]
 |.clo f cs,h=>by simp only[q0n]at h;simp only[q2f,q5j h]
 |.grd g a,h=>by simp only[q0n]at h;simp only[q2f,zp2 a h]
theorem q5j{ρ:Nat->Nat}:∀{as:List AV},q0f as=true->q5y ρ as=as
 |[],_=>rfl
 |a::as,h=>by
  simp only[q0f,Xc]at h;simp only[q5y,zp2 a h.1,q5j h.2]
end
mutual
theorem zz5{n:Nat}:∀(a:AV),q0n a=true->ltA n a=true
 |.v _,_=>rfl
 |.sl ..,_=>rfl
 |.el ..,_=>rfl
 |.ptr ..,h=>by simp[q0n]at h
 |.apt ..,h=>by simp[q0n]at h
 |.osl ..,h=>by simp[q0n]at h
 |.bsl ..,h=>by simp[q0n]at h
 |.mp _,h=>by simp[q0n]at h
 |.erb _,_=>rfl
 |.bU,_=>rfl
 |.agg cs,h=>by simp only[q0n]at h;simp only[ltA,q6n h]
 |.tup cs,h=>by simp only[q0n]at h;simp only[ltA,q6n h]
 |.clo f cs,h=>by simp only[q0n]at h;simp only[ltA,q6n h]
 |.grd g a,h=>by simp only[q0n]at h;simp only[ltA,zz5 a h]
theorem q6n{n:Nat}:∀{as:List AV},q0f as=true->ltL n as=true
 |[],_=>rfl
 |a::as,h=>by
  simp only[q0f,Xc]at h;simp only[ltL,zz5 a h.1,q6n h.2,Bool.and_self]
end
section
variable {w:World} {β β1:aF} {nx n:Nat} {ow:Nat->Prop} {ρ:Nat->Nat}
theorem qk5{sz b:Nat}{xs:List (List AV)}{o:Nat}(h:q0p w β ow sz b xs o):q0p w β1 ow sz b xs o:=q29 (b9.refl w ow) sz b (λ_ _ a=>a) xs o h
mutual
theorem j2e(hb:∀id,id<n->β1 id=β (ρ id)):∀(a:AV) (u:Value),ltA n a=true->rep w β nx ow (q2f ρ a) u->rep w β1 n ow a u
 |.v x,u,_,h=>by simpa only[q2f,rep]using h
 |.ptr id off,u,c,h=>by
  simp only[ltA,decide_eq_true_eq]at c;simp only[q2f,rep]at h⊢;obtain⟨_,b,C,d,e⟩:=h;exact⟨c,b,C,(hb id c).trans d,e⟩
 |.apt id sz i off,u,c,h=>by
  simp only[ltA,decide_eq_true_eq]at c;simp only[q2f,rep]at h⊢;obtain⟨_,b,C,d,e⟩:=h;exact⟨c,b,C,(hb id c).trans d,e⟩
 |.bsl id off len,u,c,h=>by
  simp only[ltA,decide_eq_true_eq]at c;simp only[q2f,rep]at h⊢;rw[hb id c];exact⟨c,h.2⟩
 |.osl id sz off len,u,c,h=>by
  simp only[ltA,decide_eq_true_eq]at c;simp only[q2f,rep]at h⊢;rw[hb id c];exact⟨c,h.2⟩
 |.mp id,u,c,h=>by
  simp only[ltA,decide_eq_true_eq]at c;simp only[q2f,rep]at h⊢;obtain⟨_,b,C,d,e⟩:=h;exact⟨c,b,C,(hb id c).trans d,e⟩
 |.erb g,u,_,h=>by simpa only[q2f,rep]using h
 |.bU,u,_,_=>by simp only[rep]
 |.sl sz xs,u,_,h=>by
  simp only[q2f,rep]at h⊢;rcases h with h|⟨b,o,cap,d,e,j,k,m⟩
  . exact .inl h
  exact .inr ⟨b,o,cap,d,e,j,k,qk5 m⟩
 |.el sz xs i off,u,_,h=>by
  simp only[q2f,rep]at h⊢;obtain⟨b,o,d,j,k,m⟩:=h;exact⟨b,o,d,j,k,qk5 m⟩
 |.agg cs,u,c,h=>by
  simp only[ltA]at c;simp only[q2f,rep]at h⊢;obtain⟨l,d,e⟩:=h;exact⟨l,d,qv2 hb cs l c e⟩
 |.tup cs,u,c,h=>by
  simp only[ltA]at c;simp only[q2f,rep]at h⊢;obtain⟨l,d,e⟩:=h;exact⟨l,d,qv2 hb cs l c e⟩
 |.clo f cs,u,c,h=>by
  simp only[ltA]at c;simp only[q2f,rep]at h⊢;obtain⟨l,d,e⟩:=h;exact⟨l,d,qv2 hb cs l c e⟩
 |.grd g a,u,c,h=>by
  simp only[ltA]at c;simp only[q2f,rep]at h⊢;exact⟨λp=>j2e hb a u c (h.1 p),h.2⟩
theorem qv2(hb:∀id,id<n->β1 id=β (ρ id)):∀(as:List AV) (us:List Value),ltL n as=true->y8 w β nx ow (q5y ρ as) us->y8 w β1 n ow as us
 |[],[],_,_=>by simp only[y8]
 |a::as,u::us,c,h=>by
  simp only[ltL,Xc]at c;simp only[q5y,y8]at h⊢;exact⟨j2e hb a u c.1 h.1,qv2 hb as us c.2 h.2⟩
 |[],u::us,_,h=>by simp only[q5y,y8]at h
 |a::as,[],_,h=>by simp only[q5y,y8]at h
end
mutual
theorem zb2(hb:∀id,id<n->β (ρ id)=β1 id)(e:∀id,id<n->ρ id<nx):∀(a:AV) (u:Value),rep w β1 n ow a u->rep w β nx ow (q2f ρ a) u
 |.v x,u,h=>by simpa only[q2f,rep]using h
 |.ptr id off,u,h=>by
  simp only[q2f,rep]at h⊢;obtain⟨j,b,C,c,d⟩:=h;exact⟨e id j,b,C,(hb id j).trans c,d⟩
 |.apt id sz i off,u,h=>by
  simp only[q2f,rep]at h⊢;obtain⟨j,b,C,c,d⟩:=h;exact⟨e id j,b,C,(hb id j).trans c,d⟩
 |.bsl id off len,u,h=>by
  simp only[q2f,rep]at h⊢;rw[hb id h.1];exact⟨e id h.1,h.2⟩
 |.osl id sz off len,u,h=>by
  simp only[q2f,rep]at h⊢;rw[hb id h.1];exact⟨e id h.1,h.2⟩
 |.mp id,u,h=>by
  simp only[q2f,rep]at h⊢;obtain⟨j,b,C,c,d⟩:=h;exact⟨e id j,b,C,(hb id j).trans c,d⟩
 |.erb g,u,h=>by simpa only[q2f,rep]using h
 |.bU,u,_=>by simp only[q2f,rep]
 |.sl sz xs,u,h=>by
  simp only[q2f,rep]at h⊢;rcases h with h|⟨b,o,cap,c,d,k,m,p⟩
  . exact .inl h
  exact .inr ⟨b,o,cap,c,d,k,m,qk5 p⟩
 |.el sz xs i off,u,h=>by
  simp only[q2f,rep]at h⊢;obtain⟨b,o,c,k,m,p⟩:=h;exact⟨b,o,c,k,m,qk5 p⟩
 |.agg cs,u,h=>by
  simp only[q2f,rep]at h⊢;obtain⟨l,c,d⟩:=h;exact⟨l,c,qw5 hb e cs l d⟩
 |.tup cs,u,h=>by
  simp only[q2f,rep]at h⊢;obtain⟨l,c,d⟩:=h;exact⟨l,c,qw5 hb e cs l d⟩
 |.clo f cs,u,h=>by
  simp only[q2f,rep]at h⊢;obtain⟨l,c,d⟩:=h;exact⟨l,c,qw5 hb e cs l d⟩
 |.grd g a,u,h=>by
  simp only[q2f,rep]at h⊢;exact⟨λq=>zb2 hb e a u (h.1 q),h.2⟩
theorem qw5(hb:∀id,id<n->β (ρ id)=β1 id)(e:∀id,id<n->ρ id<nx):∀(as:List AV) (us:List Value),y8 w β1 n ow as us->y8 w β nx ow (q5y ρ as) us
 |[],[],_=>by simp only[q5y,y8]
 |a::as,u::us,h=>by
  simp only[q5y,y8]at h⊢;exact⟨zb2 hb e a u h.1,qw5 hb e as us h.2⟩
 |[],u::us,h=>by simp only[y8]at h
 |a::as,[],h=>by simp only[y8]at h
end
def zk6(ρ:Nat->Nat):bT->bT
 |.box cs=> .box (q5y ρ cs)
 |.arr sz xs=> .arr sz xs
 |.con K a=> .con K (q5y ρ a)
def ltO(n:Nat):bT->Bool
 |.box cs=>ltL n cs
 |.arr _ _=>true
 |.con _ a=>ltL n a
theorem dQ{o:bT}:qb2 (zk6 ρ o)=qb2 o:=by cases o<;>rfl
def q94(ρ:Nat->Nat):Hp->Hp
 |[]=>[]
 |p::r=>(ρ p.1,zk6 ρ p.2)::q94 ρ r
def ltH(n:Nat):Hp->Bool
 |[]=>true
 |p::r=>decide (p.1<n)&&ltO n p.2&&ltH n r
theorem q1u{hp:Hp}{q:Nat×bT}:q∈q94 ρ hp↔∃p∈hp,q=(ρ p.1,zk6 ρ p.2):=by
 induction hp with
 |nil=>simp[q94]
 |cons p r a=>simp only[q94,Xf,a,exists_eq_or_imp]
theorem jj8{hp:Hp}(h:ltH n hp=true):∀p∈hp,p.1<n/\ltO n p.2=true:=by
 induction hp with
 |nil=>intro p hp;cases hp
 |cons q r a=>
  simp only[ltH,Xc,decide_eq_true_eq]at h;intro p hp;rcases Xf.1 hp with rfl|hp
  . exact h.1
  exact a h.2 p hp
theorem j3y(hb:∀id,id<n->β1 id=β (ρ id)){id:Nat}(hi:β1.inn id=β.inn (ρ id))(hid:id<n){o:bT}(g:ltO n o=true)(h:q5u w β nx ow (ρ id) (zk6 ρ o)):q5u w β1 n ow id o:=by
 cases o with
 |box cs=>
  obtain⟨b,C,cur,e,a,c,d⟩:=h;exact⟨b,C,cur,e,(hb id hid).trans a,c,qv2 hb _ _ g d⟩
 |arr sz xs=>
  rcases h with⟨a,c⟩|⟨b,C,cur,e,a,c,d,f,j,k⟩
  . exact .inl ⟨(hb id hid).trans a,c⟩
  exact .inr ⟨b,C,cur,e,(hb id hid).trans a,c,d,f,j,qk5 k⟩
 |con K l=>
  rcases h with⟨b,C,us,a,c,d,f⟩|⟨a,c,d⟩
  . exact .inl ⟨b,C,us,(hb id hid).trans a,c,by rw[hi];exact d,qv2 hb _ _ g f⟩
  exact .inr ⟨(hb id hid).trans a,c,by cases l with|nil=>rfl|cons x r=>simp[q5y]at d⟩
theorem j1s(hb:∀id,id<n->β (ρ id)=β1 id)(g:∀id,id<n->ρ id<nx){id:Nat}(hi:β.inn (ρ id)=β1.inn id)(hid:id<n){o:bT}(h:q5u w β1 n ow id o):q5u w β nx ow (ρ id) (zk6 ρ o):=by
 cases o with
 |box cs=>
  obtain⟨b,C,cur,e,a,c,d⟩:=h;exact⟨b,C,cur,e,(hb id hid).trans a,c,qw5 hb g _ _ d⟩
 |arr sz xs=>
  rcases h with⟨a,c⟩|⟨b,C,cur,e,a,c,d,f,j,k⟩
  . exact .inl ⟨(hb id hid).trans a,c⟩
  exact .inr ⟨b,C,cur,e,(hb id hid).trans a,c,d,f,j,qk5 k⟩
 |con K l=>
  rcases h with⟨b,C,us,a,c,d,f⟩|⟨a,c,d⟩
  . exact .inl ⟨b,C,us,(hb id hid).trans a,c,by rw[hi];exact d,qw5 hb g _ _ f⟩
  subst d;exact .inr ⟨(hb id hid).trans a,c,by simp[q5y]⟩
end
def upR(ρ:Nat->Nat)(n nx:Nat)(i:Nat):Nat:=if i<n then ρ i else i-n+nx
open Classical in
theorem Spec.ren{P:Program}{f:FuncId}{args:List AV}{hp:Hp}{n:Nat}{Q:AV->Hp->Nat->Prop}(h:Spec P f args hp n Q)(ρ:Nat->Nat)(nx:Nat)(J:∀i,i<n->ρ i<nx)(E:∀i j,i<n->j<n->ρ i=ρ j->i=j)
 (ha:ltL n args=true)(hh:ltH n hp=true):
 Spec P f (q5y ρ args) (q94 ρ hp) nx (λr' hp' nx'=>∃r I n1,Q r I n1/\r'=q2f (upR ρ n nx) r/\hp'=q94 (upR ρ n nx) I/\nx'=n1-n+nx):=by
 intro w β A vs hA R G a6
 let M:aF:=⟨λi=>β (ρ i),λi=>β.inn (ρ i)⟩
 have X:∀id,id<n->M id=β (ρ id):=λ_ _=>rfl;have N:own M hp A=own β (q94 ρ hp) A:=by
  funext b
  apply propext
  constructor
  .
   rintro (S|⟨q,d,u⟩)
   . exact .inl S
   exact .inr ⟨_,q1u.2 ⟨q,d,rfl⟩,u⟩
  rintro (S|⟨q,d,u⟩)
  . exact .inl S
  obtain⟨p,hp',rfl⟩:=q1u.1 d;exact .inr ⟨p,hp',u⟩
 have s:=jj8 hh;have ao:∀(l:Hp),((q94 ρ l).map (·.1)).Nodup->(l.map (·.1)).Nodup:=by
  intro l
  induction l with
  |nil=>intro _;simp
  |cons p r ih=>
   intro T;simp only[q94,Xt,Ym]at T⊢;refine⟨λY=>T.1 ?_,ih T.2⟩;obtain⟨q,d,H⟩:=Xn.1 Y;exact Xn.2 ⟨_,q1u.2 ⟨q,d,rfl⟩,by simp only[H]⟩
 have ar:b8 w M n A hp:=by
  refine⟨λp hp'=>?_,λp hp'=>(s p hp').1,ao _ G.nd,λp hp' q d b c c' I C=>?_,λp hp' b c I=>?_,λp hp' u=>?_,λp hp' b hb=>?_⟩
  . rw[N];exact j3y X rfl (s p hp').1 (s p hp').2 (G.obj _ (q1u.2 ⟨p,hp',rfl⟩))
  . have:=G.inj _ (q1u.2 ⟨p,hp',rfl⟩) _ (q1u.2 ⟨q,d,rfl⟩) b c c' I C;exact E _ _ (s p hp').1 (s q d).1 this
  . exact G.av _ (q1u.2 ⟨p,hp',rfl⟩) b c I
  . exact G.i0 _ (q1u.2 ⟨p,hp',rfl⟩) (dQ.trans u)
  obtain⟨i1,i2,i3,i4⟩:=G.ib _ (q1u.2 ⟨p,hp',rfl⟩) b hb;exact⟨i1,i2,λq d=>i3 _ (q1u.2 ⟨q,d,rfl⟩),λq d b0=>E _ _ (s q d).1 (s p hp').1 (i4 _ (q1u.2 ⟨q,d,rfl⟩) b0)⟩
 refine (h w M A vs hA (by rw[N];exact qv2 X _ _ ha R) ar (a6.sub λb ⟨q,d,hb⟩=>⟨_,q1u.2 ⟨q,d,rfl⟩,hb⟩)).mono ?_;rintro e w' ⟨v,r,I,n1,t,rfl,d,b1,g,k⟩
 let m:=upR ρ n nx
 let β':aF:=⟨λj=>if j<nx then β j else t (j-nx+n),λj=>if W:∃i,i<n/\ρ i=j then t.inn W.choose else if j<nx then β.inn j else t.inn (j-nx+n)⟩
 have b6:=k.nx;have D:∀id,id<n1->β' (m id)=t id:=λid hid=>by
  simp only[β',m,upR]
  by_cases o:id<n
  . rw[if_pos o,if_pos (J id o)];exact (k.gh id o).symm
  rw[if_neg o,if_neg (by omega)]
  congr 1;omega
 have z:∀id,id<n1->β'.inn (m id)=t.inn id:=λid hid=>by
  by_cases o:id<n
  . have e:m id=ρ id:=if_pos o;have y:∃i,i<n/\ρ i=ρ id:=⟨id,o,rfl⟩;rw[e];exact (dif_pos y).trans (by rw[E _ _ y.choose_spec.1 o y.choose_spec.2])
  have e:m id=id-n+nx:=if_neg o;have y:¬∃i,i<n/\ρ i=id-n+nx:=λ⟨i,I,C⟩=>by have:=J i I;omega
  rw[e];exact (dif_neg y).trans ((if_neg (by omega)).trans (by congr 1;omega))
 have K:∀id,id<n1->∀b,bof β' (m id) b↔bof t id b:=λid hid b=>by unfold bof;rw[D id hid,z id hid]
 have U:∀id,id<n1->m id<n1-n+nx:=λid hid=>by
  simp only[m,upR]
  split
  . rename_i o;have:=J id o;omega
  omega
 have V:∀i j,i<n1->j<n1->m i=m j->i=j:=λi j hi W H=>by
  simp only[m,upR]at H
  split at H<;>split at H
  . rename_i a b;exact E i j a b H
  . rename_i a b;have:=J i a;omega
  . rename_i a b;have:=J j b;omega
  omega
 have L:own β' (q94 m I) A=own t I A:=by
  funext b
  apply propext
  constructor
  .
   rintro (S|⟨q,d,u⟩)
   . exact .inl S
   obtain⟨p,hp',rfl⟩:=q1u.1 d;exact .inr ⟨p,hp',(K p.1 (g.lt p hp') b).1 u⟩
  rintro (S|⟨q,d,u⟩)
  . exact .inl S
  exact .inr ⟨_,q1u.2 ⟨q,d,rfl⟩,(K q.1 (g.lt q d) b).2 u⟩
 have Z:∀(l:Hp),(∀p∈l,p.1<n1)->(l.map (·.1)).Nodup->((q94 m l).map (·.1)).Nodup:=by
  intro l
  induction l with
  |nil=>intro _ _;simp[q94]
  |cons p r ih=>
   intro hl T;simp only[q94,Xt,Ym]at T⊢;refine⟨λY=>T.1 ?_,ih (λq d=>hl q (by simp[d])) T.2⟩;obtain⟨q,d,H⟩:=Xn.1 Y;obtain⟨p',hp',rfl⟩:=q1u.1 d;exact Xn.2 ⟨p',hp',V _ _ (hl p' (by simp[hp'])) (hl p (by simp)) H⟩
 refine⟨v,_,_,_,β',rfl,⟨r,I,n1,d,rfl,rfl,rfl⟩,?_,?_,?_⟩
 . rw[L];exact zb2 D U _ _ b1
 .
  refine⟨λq d=>?_,λq d=>?_,Z _ g.lt g.nd,λp hp q d b c c' C h3=>?_,λq d b c C=>?_,λq d u=>?_,λq d b hb=>?_⟩
  . obtain⟨p,hp',rfl⟩:=q1u.1 d;rw[L];exact j1s D U (z _ (g.lt p hp')) (g.lt p hp') (g.obj p hp')
  . obtain⟨p,hp',rfl⟩:=q1u.1 d;exact U _ (g.lt p hp')
  . obtain⟨p',hp',rfl⟩:=q1u.1 hp;obtain⟨O,B,rfl⟩:=q1u.1 d;simp only at C h3⊢;rw[D _ (g.lt p' hp')]at C;rw[D _ (g.lt O B)]at h3;rw[g.inj p' hp' O B b c c' C h3]
  . obtain⟨p,hp',rfl⟩:=q1u.1 d;simp only at C;rw[D _ (g.lt p hp')]at C;exact g.av p hp' b c C
  . obtain⟨p,hp',rfl⟩:=q1u.1 d;exact (z _ (g.lt p hp')).trans (g.i0 p hp' (dQ.symm.trans u))
  obtain⟨p,hp',rfl⟩:=q1u.1 d;simp only at hb;rw[z _ (g.lt p hp')]at hb;obtain⟨i1,i2,i3,i4⟩:=g.ib p hp' b hb;refine⟨i1,i2,λq d c u=>?_,λq d u=>?_⟩
  . obtain⟨O,B,rfl⟩:=q1u.1 d;simp only at u;rw[D _ (g.lt O B)]at u;exact i3 O B c u
  obtain⟨O,B,rfl⟩:=q1u.1 d;simp only at u⊢;rw[z _ (g.lt O B)]at u;rw[i4 O B u]
 refine⟨by omega,λj W=>by simp only[β',if_pos W],λj W b2=>?_,λq d=>?_,λq d b C=>?_,k.os,k.tape,k.output,k.size,λb hb b3=>k.keep b hb ?_⟩
 .
  simp only[β']
  split
  .
   rename_i y
   rw[k.gi _ y.choose_spec.1 λY=>b2 (by
    obtain⟨p,hp',H⟩:=Xn.1 Y;exact Xn.2 ⟨_,q1u.2 ⟨p,hp',rfl⟩,by rw[H];exact y.choose_spec.2⟩)]
   show β.inn (ρ _)=_
   rw[y.choose_spec.2]
  first|rfl|rw[if_pos W]
 .
  obtain⟨p,hp',rfl⟩:=q1u.1 d;rcases k.ids p hp' with C|C
  . obtain⟨p0,hp0,H⟩:=Xn.1 C;refine .inl (Xn.2 ⟨_,q1u.2 ⟨p0,hp0,rfl⟩,?_⟩);have o:=(s p0 hp0).1;simp only[m,upR];rw[H]at o;rw[if_pos o,H]
  refine .inr ?_;simp only[m,upR];rw[if_neg (by omega)];omega
 .
  obtain⟨p,hp',rfl⟩:=q1u.1 d;rcases k.blk p hp' b ((K _ (g.lt p hp') b).1 C)with⟨q0,b4,b5⟩|h3
  . exact .inl ⟨_,q1u.2 ⟨q0,b4,rfl⟩,b5⟩
  exact .inr h3
 rintro⟨q,d,u⟩;exact b3 ⟨_,q1u.2 ⟨q,d,rfl⟩,u⟩
def j58(r:AV)(hp:Hp)(n:Nat)(a:AV)(hp':Hp)(b:Nat):Prop:=a=r/\hp'=hp/\b=n
def bu(P:Program)(f:FuncId)(args:List AV)(hp:Hp)(n:Nat)(r:AV)(hp':Hp)(a:Nat):Prop:=Spec P f args hp n (j58 r hp' a)
def ofL(l:List Nat)(i:Nat):Nat:=l.getD i 0
def dv:List Nat->Bool
 |[]=>true
 |x::r=>!(r.contains x)&&dv r
def z4m:List Nat->Hp->Hp
 |[],hp=>hp
 |i::r,hp=>z4m r (q4n hp i)
def j07:Hp->Hp->Prop
 |[],_=>True
 |p::r,hp=>q0i hp p.1=some p.2/\j07 r (q4n hp p.1)
theorem j40{hp:Hp}{id:Nat}(h:(hp.map (·.1)).Nodup):((q4n hp id).map (·.1)).Nodup:=h.sublist (ca.map _)
theorem zp6:∀{a hp:Hp},(hp.map (·.1)).Nodup->j07 a hp->hp.Perm (a++z4m (a.map (·.1)) hp)
 |[],hp,_,_=>by simp[z4m]
 |p::r,hp,b,h=>by
  have c:=(zp5 (o':=p.2) h.1 b).1;have d:=zp6 (j40 b) h.2;exact c.trans (by simpa [z4m]using d.cons (p.1,p.2))
theorem zg6:∀{l:List Nat},dv l=true->∀i j,i<l.length->j<l.length->l.getD i 0=l.getD j 0->i=j
 |[],_,i,j,hi,_,_=>by simp at hi
 |x::r,h,i,j,hi,b,a=>by
  simp only[dv,Xc,Yg]at h;have c:∀k,k<r.length->r.getD k 0≠x:=λk d e=>by
   have f:x∈r:=by
    rw[<-e,Xy,X3 d];exact Yk d
   have:=Y3.2 f;rw[this]at h;exact absurd h.1 (by simp)
  cases i with
  |zero=>cases j with
   |zero=>rfl
   |succ j=>
    simp only[Y6,Ys]at a;exact absurd a.symm (c j (by simpa using b))
  |succ i=>cases j with
   |zero=>
    simp only[Y6,Ys]at a;exact absurd a (c i (by simpa using hi))
   |succ j=>
    simp only[Ys]at a;rw[zg6 h.2 i j (by simpa using hi) (by simpa using b) a]
theorem q5t{P:Program}{s:St}{f:FuncId}{args a:List AV}{K:St->AV->Prop}{hp0 hp1 H:Hp}{n n1 N:Nat}{b R:AV}(l:List Nat)(h:bu P f a hp0 n b hp1 n1)(d:(s.hp.map (·.1)).Nodup)(e:args=q5y (ofL l) a)
 (g:j07 (q94 (ofL l) hp0) s.hp)(c:(decide (l.length=n)&&dv l&&(l.all λi=>decide (i<s.nx))&&ltL n a&&ltH n hp0)=true)
 (k:q2f (upR (ofL l) n s.nx) b=R)(m:q94 (upR (ofL l) n s.nx) hp1++z4m ((q94 (ofL l) hp0).map (·.1)) s.hp=H)(o:n1-n+s.nx=N)(p:K {s with hp:=H,nx:=N} R):q9r P s f args K:=by
 simp only[Xc,decide_eq_true_eq,Xe]at c;obtain⟨⟨⟨⟨k1,k2⟩,q⟩,t⟩,u⟩:=c;subst e k m o;refine z7g (zp6 d g) (Spec.ren h (ofL l) s.nx (λi hi=>?_) (λi j hi z w=>zg6 k2 i j (by omega) (by omega) w) t u) ?_
 . refine q _ ?_;unfold ofL;rw[Xy,X3 (by omega)];exact Yk _
 rintro A hp' nx' ⟨r,B,y,⟨rfl,rfl,rfl⟩,rfl,rfl,rfl⟩;exact p
theorem q27{s:St}{r b:AV}{hp':Hp}{a:Nat}(l:List (Option Nat))(h:Le s ⟨s.nb,[],hp',a,s.nt⟩ l/\bE (q72 s.nb l) s.hp (λj=>qb0 (q72 s.nb l) j hp') a r b):z2v s r (j58 b hp' a):=
 ⟨l,_,_,_,h.1,h.2,rfl,rfl,rfl⟩
theorem bu.pure{P:Program}{f:FuncId}{args:List AV}{r k:AV}{hp':Hp}{m:Nat}(h:bu P f args [] 0 r hp' m)(n:bE (λ_=>none) hp' (λ_=>True) 0 r k):be P f args 0 k:=by
 intro w β A vs q c d g;refine (h w β A vs q c d g).mono ?_;rintro e w' ⟨v,D,hp0,E,β',rfl,⟨s,t,u⟩,y,l,a⟩;subst s t u;refine⟨v,_,_,_,β,rfl,⟨rfl,rfl,rfl⟩,?_,b8.nil,?_⟩
 .
  refine q33 (β:=β') (β':=β) (nx':=0) (rn:=λ_=>none) (gone:=λ_=>True) (hp:=hp0) (A:=A) ?_ l (λid hid=>absurd hid (Ya _)) ?_ _ _ _ n y
  . refine⟨Xa _,λb hb _=>⟨rfl,?_⟩⟩;rw[z0g];exact λz=>hb (.inl z)
  intro j _ o B b C hb;rw[z0g];exact l.av _ B b C hb
 exact {nx:=Xa _,gh:=λ_ _=>rfl,gi:=λ_ _ _=>rfl,ids:=λp hp=>(by cases hp),blk:=λp hp=>(by cases hp),os:=a.os,tape:=a.tape,output:=a.output,size:=a.size,keep:=a.keep}
theorem qx4{P:Program}{nb:Nat}{hp:Hp}{nx:Nat}{f:FuncId}{args a:List AV}{c:Hp->Nat->AV->Prop}{hp0 hp1 H:Hp}{n n1 N:Nat}{d R:AV}(l:List Nat)(h:bu P f a hp0 n d hp1 n1)(e:args=q5y (ofL l) a)
 (g:j07 (q94 (ofL l) hp0) hp)(j:(decide (l.length=n)&&dv l&&(l.all λi=>decide (i<nx))&&ltL n a&&ltH n hp0)=true)
 (k:q2f (upR (ofL l) n nx) d=R)(m:q94 (upR (ofL l) n nx) hp1++z4m ((q94 (ofL l) hp0).map (·.1)) hp=H)(o:n1-n+nx=N)(p:c H N R):jf0 P nb hp nx f args c:=
 ⟨H,N,R,λs K' _ q t u b=>by subst q t;exact q5t l h u e g j k m o b,p⟩
mutual
def q7h:AV->Bool
 |.v _=>true
 |.agg cs=>z88 cs
 |.tup cs=>z88 cs
 |_=>false
def z88:List AV->Bool
 |[]=>true
 |a::r=>q7h a&&z88 r
end
mutual
theorem zo8{w w':World}{β β':aF}{nx nx':Nat}{ow ow':Nat->Prop}:∀(a:AV) (u:Value),q7h a=true->rep w β nx ow a u->rep w' β' nx' ow' a u
 |.v x,u,_,h=>by simpa only[rep]using h
 |.agg cs,u,hp,h=>by
  simp only[q7h]at hp;simp only[rep]at h⊢;obtain⟨l,b,c⟩:=h;exact⟨l,b,z6e cs l hp c⟩
 |.tup cs,u,hp,h=>by
  simp only[q7h]at hp;simp only[rep]at h⊢;obtain⟨l,b,c⟩:=h;exact⟨l,b,z6e cs l hp c⟩
 |.ptr ..,u,hp,_=>by simp[q7h]at hp
 |.apt ..,u,hp,_=>by simp[q7h]at hp
 |.sl ..,u,hp,_=>by simp[q7h]at hp
 |.osl ..,u,hp,_=>by simp[q7h]at hp
 |.bsl ..,u,hp,_=>by simp[q7h]at hp
 |.el ..,u,hp,_=>by simp[q7h]at hp
 |.clo ..,u,hp,_=>by simp[q7h]at hp
 |.grd ..,u,hp,_=>by simp[q7h]at hp
 |.mp _,u,hp,_=>by simp[q7h]at hp
 |.erb _,u,hp,_=>by simp[q7h]at hp
 |.bU,u,hp,_=>by simp[q7h]at hp
theorem z6e{w w':World}{β β':aF}{nx nx':Nat}{ow ow':Nat->Prop}:∀(as:List AV) (us:List Value),z88 as=true->y8 w β nx ow as us->y8 w' β' nx' ow' as us
 |[],[],_,_=>by simp only[y8]
 |a::as,u::us,hp,h=>by
  simp only[z88,Xc]at hp;simp only[y8]at h⊢;exact⟨zo8 a u hp.1 h.1,z6e as us hp.2 h.2⟩
 |[],u::us,_,h=>by simp only[y8]at h
 |a::as,[],_,h=>by simp only[y8]at h
end
theorem jf1{P:Program}{s s':St}{f:FuncId}{args args':List AV}{K:St->AV->Prop}{r:AV}{l:List (Option Nat)}(z:Le s s' l)(k:bE.AvLeL (q72 s.nb l) s.hp (λj=>qb0 (q72 s.nb l) j s'.hp) s'.nx args args')
 (h:be P f args' 0 r)(t:q0f args'=true)(B:q7h r=true)(D:K s r):q9r P s f args K:=by
 intro C a w β vs u c;obtain⟨β',g,E⟩:=qo9 u z;have G:y8 w β' s'.nx (own β' s'.hp C.A) args' vs:=by
  clear h t
  induction args generalizing args' vs with
  |nil=>cases args'<;>cases vs<;>simp only[bE.AvLeL,y8]at k c⊢
  |cons x xs H=>
   cases args' with
   |nil=>simp only[bE.AvLeL]at k
   |cons y ys=>
    cases vs with
    |nil=>simp only[y8]at c
    |cons v vs=>
     simp only[bE.AvLeL]at k;simp only[y8]at c⊢;exact⟨E _ _ _ k.1 c.1,H k.2 vs c.2⟩
 have m:own β' [] (own β' s'.hp C.A)=own β' s'.hp C.A:=z0g;have I:=h.up t s'.nx;refine (I w β' (own β' s'.hp C.A) vs ?_ (by rw[m];exact G) b8.nil ((g.gs.ext g.ext).sub λ_ ⟨_,n,_⟩=>by cases n)).mono ?_
 .
  rintro b (J|⟨q,n,L⟩)
  . exact g.alt b J
  exact g.hp.cC q n b L
 rintro e w' ⟨v,N,hp',nx',M,rfl,⟨rfl,rfl,rfl⟩,o,_,d⟩;have p:cK w w':=⟨d.os,d.tape,d.output,d.size,λb hb=>d.keep b hb λ⟨q,n,_⟩=>by cases n⟩;exact⟨v,_,s,β,rfl,u.still p,zo8 _ _ B o,D⟩
attribute [go_sem] q2f q5y zk6 q94 upR ofL z4m List.length_set Nat.reduceLT Nat.reduceGT Ya Nat.sub_zero
example:(if (2:Nat)<0 then (0:Nat)else 2-0+3)=5:=by simp only[go_sem]
example:(if (2:Nat)<3 then (0:Nat)else 2)=0:=by simp only[go_sem]
example:(if (2:Nat)<2 then (0:Nat)else 2)=2:=by simp only[go_sem]
example:(if (4:Nat)=2 then (0:Nat)else 2)=2:=by simp only[go_sem]
end
section
open Go Go.RowKit
def js6(K:St->AV->Prop)(s:St)(r:AV)(hp':Hp)(nx':Nat):Prop:=K {s with hp:=hp',nx:=nx'} r
theorem q1v{K:St->AV->Prop}{s:St}{r:AV}{hp':Hp}{nx':Nat}(h:K {s with hp:=hp',nx:=nx'} r):js6 K s r hp' nx':=h
theorem q5o{P:Program}{s:St}{f:FuncId}{fn:Func}{c:Code}{args:List AV}{K:St->AV->Prop}(d:P.funcs[f]?=some fn)(hb:fn.body=some c)(b:okB fn.ntmps c=true)
 (a:(decide (args.length<=fn.ntmps)&&!(fn.name=="runtime.NumGoroutine"))=true)(e:vc P c (z4t P fn.results.toList (js6 K s)) ⟨s.nx,qr6 args 0,s.hp,s.nx,fn.ntmps⟩):q9r P s f args K:=
 z7g (hp1:=s.hp) (hp2:=[]) (by simp) (Spec.eB d hb b a e) (λr hp' nx' h=>by
  rw[List.append_nil];exact h)
theorem q1f{s:St}{r:AV}{Q:AV->Hp->Nat->Prop}(l:List (Option Nat))(hp':Hp)(nx':Nat)(a:AV)(h:Le s ⟨s.nb,[],hp',nx',s.nt⟩ l/\bE (q72 s.nb l) s.hp (λj=>qb0 (q72 s.nb l) j hp') nx' r a)(b:Q a hp' nx'):z2v s r Q:=
 ⟨l,hp',nx',a,h.1,h.2,b⟩
theorem j19{α:Type}[Row α](l:List α)(k:Nat):TL (enc l) (enc (l.take k)):=by
 rw[<-z7a];exact jn3 _ _
theorem jn6{α:Type}[Row α](a b:List α)(k:Nat):TL (enc a++enc b) (enc ((a++b).take k)):=by rw[<-q2v];exact j19 _ _
theorem jn5{α:Type}[Row α](a b c:List α)(k:Nat):TL (enc a++enc b++enc c) (enc ((a++b++c).take k)):=by rw[<-q2v,<-q2v];exact j19 _ _
theorem qn2{α:Type}[Row α]{L:List α}{o k:Nat}{i:Int}{x:α}(h:idx ((L.drop o).take k) i=some x):0<=i/\i<(k:Int)/\o+i.toNat<L.length/\q3g (enc L) (o+i.toNat)=Row.row x:=by
 unfold idx at h
 split at h
 .
  rename_i c
  obtain⟨a,b⟩:=Yb.1 h;rw[X7,Ze]at a;refine⟨c,by omega,by omega,?_⟩;rw[List.getElem_take,List.getElem_drop]at b;have d:o+i.toNat<L.length:=by omega
  simp[q3g,enc,d,b]
 cases h
theorem qs6{α:Type}{f:α->AV}(pre post:List AV)(xs ys:List α)(n:Nat)(y:α)(h:n<xs.length)(a:ys=xs.mapIdx (λj c=>if n=j then y else c)):
 q4p (pre++(xs.map f++post)) (pre.length+n) [f y]=pre++(ys.map f++post):=by
 have e:ys=xs.set n y:=by
  rw[a];apply List.ext_getElem
  . simp
  intro j g k;simp only[List.getElem_mapIdx,List.getElem_set]
 rw[e];unfold q4p;rw[Zf,Y0 (by omega:pre.length<=pre.length+n),Ye,Yy,Yh (by simp;omega),List.nil_append];have b:pre.length+n+[f y].length-pre.length=n+1:=by simp;omega
 rw[b,X5 (by rw[Xw];omega),Yr (by rw[Xw];omega)];have d:(xs.set n y).map f=(xs.map f).take n++[f y]++(xs.map f).drop (n+1):=by
  rw[List.map_set,List.set_eq_take_append_cons_drop,if_pos (by rw[Xw];exact h)];simp
 rw[d];simp[Xz]
end
section
open Go
def cpL{α:Type}(cs ts:List α)(k m:Nat):List α:=cs.take k++(ts.take m).take (cs.length-k)++cs.drop (k+((ts.take m).take (cs.length-k)).length)
theorem jm3{α:Type}{cs ts:List α}{k m:Nat}(a:k<=cs.length):(cpL cs ts k m).length=cs.length:=by
 unfold cpL;simp only[Xs,X7,Ze];omega
theorem ju2{α:Type}(z:α){c0 l n c3:α}{ts:List α}{k m:Nat}(o:k<=4)(L:List α)(p:L=cpL [c0,l,n,c3] ts k m){w0 w1 w2 w3:α}(e:L.getD 0 z=w0)(f:L.getD 1 z=w1)(g:L.getD 2 z=w2)(j:L.getD 3 z=w3):[w0,w1,w2,w3]=L:=by
 have q:L.length=4:=by rw[p,jm3 (by simpa using o)];rfl
 match L,q with
 |[a,b,c,d],_=>simp at e f g j;rw[e,f,g,j]
theorem ju1{α:Type}{f:α->AV}(pre post b a:List AV)(cs ts d:List α)(k m:Nat)(e:k<=cs.length)(g:m<=ts.length)(j:d=cpL cs ts k m):
 q4p (pre++(cs.map f++post)) (pre.length+k) (Yl (cs.length-k) (List.map (λc=>[c]) (Yl m (List.drop b.length (b++(ts.map f++a)))))).flatten=pre++(d.map f++post):=by
 have n:List.drop b.length (b++(ts.map f++a))=ts.map f++a:=by rw[Yy,Yh (Xa _),Nat.sub_self];rfl
 have o:∀l:List AV,(l.map (λc=>[c])).flatten=l:=λl=>by induction l with
  |nil=>rfl
  |cons x l p=>simp only[Xt,List.flatten_cons,p];rfl
 rw[n,X5 (by simpa using g),<-Yu,o,<-Yu,<-Yu,j];unfold q4p cpL;rw[Zf,Y0 (by omega:pre.length<=pre.length+k),Ye,Yy,Yh (by simp;omega),List.nil_append];rw[X5 (by simpa using e)];have q:pre.length+k+(List.map f (Yl (cs.length-k) (Yl m ts))).length-pre.length=k+(Yl (cs.length-k) (Yl m ts)).length:=by rw[Xw];omega
 rw[q,Yr (by simp only[Xw,X7];omega)];simp only[List.map_append,Yu,List.map_drop,Xz]
theorem sM{P:Program}{a b:Code}{Q:Exit->St->Prop}{s s':St}(h:vc P b Q s')(c:cI a=false:=by kernel_rfl)(e:∀QQ:Exit->St->Prop,vc P a QQ s=QQ .normal s':=by (intro QQ;conv=>lhs;simp only[go_sem])):vc P (.seq a b) Q s:=sg (λQQ d=>(e QQ).symm▸q8 d h) c
end
section
open Go Go.RowKit
def zt7(w:World)(ow:Nat->Prop)(g:Option Nat)(a:AV)(u:Value):Prop:=
 ∃isz xs,a=.sl isz xs/\((g=none/\xs=[]/\u=.slice none 0 0)\/∃b c cap cur e,g=some b/\u=.slice (some ⟨b,0,none⟩) xs.length cap/\w.heap[b]?=some (.cells cur e (0,0))/\cur.size=c*isz/\xs.length<=cap/\cap<=c/\c<=maxLen/\q0p w noG ow isz b xs 0)
def j3l(w:World)(ow:Nat->Prop)(j:Nat)(g:Option Nat)(r:List AV)(us:List Value):Prop:=
 r.length=us.length/\∀(k:Nat) a u,r[k]?=some a->us[k]?=some u->u.oneCell'=true/\(k=j->zt7 w ow g a u)/\(k≠j->rep w noG 0 ow a u)
def atR(cs:List Value)(sz i:Nat):List Value:=(cs.drop (i*sz)).take sz
def k0u(sz j:Nat)(R:List (List AV))(hole:Option Nat)(w:World)(b C:Nat)(L:List Nat)(ow:Nat->Prop)(us:List Value):Prop:=
 ∃(cs:List Value) (e:TypeId) (gs:Nat->Option Nat),w.heap[b]?=some (.cells ⟨cs⟩ e (0,0))/\cs.length=C*sz/\R.length<=C/\C<=maxLen/\
  (∀i a g,gs i=some g->gs a=some g->i=a)/\(∀i g,gs i=some g->g∈L/\i<R.length)/\
  (∀i r,R[i]?=some r->hole≠some i->j3l w ow j (gs i) r (atR cs sz i))/\
  ((hole=none/\us=[])\/∃i,hole=some i/\i<R.length/\gs i=none/\atR cs sz i=us/\us.length=sz)
section
variable {w w':World} {ow ow':Nat->Prop} {β β':aF}
theorem qw6(b:b9 w w' ow ow'){a:AV}{u:Value}(h:rep w β 0 ow a u):rep w' β' 0 ow' a u:=q5i b 0 0 (Xa _) (λ_ hi=>absurd hi (Ya _)) a u h
theorem zh4(k:b9 w w' ow ow'){g:Option Nat}(j:∀b,g=some b->w'.heap[b]?=w.heap[b]?){a:AV}{u:Value}:zt7 w ow g a u->zt7 w' ow' g a u:=by
 rintro⟨isz,xs,rfl,h|⟨b,c,cap,cur,e,d,l,m,f⟩⟩
 . exact⟨isz,xs,rfl,.inl h⟩
 obtain⟨f,n,p,q,s⟩:=f;exact⟨isz,xs,rfl,.inr ⟨b,c,cap,cur,e,d,l,(j b d).trans m,f,n,p,q,q29 k isz b (λo u t=>(World.cell?_of_block (w:=w) (a:=⟨b,o,none⟩) (j b d)).trans t) xs 0 s⟩⟩
theorem zf1(d:b9 w w' ow ow'){g:Option Nat}(e:∀b,g=some b->w'.heap[b]?=w.heap[b]?){j:Nat}{r:List AV}{us:List Value}(h:j3l w ow j g r us):j3l w' ow' j g r us:=
 ⟨h.1,λk a u f l=>let ⟨m,n,o⟩:=h.2 k a u f l
  ⟨m,λc=>zh4 d e (n c),λc=>qw6 d (o c)⟩⟩
theorem j36{cs:List Value}{sz i k:Nat}:(atR cs sz i)[k]?=if k<sz then cs[i*sz+k]? else none:=by
 unfold atR;rw[Y8,List.getElem?_drop]
theorem j7l{cs:List Value}{sz i:Nat}:cs.take (i*sz)++atR cs sz i++cs.drop (i*sz+sz)=cs:=by
 unfold atR;rw[Xz,<-List.drop_drop,Y4,Y4]
theorem zy7{i a sz:Nat}(h:i<a):i*sz+sz<=a*sz:=by
 have:=Yq sz (show i+1<=a from h);rw[Nat.add_mul,Nat.one_mul]at this;exact this
theorem j7m{hd us a f:List Value}{sz i b:Nat}(j:hd.length=i*sz)(l:us.length=sz)(g:a.length=us.length)(c:b≠i):atR (hd++a++f) sz b=atR (hd++us++f) sz b:=by
 apply List.ext_getElem?;intro k;rw[j36,j36]
 split
 .
  rename_i m
  rcases Nat.lt_or_gt_of_ne c with d|e
  . have:=zy7 (sz:=sz) d;rw[Xz,Xz,Yc (by omega),Yc (by omega)]
  have:=zy7 (sz:=sz) e;rw[X9 (by simp only[Xs];omega),X9 (by simp only[Xs];omega)];simp only[Xs,g]
 rfl
theorem jb5{hd us a:List Value}{sz i:Nat}(b:hd.length=i*sz)(c:us.length=sz):atR (hd++us++a) sz i=us:=by
 unfold atR;rw[Xz,<-b,List.drop_left,<-c,List.take_left]
end
def j3p(sz j:Nat)(R:List (List AV))(hole:Option Nat):Con where
 k:=hole.map (· *sz)
 P:=k0u sz j R hole
 N:=R=[]/\hole=none
 mono:=λu I ⟨cs,e,gs,d,f,m,o,p,c,q,g⟩=>⟨cs,e,gs,(I _ (.inl rfl)).trans d,f,m,o,p,c,λi r y s=>zf1 u (λb hb=>I b (.inr (c i b hb).1)) (q i r y s),g⟩
 cells:=λ{w b C L ow us n} a ⟨cs,e,gs,d,f,m,o,p,c,q,g⟩=>by
  rcases g with⟨rfl,_⟩|⟨i,rfl,hi,_,rfl,t⟩
  . cases a
  simp only[Zg,Xd]at a;subst a;refine⟨cs.take (i*sz),cs.drop (i*sz+sz),e,?_,by rw[j7l];exact d⟩;have l:=Yq sz (show i+1<=C by omega);rw[X7,f];exact Nat.min_eq_left (Yq sz (by omega))
 wr:=λ{w w' b C L ow ow' us z hd K T n} a J ⟨cs,e,gs,d,f,m,o,p,c,q,g⟩ t l A B u=>by
  rcases g with⟨rfl,_⟩|⟨i,rfl,hi,D,M,E⟩
  . cases a
  simp only[Zg,Xd]at a;subst a;rw[d]at t;simp only[Xd,Obj.cells.injEq,Array.mk.injEq,and_true]at t;obtain⟨rfl,rfl⟩:=t;refine⟨hd++z++K,e,gs,A,by simp only[Xs]at f⊢;omega,m,o,p,c,λG r y s=>?_,.inr ⟨i,rfl,hi,D,jb5 J (by omega),by omega⟩⟩;have H:G≠i:=λe=>s (by rw[e]);rw[j7m J E l H];exact zf1 u (λb hb=>B b (c G b hb).1) (q G r y s)
theorem jr2{sz j:Nat}{R:List (List AV)}{i:Nat}:(j3p sz j R (some i)).k=some (i*sz):=rfl
theorem jj1{sz j:Nat}{R:List (List AV)}:(j3p sz j R none).k=none:=rfl
theorem j98{sz j:Nat}{R:List (List AV)}{h:Option Nat}:(j3p sz j R h).raw=false:=rfl
theorem jr3{sz j:Nat}{R:List (List AV)}{h:Option Nat}:(j3p sz j R h).N=(R=[]/\h=none):=rfl
theorem b8.re{w:World}{β β':aF}{nx nx':Nat}{A:Nat->Prop}{hp hp':Hp}(h:b8 w β nx A hp)(j:∀p∈hp',p.1<nx')(k:(hp'.map (·.1)).Nodup)
 (d:∀p∈hp',∀b,bof β' p.1 b->∃q∈hp,bof β q.1 b)(a:∀p∈hp',∀q∈hp',∀b,bof β' p.1 b->bof β' q.1 b->p.1=q.1)(l:∀p∈hp',∀b∈β'.inn p.1,∀C,β' p.1≠some (b,C))
 (m:∀p∈hp',qb2 p.2=false->β'.inn p.1=[])(e:∀p∈hp',q5u w β' nx' (own β' hp' A) p.1 p.2):b8 w β' nx' A hp' where
 obj:=e
 lt:=j
 nd:=k
 inj p hp q c b C o n s:=a p hp q c b (.inl ⟨C,n⟩) (.inl ⟨o,s⟩)
 av p hp b C n:=let ⟨q,c,hb⟩:=d p hp b (.inl ⟨C,n⟩)
  h.dM q c b hb
 i0:=m
 ib p hp b hb:=by
  obtain⟨q,c,f⟩:=d p hp b (.inr hb);refine⟨h.cC q c b f,h.dM q c b f,λq c C g=>?_,λq c g=>a q c p hp b (.inr g) (.inr hb)⟩;have:=a q c p hp b (.inl ⟨C,g⟩) (.inr hb);rw[this]at g;exact l p hp b hb C g
theorem zf4{w:World}{β:aF}{nx:Nat}{ow:Nat->Prop}:∀{as:List AV} {us:List Value},as.length=us.length->(∀(k:Nat) a u,as[k]?=some a->us[k]?=some u->rep w β nx ow a u)->y8 w β nx ow as us
 |[],[],_,_=>by simp only[y8]
 |a::as,u::us,b,h=>by
  simp only[y8];exact⟨h 0 a u rfl rfl,zf4 (by simpa using b) λk c d e f=>h (k+1) c d (by simpa using e) (by simpa using f)⟩
 |[],_::_,b,_=>by simp at b
 |_::_,[],b,_=>by simp at b
theorem j61{w:World}{β:aF}{nx:Nat}{ow:Nat->Prop}{as:List AV}{us:List Value}(h:y8 w β nx ow as us){k:Nat}{a:AV}{u:Value}(b:as[k]?=some a)(c:us[k]?=some u):rep w β nx ow a u:=by
 have:=qv3 h k (Yb.1 b).1;rw[Xy,Xy,b,c]at this;exact this
end
section
open Go Go.RowKit
section
variable {P:Program} {C:Ctx P} {s:St} {a:Act} {w:World} {β:aF}
theorem j95{β β':aF}{hp hp':Hp}{A:Nat->Prop}(hb:∀p∈hp',∀b,bof β' p.1 b->∃q∈hp,bof β q.1 b):∀b,own β' hp' A b->own β hp A b:=by
 rintro b (h|⟨p,hp,h⟩)
 . exact .inl h
 exact .inr (hb p hp b h)
theorem Rel.gm(h:Rel C s a w β){β':aF}{hp':Hp}{nx':Nat}(t:s.nx<=nx')(hb:∀id,id<s.nx->β' id=β id)(g:∀id,id<s.nx->id∉s.hp.map (·.1)->β'.inn id=β.inn id)(d:∀p∈hp',p.1∈s.hp.map (·.1)\/s.nx<=p.1)
 (j:∀p∈hp',p.1<nx')(k:(hp'.map (·.1)).Nodup)
 (c:∀p∈hp',∀b,bof β' p.1 b->∃q∈s.hp,bof β q.1 b)(e:∀p∈hp',∀q∈hp',∀b,bof β' p.1 b->bof β' q.1 b->p.1=q.1)(l:∀p∈hp',∀b∈β'.inn p.1,∀C,β' p.1≠some (b,C))
 (m:∀p∈hp',qb2 p.2=false->β'.inn p.1=[])(f:b9 w w (own β s.hp C.A) (own β' hp' C.A)->∀p∈hp',q5u w β' nx' (own β' hp' C.A) p.1 p.2):
 Rel C {s with hp:=hp',nx:=nx'} a w β':=by
 have u:b9 w w (own β s.hp C.A) (own β' hp' C.A):=⟨Xa _,λb n _=>⟨rfl,λy=>n (j95 c b y)⟩⟩;exact h.step t hb (Xa _) (λ_ _ _=>rfl) (λb _ ⟨p,hp,o⟩=>c p hp b o) (h.hp.re j k c e l m (f u)) d rfl rfl ⟨rfl,λ_=>Xa _⟩ g
end
end
section
open Go Go.RowKit
section
variable {P:Program} {C:Ctx P} {s:St} {a:Act} {w:World} {β:aF}
theorem z9f{hp:Hp}{i j:Nat}{o o':bT}(h:q0i hp i=some o)(c:q0i hp j=some o')(hd:qb2 o=true)(b:qb2 o'=false):i≠j:=λe=>by
 subst e;rw[h]at c;cases c;rw[hd]at b;cases b
end
end
section
open Go Go.RowKit
section
variable {P:Program} {C:Ctx P} {s:St} {a:Act} {w:World} {β:aF}
theorem Rel.one(h:Rel C s a w β){id:Nat}{o o':bT}{L:List Nat}(T:q0i s.hp id=some o)(R:∀b∈L,b∈β.inn id)(z:qb2 o'=false->L=[])
 (U:∀(β':aF) (ow':Nat->Prop),b9 w w (own β s.hp C.A) ow'->(∀x,β' x=β x)->β'.inn id=L->(∀b∈β.inn id,b∉L->¬ow' b/\b<w.heap.size)->q5u w β' s.nx ow' id o'):
 ∃β',Rel C {s with hp:=q0t s.hp id o'} a w β':=by
 have B:=q0k T
 let β':aF:=⟨β.f,λx=>if x=id then L else β.inn x⟩
 have g:β'.inn id=L:=by simp[β']
 have j:∀x,x≠id->β'.inn x=β.inn x:=λx k=>by simp[β',k]
 have t:∀p∈q0t s.hp id o',p=(id,o')\/(p∈s.hp/\p.1≠id):=λp hp=>qn1 h.hp.nd hp;have y:∀x u,bof β' x u->bof β x u:=λx u c=>by
  rcases c with⟨G,z⟩|c
  . exact .inl ⟨G,z⟩
  by_cases k:x=id
  . subst k;rw[g]at c;exact .inr (R u c)
  rw[j x k]at c;exact .inr c
 have d:∀p∈q0t s.hp id o',∃q∈s.hp,q.1=p.1:=λp hp=>by
  rcases t p hp with rfl|⟨hp,_⟩
  . exact⟨_,B,rfl⟩
  exact⟨p,hp,rfl⟩
 have H:∀p∈q0t s.hp id o',∀q∈q0t s.hp id o',∀b,bof β' p.1 b->bof β' q.1 b->p.1=q.1:=by
  intro p hp q n u c D;obtain⟨V,hp',l⟩:=d p hp;obtain⟨K,E,I⟩:=d q n;have:=h.hp.bD V hp' K E u (by rw[l];exact y _ _ c) (by rw[I];exact y _ _ D);rw[<-l,<-I];exact this
 refine⟨β',h.gm (Xa _) (λ_ _=>rfl) (λx k M=>j x λe=>M (by rw[e];exact Y7 B)) ?_ ?_ (by rw[qb1];exact h.hp.nd) ?_ H ?_ ?_ ?_⟩
 . intro p hp;obtain⟨q,n,l⟩:=d p hp;exact .inl (l▸Y7 n)
 . intro p hp;obtain⟨q,n,l⟩:=d p hp;exact l▸h.hp.lt q n
 . intro p hp u c;obtain⟨q,n,l⟩:=d p hp;exact⟨q,n,by rw[l];exact y _ _ c⟩
 .
  intro p hp u c G z;obtain⟨q,n,l⟩:=d p hp;have z:β p.1=some (u,G):=z;have D:u∈β.inn q.1:=by
   by_cases k:p.1=id
   . rw[k,g]at c;rw[l,k];exact R _ c
   rw[j _ k]at c;rw[l];exact c
  rw[<-l]at z;exact (h.hp.ib q n u D).2.2.1 q n G z
 .
  intro p hp J;rcases t p hp with rfl|⟨hp,k⟩
  . rw[g];exact z J
  rw[j _ k];exact h.hp.i0 p hp J
 intro S p hp;rcases t p hp with rfl|⟨hp,k⟩
 .
  refine U β' _ S (λ_=>rfl) g λb hb N=>⟨?_,(h.hp.ib _ B b hb).1⟩;rintro (k|⟨q,n,m⟩)
  . exact (h.hp.ib _ B b hb).2.1 k
  obtain⟨K,E,l⟩:=d q n;have O:=h.hp.bD _ B K E b (.inr hb) (by rw[l];exact y _ _ m);simp only at O;rw[l]at O;rw[<-O]at m;rcases m with⟨G,Q⟩|m
  . exact (h.hp.ib _ B b hb).2.2.1 _ B G Q
  rw[g]at m;exact N m
 exact q48 (β:=β) (β':=β') S (Xa _) (λ_ _=>rfl) (h.hp.lt p hp) (λ_ _=>rfl) (λ_=>j _ k) (h.hp.obj p hp)
end
end
section
open Go Go.RowKit
section
variable {P:Program} {C:Ctx P} {s:St} {a:Act} {w:World} {β:aF}
end
section
variable {P:Program} {Q QQ:Exit->St->Prop} {s s':St} {a b c x y:Code} {i:Nat}
def zk4(P:Program)(Q:Exit->St->Prop)(b:Code):Exit->St->Prop:=q6x (wpV P b Q) Q
theorem sgW(h:∀QQ:Exit->St->Prop,Eqv QQ (zk4 P Q b)->wpV P a QQ s):wpV P (.seq a b) Q s:=λf C a w β l m j=>by
 simp only[okB,Xc]at f;refine wp_seq (h _ rfl f.1 C a w β l _ ?_);intro e s' n w' β' d g;have k:s'.nt=s.nt:=d.ntc.trans l.ntc.symm
 cases e<;>simp only[zk4,q6x]at g<;>simp only[Exit.then]
 . exact g (by rw[k];exact f.2) C n w' β' d m j
 . exact j _ _ _ _ _ d g
 exact j _ _ _ _ _ d g
theorem y7(d:Eqv QQ (zk4 P Q b))(h:wpV P b Q s):QQ .normal s:=by unfold Eqv at d;subst d;exact h
theorem qw3(d:Eqv QQ (zk4 P Q b))(h:Q (.exit i) s):QQ (.exit i) s:=by unfold Eqv at d;subst d;exact h
theorem qv0(d:Eqv QQ (zk4 P Q b))(h:Q .ret s):QQ .ret s:=by unfold Eqv at d;subst d;exact h
theorem wv(h:vc P c Q s):wpV P c Q s:=q8e c Q s h
theorem qk3(h:∀QQ:Exit->St->Prop,Eqv QQ (q9m i Q)->wpV P c QQ s):wpV P (.block i c) Q s:=λj C a w β l m g=>by
 refine wp_block (h _ rfl j C a w β l _ ?_);intro e s' n w' β' d f
 cases e<;>simp only[q9m]at f<;>simp only[Exit.inBlock]
 . exact g _ _ _ _ _ d f
 .
  split at f
  . rename_i k;rw[if_pos k];exact g _ _ _ _ _ d f
  rename_i k;rw[if_neg k];exact g _ _ _ _ _ d f
 exact g _ _ _ _ _ d f
theorem q4o{t:Operand}{b:Bool}(hb:y9 s.env t=.v (.bool b))(k:b=true->wpV P x Q s)(l:b=false->wpV P y Q s):wpV P (.cond t x y) Q s:=λd C a w β f g j=>by
 simp only[okB,Xc]at d;have:=f.ev t;rw[hb]at this;simp only[rep]at this;exact wp_cond_split this (λe=>k e d.1 C a w β f g j) (λe=>l e d.2 C a w β f g j)
theorem j2z{t:Operand}(d:y9 s.env t=.v (.bool true))(e:wpV P x Q s):wpV P (.cond t x y) Q s:=q4o d (λ_=>e) (λh=>by cases h)
theorem jm4{t:Operand}(d:y9 s.env t=.v (.bool false))(e:wpV P y Q s):wpV P (.cond t x y) Q s:=q4o d (λh=>by cases h) (λ_=>e)
theorem j0r{ι:Type}(S:ι->St)(I:ι->Prop)(h:∀QQ:Exit->St->Prop,Eqv QQ (q6x (λs'=>∃i l,Le s' (S i) l/\I i) Q)->wpV P x QQ s)(f:∀i,I i->wpV P y Q (S i)):wpV P (.seq x y) Q s:=
 sgW λ_ d=>by
  unfold Eqv at d;subst d;refine zu5 (h _ rfl) λe s' d=>?_
  cases e<;>simp only[q6x,zk4]at d⊢<;>first|exact d|skip
  obtain⟨i,l,g,hi⟩:=d;exact j7y g (f i hi)
theorem z98{ι:Type}(S:ι->St)(I:ι->Prop)(d:ι->Nat)(i0:ι)(l0:List (Option Nat))(f:Le s (S i0) l0)(g:I i0)
 (j:∀i,I i->∀QQ:Exit->St->Prop,Eqv QQ (q6x (λs'=>∃e k,Le s' (S e) k/\I e/\d e<d i) Q)->wpV P c QQ (S i)):wpV P (.loop c) Q s:=
 z9y S I d i0 l0 f g λi hi=>j i hi _ rfl
theorem reW(f:∀(C:Ctx P) a w β,Rel C s a w β->∃β',Rel C s' a w β')(h:wpV P c Q s')(g:s'.nt=s.nt:=by rfl):wpV P c Q s:=λd C a w β j k l=>
 let ⟨β',e⟩:=f C a w β j
 h (by rw[g];exact d) C a w β' e k l
def zs9(P:Program)(Q:Exit->St->Prop)(e:Exit)(s:St):Prop:=∃s',(∀(C:Ctx P) a w β,Rel C s a w β->∃β',Rel C s' a w β')/\Q e s'
theorem q8s(h:wpV P c (zs9 P Q) s):wpV P c Q s:=λd C a w β l m n=>h d C a w β l m λe s1 a1 w1 f g ⟨o,p,q⟩=>
 let ⟨j,k⟩:=p C a1 w1 f g
 n e o a1 w1 j k q
theorem q2q{e:Exit}(h:Q e s):zs9 P Q e s:=⟨s,λ_ _ _ β d=>⟨β,d⟩,h⟩
theorem q8h{e:Exit}(j:∀(C:Ctx P) a w β,Rel C s a w β->∃β',Rel C s' a w β')(h:zs9 P Q e s'):zs9 P Q e s:=
 let ⟨k,d,l⟩:=h
 ⟨k,λC a w β m=>let ⟨f,g⟩:=j C a w β m
  d C a w f g,l⟩
end
section
variable {P:Program} {C:Ctx P} {s:St} {a:Act} {w:World} {β:aF}
end
end
section
open Go Go.RowKit
section
variable {P:Program} {C:Ctx P} {s:St} {a:Act} {w:World} {β:aF}
theorem Rel.fO(h:Rel C s a w β){w':World}{β':aF}{hp':Hp}{nx':Nat}(J:s.nx<=nx')(hb:∀id,id<s.nx->β' id=β id)(y:∀id,id<s.nx->id∉s.hp.map (·.1)->β'.inn id=β.inn id)(l:∀p∈hp',p.1∈s.hp.map (·.1)\/s.nx<=p.1)
 (d:∀p∈hp',p.1<nx')(z:(hp'.map (·.1)).Nodup)(m:w.heap.size<=w'.heap.size)(H:∀b,b<w.heap.size->¬cn β s.hp b->w'.heap[b]?=w.heap[b]?)
 (f:∀p∈hp',∀b,bof β' p.1 b->b<w'.heap.size/\((∃q∈s.hp,bof β q.1 b)\/w.heap.size<=b))(g:∀p∈hp',∀q∈hp',∀b,bof β' p.1 b->bof β' q.1 b->p.1=q.1)(B:∀p∈hp',∀b∈β'.inn p.1,∀C,β' p.1≠some (b,C))
 (D:∀p∈hp',qb2 p.2=false->β'.inn p.1=[])(n:b9 w w' (own β s.hp C.A) (own β' hp' C.A)->∀p∈hp',q5u w' β' nx' (own β' hp' C.A) p.1 p.2)(K:w'.os=w.os)(L:w'.tape=w.tape)(o:w'.output=w.output/\(dkF=true->w.drawn<=w'.drawn)):
 Rel C {s with hp:=hp',nx:=nx'} a w' β':=by
 have I:∀b,b<w.heap.size->cn β' hp' b->cn β s.hp b:=λb d ⟨p,hp,hb⟩=>(f p hp b hb).2.elim id λe=>absurd d (Nat.not_lt.2 e);have M:b9 w w' (own β s.hp C.A) (own β' hp' C.A):=⟨m,λb j d=>⟨H b d (λe=>j (.inr e)),λe=>e.elim (λe=>j (.inl e)) λe=>j (.inr (I b d e))⟩⟩;have t:∀p∈hp',∀b,bof β' p.1 b->¬C.A b:=λp hp b hb e=>by
  rcases (f p hp b hb).2 with⟨q,k,E⟩|N
  . exact h.hp.dM q k b E e
  have:=h.alt b e;have:=h.ext.size;omega
 refine h.step J hb m H I ⟨n M,d,z,λp hp q k b c O G Q=>g p hp q k b (.inl ⟨c,G⟩) (.inl ⟨O,Q⟩),λp hp b c G=>t p hp b (.inl ⟨c,G⟩),D,λp hp b hb=>⟨(f p hp b (.inr hb)).1,t p hp b (.inr hb),λq k c u=>?_,λq k u=>g q k p hp b (.inr u) (.inr hb)⟩⟩ l K L o y;have:=g q k p hp b (.inl ⟨c,u⟩) (.inr hb);rw[this]at u;exact B p hp b hb c u
end
end
section
open Go Go.RowKit
section
variable {P:Program} {C:Ctx P} {s:St} {a:Act} {w:World} {β:aF}
end
attribute [go_sem] jr2 jj1 jr3 j98 j6y
end
section
open Go Go.RowKit
end
section
open Go Go.RowKit
class Ct{R:Type}(P:Program)(f:FuncId)(x:Option R)(args:outParam (List AV))(rv:outParam (R->AV)):Prop where
 ok:∀r,x=some r->be P f args 0 (rv r)
instance {R:Type}{P:Program}{f:FuncId}{x:Option R}{args:List AV}{a:R->AV}:CoeFun (Ct P f x args a) (λ_=>∀r,x=some r->be P f args 0 (a r)):=⟨λt=>t.ok⟩
section
variable {P:Program} {Q QQ:Exit->St->Prop} {s:St} {N:St->Prop} {a b c x y:Code} {i j:Nat} {R α:Type} {r:R}
theorem sgj(d:cI a=false)(h:∀QQ:Exit->St->Prop,Eqv QQ (z0b P Q b)->vc P a QQ s):vc P (.seq a b) Q s:=ze1 d h
theorem k0y(h:vc P (.seq a b) Q s):vc P (.seq a b) Q s:=h
theorem jy1{t:Operand}(h:vc P (.cond t x y) Q s):vc P (.cond t x y) Q s:=h
theorem k1a{ops:Array Oper}{d:Bool}(h:vc P (.region i ops d) Q s):vc P (.region i ops d) Q s:=h
theorem k0z(h:vc P .ret Q s):vc P .ret Q s:=h
theorem jx8(h:vc P .skip Q s):vc P .skip Q s:=h
theorem k1b{l}(h:vc P (.label l) Q s):vc P (.label l) Q s:=h
theorem gEx(h:vc P (.exit i) Q s):vc P (.exit i) Q s:=h
theorem gBl(h:vc P (.block i c) Q s):vc P (.block i c) Q s:=h
theorem jy2{f:FuncId}{args:List AV}{K:St->AV->Prop}(h:q9r P s f args K):q9r P s f args K:=h
theorem jx9{u:AV}{K:AV->Hp->Nat->Prop}(h:z2v s u K):z2v s u K:=h
theorem gQ{f:FuncId}{args:List AV}{n:Nat}{g:Bool}{K:AV->Prop}(h:exQ P f args n g K):exQ P f args n g K:=h
theorem bI{d:Prop}[Row α]{L:List α}{i:Int}{k:α->Option R}(F:d)(h:q9 (idx L i) k=some r):∃x,(d/\0<=i/\i<L.length/\q3g (enc L) i.toNat=Row.row x)/\k x=some r:=by
 obtain⟨x,e,h⟩:=z8 h;obtain⟨f,g,l⟩:=q8i e;exact⟨x,⟨F,f,g,l⟩,h⟩
theorem bG{d c:Prop}[Decidable c]{k:Option R}(F:d)(h:x9 c k=some r):(d/\c)/\k=some r:=by
 obtain⟨g,h⟩:=q07 h;exact⟨⟨F,g⟩,h⟩
theorem sB{b:Bool}{k1 k2:Option R}{t:Operand}{p q:Prop}(h:(if b=true then k1 else k2)=some r)(d:p->k1=some r->vc P x Q s)(e:q->k2=some r->vc P y Q s)
 (f:y9 s.env t=.v (.bool b):=by first|(simp only[go_sem];done)|(simp[go_sem];done)|(simp[go_sem];(first|grind|(simp_all;done)))|(simp only[go_sem];congr 2;(first|grind|(simp_all;done))))(g:(b=true)=p:=by (conv=>lhs;(try simp only[bool_to_prop])))(k:(b=false)=q:=by (conv=>lhs;(try simp only[bool_to_prop]))):vc P (.cond t x y) Q s:=
 qg3 f (λhb=>d (g▸hb) (q2r h hb)) (λhb=>e (k▸hb) (q2s h hb))
theorem q2b{f:FuncId}{args args':List AV}{K:St->AV->Prop}{x:Option α}{k:α->Option R}{d:α->AV}[t:Ct P f x args' d](h:q9 x k=some r)(next:∀v,k v=some r->K s (d v))
 (g:args=args':=by rfl)(l:q0f args'=true:=by rfl):q9r P s f args K:=by
 obtain⟨v,e,h⟩:=z8 h;exact q9s (t.ok v e) g l (next v h)
theorem ju4{f:FuncId}{args args':List AV}{nx:Nat}{g:Bool}{K:AV->Prop}{x:Option α}{k:α->Option R}{d:α->AV}[t:Ct P f x args' d](h:q9 x k=some r)(next:∀v,k v=some r->K (d v))
 (l:args=args':=by rfl)(m:q0f args'=true:=by rfl):exQ P f args nx g K:=by
 obtain⟨v,e,h⟩:=z8 h;exact bx (λ_=>t.ok v e) l m (next v h)
end
def j43:List Oper->Nat->List Nat->List Nat
 |[],_,acc=>acc
 |o::r,i,acc=>j43 r (i+1) (acc++[cQ acc i o.after.toList])
def mkK(a:List Nat):Nat->Nat
 |0=>0
 |k+1=>if ((a.getD k 0 &&& (2^k-1))==2^k-1)=true then mkK a k else k+1
theorem jy5{P:Program}{ops:Array Oper}{s:St}{K:St->Prop}{k:Nat}(h:vcQ P ops (ops.toList.take k) s λs'=>qe2 P ops (ops.toList.drop k) s' K)(b:mkK (j43 ops.toList 0 []) ops.size=k:=by (conv=>lhs;whnf))
 (c:P.follows .mixedOrders=true:=by kernel_rfl)(a:qs7 (j43 ops.toList 0 []) 0 ops.toList=true:=by kernel_rfl)(d:k<=ops.size:=by exact of_decide_eq_true (by kernel_rfl))(e:z94 (j43 ops.toList 0 []) ops.size k=true:=by kernel_rfl):z13 P ops s K:=
 p9 k _ c a d e h
theorem ctI{R:Type}{P:Program}{f:FuncId}{fn:Func}{c:Code}{args:List AV}{x:Option R}{d:R->AV}(g:P.funcs[f]?=some fn)(hb:fn.body=some c)(h:∀r,x=some r->vc P c (z4t P fn.results.toList (zj5 (d r) 0)) ⟨0,qr6 args 0,[],0,fn.ntmps⟩)(b:okB fn.ntmps c=true:=by kernel_rfl)(a:(decide (args.length<=fn.ntmps)&&!(fn.name=="runtime.NumGoroutine"))=true:=by kernel_rfl):Ct P f x args d:=⟨λr e=>Spec.eB g hb b a (h r e)⟩
theorem spI{R:Type}{r:R}{p:Prop}{b:Bool}{k1 k2:Option R}(h:(if b=true then k1 else k2)=some r)(a:b=true->k1=some r->p)(c:b=false->k2=some r->p):p:=by
 cases b
 . exact c rfl (q2s h rfl)
 exact a rfl (q2r h rfl)
theorem nxC{ι:Type}{s:St}{S:ι->St}{I:ι->Prop}(i:ι)(h:I i)(l:List (Option Nat))(b:Le s (S i) l):∃a c,Le s (S a) c/\I a:=⟨i,l,b,h⟩
theorem leA{p:Prop}(e:p:=by simp only[go_sem,Le]<;>(repeat' apply And.intro)<;>first|(with_reducible exact j19 _ _)|(with_reducible exact jn6 _ _ _)|(with_reducible exact jn5 _ _ _ _)|(exact z03 _ (by assumption))|((try with_reducible refine q03 ?_);first|rfl|assumption|omega|exact⟨_,rfl,Nat.le_refl _,rfl,rfl⟩|exact .inr ⟨_,_,rfl,rfl⟩|exact .inr ⟨_,_,_,rfl,rfl,rfl,by simp only[go_sem]⟩|(simp only[go_sem];done)|(simp[go_sem];done)|(simp[q1c,enc];done)|(simp[q1c,enc];omega)|(simp[enc,z0d,qv1,zf0,q71,j5o,j2a,jc4,j29];done)|(simp only[List.drop_zero,z7a,zd5,List.take_length];done)|(simp only[List.drop_zero,z7a,zd5,List.take_length,List.nil_append,q1c];done)|(exact⟨_,rfl,Nat.le_of_eq (q1c _).symm,j8e _⟩)|(simp[enc];rfl)|(simp[enc];rw[List.take_of_length_le (by simp)])|(simp only[List.length_take];omega))):p:=e
def pid(i:Nat):AV->List (Nat×Nat)
 |.ptr j _=>[(i,j)]
 |.apt j _ _ _=>[(i,j)]
 |.osl j _ _ _=>[(i,j)]
 |.bsl j _ _=>[(i,j)]
 |.mp j=>[(i,j)]
 |_=>[]
def inner:AV->List AV
 |.agg xs=>xs
 |.tup xs=>xs
 |.clo _ xs=>xs
 |_=>[]
mutual
def mA(a:AV):AV->List (Nat×Nat)
 |.ptr i _=>pid i a
 |.apt i _ _ _=>pid i a
 |.osl i _ _ _=>pid i a
 |.bsl i _ _=>pid i a
 |.mp i=>pid i a
 |.agg ys=>mL (inner a) ys
 |.tup ys=>mL (inner a) ys
 |_=>[]
def mL:List AV->List AV->List (Nat×Nat)
 |x::xs,y::ys=>mA x y++mL xs ys
 |_,_=>[]
end
def mE(env:List (Nat×AV)):List (Nat×AV)->List (Nat×Nat)
 |[]=>[]
 |(k,a)::r=>mA (q17 env k) a++mE env r
def mC:AV->AV->List (Nat×Nat)
 |.clo _ xs,.clo _ ys=>mL xs ys
 |_,_=>[]
def mCL:List AV->List AV->List (Nat×Nat)
 |x::xs,y::ys=>mC x y++mCL xs ys
 |_,_=>[]
def mF(env:List (Nat×AV)):List (Nat×AV)->List (Nat×Nat)
 |[]=>[]
 |(k,a)::r=>mC (q17 env k) a++mF env r
def lk:List (Nat×Nat)->Nat->Option Nat
 |[],_=>none
 |(a,b)::r,q=>if a=q then some b else lk r q
def mO:Option bT->bT->List (Nat×Nat)
 |some (.box as),.box a=>mL as a++mCL as a
 |_,_=>[]
def mJ(hp:Hp)(o:bT):Option Nat->List (Nat×Nat)
 |some j=>mO (q0i hp j) o
 |none=>[]
def mH(hp:Hp):Hp->List (Nat×Nat)->List (Nat×Nat)
 |[],a=>a
 |(i,o)::r,a=>mH hp r (a++mJ hp o (lk a i))
def slf:Nat->List (Nat×Nat)
 |0=>[]
 |n+1=>(n,n)::slf n
def zk9(a:List (Nat×Nat)):Nat->Nat->List (Option Nat)
 |0,_=>[]
 |n+1,q=>lk a q::zk9 a n (q+1)
def zm3(s:St)(nb nx:Nat)(hp:Hp)(a:List (Nat×Nat)):List (Option Nat):=zk9 (mH s.hp hp (mH s.hp hp (a++slf nb))) (nx-nb) nb
def zc7(s s':St):List (Option Nat):=zm3 s s'.nb s'.nx s'.hp (mE s.env s'.env++mF s.env s'.env)
theorem nxA{ι:Type}{s:St}{S:ι->St}{I:ι->Prop}{i:ι}{l:List (Option Nat)}(h:I i)(e:zc7 s (S i)=l:=by (conv=>lhs;simp only[go_sem,zc7,zm3,mE,mF,mC,mCL,mA,mL,pid,inner,lk,mO,mJ,mH,slf,zk9]))(b:Le s (S i) l:=by exact leA):∃a c,Le s (S a) c/\I a:=⟨i,l,b,h⟩
theorem nxB{ι:Type}{s:St}{S:ι->St}{I:ι->Prop}{b:ι->Nat}{m:Nat}{i:ι}{l:List (Option Nat)}(h:I i)(c:b i<m)(e:zc7 s (S i)=l:=by (conv=>lhs;simp only[go_sem,zc7,zm3,mE,mF,mC,mCL,mA,mL,pid,inner,lk,mO,mJ,mH,slf,zk9]))(d:Le s (S i) l:=by exact leA):∃a f,Le s (S a) f/\I a/\b a<m:=⟨i,l,d,h,c⟩
theorem rtA{s:St}{r b:AV}{hp':Hp}{a:Nat}{l:List (Option Nat)}(e:zm3 s s.nb a hp' (mA r b)=l:=by (conv=>lhs;simp only[go_sem,zc7,zm3,mE,mF,mC,mCL,mA,mL,pid,inner,lk,mO,mJ,mH,slf,zk9]))(h:Le s ⟨s.nb,[],hp',a,s.nt⟩ l/\bE (q72 s.nb l) s.hp (λj=>qb0 (q72 s.nb l) j hp') a r b:=by exact leA):z2v s r (j58 b hp' a):=q27 l h
theorem zt3{a R:Type}{P:Program}{Q:Exit->St->Prop}{s:St}{c:Code}{body:(a->Option R)->a->Option R}{v0:a}{r:R}(S:a->St)(h:q02 body rounds v0=some r)(l0:List (Option Nat))(g:Le s (S v0) l0)
 (step:∀m i,body (q02 body m) i=some r->∀QQ:Exit->St->Prop,Eqv QQ (q6x (λs'=>∃b d,Le s' (S b) d/\q02 body m b=some r) Q)->vc P c QQ (S i)):vc P (.loop c) Q s:=by
 refine j3e (z9y (ι:=Nat×a) (λp=>S p.2) (λp=>q02 body p.1 p.2=some r) (λp=>p.1) (rounds,v0) l0 g h ?_);rintro⟨n,i⟩ hi;obtain⟨m,rfl,j⟩:=qg4 hi;refine zu5 (q8e _ _ _ (step m i j _ rfl)) λe s' f=>?_
 cases e with
 |normal=>obtain⟨b,d,k,l⟩:=f;exact⟨(m,b),d,k,l,Xm m⟩
 |_=>exact f
def upS(s:St)(a:List Nat)(d:List (Nat×AV)×Hp)(nx:Nat):St:=⟨s.nb,a.map (λk=>(k,q17 s.env k))++d.1,d.2,nx,s.nt⟩
theorem q0e{a R:Type}{P:Program}{Q:Exit->St->Prop}{s:St}{c:Code}{body:(a->Option R)->a->Option R}{v0:a}{r:R}{S:a->St}{l0:List (Option Nat)}(h:q02 body rounds v0=some r)(e:List Nat)(d:a->List (Nat×AV)×Hp)(nx:Nat)
 (step:∀m i,body (q02 body m) i=some r->∀QQ:Exit->St->Prop,Eqv QQ (q6x (λs'=>∃b f,Le s' (S b) f/\q02 body m b=some r) Q)->vc P c QQ (S i))(j:∀x,upS s e (d x) nx=S x:=by (intro x;conv=>lhs;simp only[upS,q17,List.map_cons,List.map_nil,List.cons_append,List.nil_append,List.append_nil,reduceIte,if_true,if_false,Nat.reduceEqDiff]))(k:zc7 s (S v0)=l0:=by (conv=>lhs;simp only[go_sem,zc7,zm3,mE,mF,mC,mCL,mA,mL,pid,inner,lk,mO,mJ,mH,slf,zk9]))(g:Le s (S v0) l0:=by exact leA):vc P (.loop c) Q s:=zt3 S h l0 g step
theorem q3e{ι:Type}{P:Program}{Q:Exit->St->Prop}{s:St}{x y:Code}{S:ι->St}(I:ι->Prop)(a:List Nat)(d:ι->List (Nat×AV)×Hp)(nx:Nat)(h:∀QQ:Exit->St->Prop,Eqv QQ (q6x (λs'=>∃i l,Le s' (S i) l/\I i) Q)->vc P x QQ s)(b:∀i,I i->vc P y Q (S i))(e:∀x,upS s a (d x) nx=S x:=by (intro x;conv=>lhs;simp only[upS,q17,List.map_cons,List.map_nil,List.cons_append,List.nil_append,List.append_nil,reduceIte,if_true,if_false,Nat.reduceEqDiff]))(c:cI x=true:=by kernel_rfl):vc P (.seq x y) Q s:=z5f c (z4r S I h b)
theorem qo8{P:Program}{s:St}{f:FuncId}{args args':List AV}{K:St->AV->Prop}{r:AV}(h:be P f args' 0 r)(a:K s r)(b:bE.AvLeL (q72 s.nb []) s.hp (λj=>qb0 (q72 s.nb []) j []) s.nb args args':=by exact leA)(c:q0f args'=true:=by rfl)(d:q7h r=true:=by rfl):q9r P s f args K:=
 jf1 (s':=⟨s.nb,[],[],s.nb,s.nt⟩) (l:=[]) ⟨rfl,rfl,Xa _,trivial,trivial,trivial⟩ b h c d a
theorem ju5{R α:Type}{r:R}{P:Program}{s:St}{f:FuncId}{args args':List AV}{K:St->AV->Prop}{x:Option α}{k:α->Option R}{a:α->AV}[t:Ct P f x args' a](h:q9 x k=some r)(next:∀v,k v=some r->K s (a v))(b:bE.AvLeL (q72 s.nb []) s.hp (λj=>qb0 (q72 s.nb []) j []) s.nb args args':=by exact leA)(c:q0f args'=true:=by rfl)(d:∀v,q7h (a v)=true:=by intro v;rfl):q9r P s f args K:=by
 obtain⟨v,e,h⟩:=z8 h;exact qo8 (t.ok v e) (next v h) b c (d v)
theorem qe1{P:Program}{s s':St}{f:FuncId}{args:List AV}{K:St->AV->Prop}(a:List Nat)(d:List (Nat×AV)×Hp)(nx:Nat)(l:List (Option Nat))(as:List AV)(h:q9r P s' f as K)(e:upS s a d nx=s':=by (conv=>lhs;simp only[upS,q17,List.map_cons,List.map_nil,List.cons_append,List.nil_append,List.append_nil,reduceIte,if_true,if_false,Nat.reduceEqDiff]))(b:Le s s' l:=by exact leA)
 (c:bE.AvLeL (q72 s.nb l) s.hp (λj=>qb0 (q72 s.nb l) j s'.hp) s'.nx args as:=by exact leA):q9r P s f args K:=qr5 b c h
theorem q1l{P:Program}{s:St}{f:FuncId}{args a:List AV}{K:St->AV->Prop}{hp0 hp1 H:Hp}{n n1 N:Nat}{b R:AV}(l:List Nat)(h:bu P f a hp0 n b hp1 n1)(c:K {s with hp:=H,nx:=N} R)(d:(s.hp.map (·.1)).Nodup:=by simp)(e:args=q5y (ofL l) a:=by rfl)
 (g:j07 (q94 (ofL l) hp0) s.hp:=by repeat' (first|exact trivial|refine⟨rfl,?_⟩))(j:(decide (l.length=n)&&dv l&&(l.all λi=>decide (i<s.nx))&&ltL n a&&ltH n hp0)=true:=by rfl)
 (k:q2f (upR (ofL l) n s.nx) b=R:=by rfl)(m:q94 (upR (ofL l) n s.nx) hp1++z4m ((q94 (ofL l) hp0).map (·.1)) s.hp=H:=by rfl)(o:n1-n+s.nx=N:=by rfl):q9r P s f args K:=q5t l h d e g j k m o c
theorem dtI{P:Program}{f:FuncId}{fn:Func}{c:Code}{args:List AV}{hp hp':Hp}{n d:Nat}{r:AV}(e:P.funcs[f]?=some fn)(hb:fn.body=some c)(h:vc P c (z4t P fn.results.toList (j58 r hp' d)) ⟨n,qr6 args 0,hp,n,fn.ntmps⟩)(b:okB fn.ntmps c=true:=by kernel_rfl)(a:(decide (args.length<=fn.ntmps)&&!(fn.name=="runtime.NumGoroutine"))=true:=by kernel_rfl):bu P f args hp n r hp' d:=Spec.eB e hb b a h
theorem ptI{P:Program}{f:FuncId}{fn:Func}{c:Code}{args:List AV}{n:Nat}{r:AV}(d:P.funcs[f]?=some fn)(hb:fn.body=some c)(h:vc P c (z4t P fn.results.toList (zj5 r n)) ⟨n,qr6 args 0,[],n,fn.ntmps⟩)(b:okB fn.ntmps c=true:=by kernel_rfl)(a:(decide (args.length<=fn.ntmps)&&!(fn.name=="runtime.NumGoroutine"))=true:=by kernel_rfl):be P f args n r:=Spec.eB d hb b a h
theorem ctK{R:Type}{P:Program}{f:FuncId}{fn:Func}{c:Code}{args:List AV}{x d:Option R}{g:R->AV}(j:P.funcs[f]?=some fn)(hb:fn.body=some c)(e:x=d)(h:∀r,d=some r->True->vc P c (z4t P fn.results.toList (zj5 (g r) 0)) ⟨0,qr6 args 0,[],0,fn.ntmps⟩)(b:okB fn.ntmps c=true:=by kernel_rfl)(a:(decide (args.length<=fn.ntmps)&&!(fn.name=="runtime.NumGoroutine"))=true:=by kernel_rfl):Ct P f x args g:=ctI j hb (λr k=>h r (e▸k) trivial) b a
theorem jg{P:Program}{Q:Exit->St->Prop}{s:St}{a b:Code}(h:∀QQ:Exit->St->Prop,Eqv QQ (z0b P Q b)->vc P a QQ s)(c:cI a=true:=by kernel_rfl):vc P (.seq a b) Q s:=z5f c (ze7 h)
theorem k1w{P:Program}{Q:Exit->St->Prop}{s:St}{x y:Code}{t:Operand}(a:vc P x Q s)(b:y9 s.env t=.v (.bool true):=by simp only[go_sem];done):vc P (.cond t x y) Q s:=qa8 b a
theorem k1x{P:Program}{Q:Exit->St->Prop}{s:St}{x y:Code}{t:Operand}(a:vc P y Q s)(b:y9 s.env t=.v (.bool false):=by simp only[go_sem];done):vc P (.cond t x y) Q s:=z15 b a
theorem ai{p q:Prop}(k:q)(h:p:=by omega):p/\q:=⟨h,k⟩
theorem au{p:Prop}(e:p:=by
 repeat' (first
  |((with_reducible refine k0y ?_);first|refine sgj (Eq.refl false) (λ_ _=>?_)|(refine z5f (Eq.refl true) ?_;refine ze7 (λ_ _=>?_)))
  |((with_reducible refine k1a ?_);(try (refine q00 ?_;refine jy5 ?_));(repeat (first|(obtain⟨_,F,h⟩:=bI F h;try simp only[Int.toNat_natCast,Int.reduceToNat]at F)|obtain⟨F,h⟩:=bG F h));simp only[go_sem,F])
  |((with_reducible refine jy1 ?_);first|(refine qa8 ?_ ?_;· (simp only[go_sem];done))|(refine z15 ?_ ?_;· (simp only[go_sem];done))|refine sB h (λhb h=>?_) (λhb h=>?_))
  |((with_reducible refine k0z ?_);refine q04 ?_)
  |((with_reducible refine jx8 ?_);refine y5 ?_)
  |((with_reducible refine k1b ?_);refine j1n ?_)
  |((with_reducible refine gEx ?_);refine q0u ?_)
  |((with_reducible refine gBl ?_);refine w9 (λ_ _=>?_))
  |((with_reducible refine jx9 ?_);obtain rfl:=Option.some.inj h;first|(refine q5h rfl ?_;exact leA)|exact rtA)
  |refine q8 (by assumption) ?_
  |refine q08 (by assumption) ?_
  |refine q18 (by assumption) ?_
  |refine q12 (by assumption) ?_
  |refine q34 (by assumption) ?_
  |refine q1w (by assumption) ?_
  |refine q0m (by assumption) ?_
  |refine j0y (by assumption) (by decide) ?_
  |refine q0v (by assumption) ?_
  |(refine u6 (by assumption) ?_
    first
     |exact nxA h
     |exact nxA (i:=(_,_)) h
     |exact nxA (i:=(_,_,_)) h
     |exact nxA (i:=(_,_,_,_)) h
     |exact nxA (i:=(_,_,_,_,_)) h
     |exact nxA (i:=(_,_,_,_,_,_)) h
     |exact nxA (i:=(_,_,_,_,_,_,_)) h
     |exact nxA (i:=(_,_,_,_,_,_,_,_)) h
     |exact nxA (i:=()) h
     |exact nxB (i:=(_,_)) h (Nat.lt_succ_self _)
     |exact nxB (i:=(_,_,_)) h (Nat.lt_succ_self _)
     |exact nxB (i:=(_,_,_,_)) h (Nat.lt_succ_self _)
     |exact nxB (i:=(_,_,_,_,_)) h (Nat.lt_succ_self _)
     |exact nxB (i:=(_,_,_,_,_,_)) h (Nat.lt_succ_self _))
  |((with_reducible refine jy2 ?_);first|refine q2b h (λv h=>?_)|refine ju5 h (λv h=>?_))
  |((with_reducible refine gQ ?_);refine ju4 h (λv h=>?_))
  |((with_reducible refine And.intro ?_ ?_);· first|omega|assumption|(simp only[List.length_append,List.length_cons,List.length_nil,Nat.zero_add]<;>omega)|(simp+contextual only[and_self,implies_true,true_and,and_true,imp_self];done)|(intros;(repeat' apply And.intro)<;>first|assumption|omega)|(simp+contextual;done)|(intros;simp_all;done)|exact rfl)
  |((repeat (first|(obtain⟨_,F,h⟩:=bI F h;try simp only[Int.toNat_natCast,Int.reduceToNat]at F)|obtain⟨F,h⟩:=bG F h));simp only[go_sem,F])
  |(refine spI h (λhb h=>?_) (λhb h=>?_)<;>(replace F:=And.intro F hb;(repeat (first|(obtain⟨_,F,h⟩:=bI F h;try simp only[Int.toNat_natCast,Int.reduceToNat]at F)|obtain⟨F,h⟩:=bG F h));simp only[go_sem,F])))):p:=e
theorem au1{p:Prop}(e:p:=by
 intro r h;have F:=trivial;exact au):p:=e
end
section
open Go Go.RowKit
theorem Ok.each{α a R:Type}{l:List α}(n:l.length<9223372036854775807){body:(Int×a->Option R)->Int×a->Option R}(I:Nat->a->Prop){Q:R->Prop}{s0:a}(i0:Nat)
 (h:∀(rec:Int×a->Option R) (i:Nat) (_:i<l.length) s,i0<=i->I i s->(∀s',I (i+1) s'->Ok (rec (((i+1:Nat):Int),s')) Q)->Ok (body rec ((i:Int),s)) Q)
 (f:∀(rec:Int×a->Option R) s,I l.length s->Ok (body rec ((l.length:Int),s)) Q)(g:I i0 s0)(b:i0<=l.length):Ok (q02 body rounds ((i0:Int),s0)) Q:=by
 refine k2j (λs=>∃i:Nat,s.1=(i:Int)/\i0<=i/\i<=l.length/\I i s.2) (λs=>l.length-s.1.toNat) ?_ ⟨i0,rfl,Xa _,b,g⟩ (by simp only[rounds];omega);rintro rec ⟨_,s⟩ ⟨i,rfl,j,o,e⟩ k;rcases Xg i l.length with c|m
 . exact h rec i c s j e λs' d=>k _ ⟨i+1,rfl,by omega,by omega,d⟩ (by simp only[Yv];omega)
 obtain rfl:i=l.length:=by omega
 exact f rec s e
theorem k2l{α R:Type}{l:List α}(m:l.length<9223372036854775807){body:(Int->Option R)->Int->Option R}(I:Nat->Prop){Q:R->Prop}(i0:Nat)
 (h:∀(rec:Int->Option R) (i:Nat) (_:i<l.length),i0<=i->I i->(I (i+1)->Ok (rec ((i+1:Nat):Int)) Q)->Ok (body rec (i:Int)) Q)
 (e:∀(rec:Int->Option R),I l.length->Ok (body rec (l.length:Int)) Q)(f:I i0)(a:i0<=l.length):Ok (q02 body rounds (i0:Int)) Q:=by
 refine k2j (λs:Int=>∃i:Nat,s=(i:Int)/\i0<=i/\i<=l.length/\I i) (λs=>l.length-s.toNat) ?_ ⟨i0,rfl,Xa _,a,f⟩ (by simp only[rounds];omega);rintro rec _ ⟨i,rfl,g,n,d⟩ j;rcases Xg i l.length with b|k
 . exact h rec i b g d λc=>j _ ⟨i+1,rfl,by omega,by omega,c⟩ (by simp only[Yv];omega)
 obtain rfl:i=l.length:=by omega
 exact e rec d
theorem j0a{α β:Type}{f:α->List β}{l:List α}{i:Nat}(h:i<l.length):(l.take (i+1)).flatMap f=(l.take i).flatMap f++f l[i]:=by
 rw[X4 h,List.flatMap_append];simp
theorem qk4{α:Type}{P:α->Prop}{l:List α}{i:Nat}(h:i<l.length):(∀x∈l.take (i+1),P x)↔(∀x∈l.take i,P x)/\P l[i]:=by
 rw[X4 h]
 constructor
 . intro b;exact⟨λx a=>b x (Xp _ a),b _ (Xk _ (Yt.2 rfl))⟩
 rintro⟨b,c⟩ x a;rcases Xj.1 a with a|a
 . exact b x a
 simp only[Yt]at a;rw[a];exact c
end
section
open Go Go.RowKit
theorem j2f{w:World}{β:aF}{nx:Nat}{ow:Nat->Prop}:∀(l us:List Value),y8 w β nx ow (l.map AV.v) us->us=l
 |[],[],_=>rfl
 |a::l,u::us,h=>by
  simp only[Xt,y8,rep]at h;rw[h.1,j2f l us h.2]
 |[],u::us,h=>by simp only[List.map_nil,y8]at h
 |a::l,[],h=>by simp only[Xt,y8]at h
theorem j0h{P:Program}{f:FuncId}{fn:Func}{e:Array Value->Sem Value}(l:P.funcs[f]?=some fn)(a:(fn.name=="runtime.NumGoroutine")=false)(hb:fn.body.isNone=true)(m:Extern.findNext fn=none)(n:Extern.find fn=some e)
 {vs:List Value}{v:Value}{r:AV}(d:∀w,(e ⟨vs⟩).run P w=.ok v w)(o:∀w β nx ow,rep w β nx ow r v):be P f (vs.map AV.v) 0 r:=by
 intro w β A us s b j q;obtain rfl:=j2f vs us b;refine⟨λk=>?_,λ_=>⟨v,w,?_,v,_,_,_,β,rfl,⟨rfl,rfl,rfl⟩,o _ _ _ _,j,?_⟩⟩
 .
  unfold u7 at k;rw[l]at k
  cases g:fn.body with
  |none=>simp[g]at k
  |some c=>simp[g]at hb
 . rw[run_callFunc_extern l a hb m n,d];rfl
 exact {nx:=Xa _,gh:=λ_ _=>rfl,gi:=λ_ _ _=>rfl,ids:=λp hp=>(by cases hp),blk:=λp hp=>(by cases hp),os:=rfl,tape:=rfl,output:=⟨rfl,λ_=>Xa _⟩,size:=Xa _,keep:=λ_ _ _=>rfl}
def j17(x y c:Int):Option (Int×Int):=x9 (0<=x/\0<=y/\0<=c/\c<=1) (some ((x+y+c)%18446744073709551616,(x+y+c)/18446744073709551616))
theorem j54{P:Program}{f:FuncId}{fn:Func}(d:P.funcs[f]?=some fn)(a:(fn.name=="runtime.NumGoroutine")=false)(hb:fn.body.isNone=true)(e:Extern.findNext fn=none)(g:Extern.find fn=some add64Entry)
 {x y c:Int}{r:Int×Int}(h:j17 x y c=some r):be P f [.v (.int .u64 x),.v (.int .u64 y),.v (.int .u64 c)] 0 (.tup [.v (.int .u64 r.1),.v (.int .u64 r.2)]):=by
 obtain⟨b,h⟩:=q07 h;simp only[Xd]at h;subst h;refine j0h (vs:=[.int .u64 x,.int .u64 y,.int .u64 c]) d a hb e g (λw=>run_add64 x y c b.1 b.2.1 b.2.2.1 b.2.2.2 w) (λw β nx ow=>?_);simp only[rep];exact⟨_,rfl,by simp only[y8,rep];exact⟨trivial,trivial,trivial⟩⟩
def zv8:Array Value->Sem Value:=λargs=>do
 let (x,y,b) <-Extern.MathBitsCarry.three "Sub64" args
 pure (Extern.MathBitsCarry.pair ((x+Extern.MathBitsCarry.m64-y-b)%Extern.MathBitsCarry.m64) (if x<y+b then 1 else 0))
theorem j3j{P:Program}(x y b:Nat)(hb:b<=1)(w:World):
 (zv8 #[.int .u64 x,.int .u64 y,.int .u64 b]).run P w=
  .ok (.tuple #[.int .u64 (((x+18446744073709551616-y-b)%18446744073709551616:Nat):Int),.int .u64 ((if x<y+b then 1 else 0:Nat):Int)]) w:=by
 have:b=0\/b=1:=by omega
 rcases this with rfl|rfl<;>rfl
def zv9(x y b:Int):Option (Int×Int):=x9 (0<=x/\0<=y/\y<=18446744073709551615/\0<=b/\b<=1) (some ((x+18446744073709551616-y-b)%18446744073709551616,if x<y+b then 1 else 0))
theorem j3h{P:Program}{f:FuncId}{fn:Func}(b:P.funcs[f]?=some fn)(a:(fn.name=="runtime.NumGoroutine")=false)(hb:fn.body.isNone=true)(d:Extern.findNext fn=none)(e:Extern.find fn=some zv8)
 {x y c:Int}{r:Int×Int}(h:zv9 x y c=some r):be P f [.v (.int .u64 x),.v (.int .u64 y),.v (.int .u64 c)] 0 (.tup [.v (.int .u64 r.1),.v (.int .u64 r.2)]):=by
 obtain⟨⟨g,j,l,k,m⟩,h⟩:=q07 h;simp only[Xd]at h;subst h;obtain⟨x,rfl⟩:=Yf g;obtain⟨y,rfl⟩:=Yf j;obtain⟨c,rfl⟩:=Yf k;refine j0h (vs:=[.int .u64 x,.int .u64 y,.int .u64 c]) b a hb d e (λw=>j3j x y c (by omega) w) (λw β nx ow=>?_);simp only[rep];refine⟨_,rfl,?_⟩;simp only[y8,rep,and_true,Value.int.injEq,true_and];refine⟨by omega,?_⟩
 split<;>split<;>first|rfl|omega
end
section
open Go Go.RowKit
@[go_sem] theorem wl1:IntKind.i64.wrap 1=1:=by decide
@[go_sem] theorem wl2:IntKind.i64.wrap 2=2:=by decide
@[go_sem] theorem wl3:IntKind.i64.wrap 3=3:=by decide
@[go_sem] theorem wl4:IntKind.i64.wrap 4=4:=by decide
@[go_sem] theorem wl5:IntKind.i64.wrap 5=5:=by decide
@[go_sem] theorem wl6:IntKind.i64.wrap 6=6:=by decide
@[go_sem] theorem wl7:IntKind.i64.wrap 7=7:=by decide
@[go_sem] theorem wl8:IntKind.i64.wrap 8=8:=by decide
end
end Go.Proofs.YtdcdfkdhomekeaaGreat

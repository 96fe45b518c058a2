/-
  Maps of ours: lookups, updates, deletes; entries that are told apart. No condition beyond those that each theorem names.
-/
import Derived.Test.YtdcdfkdhomekeaaGreatLibD
set_option linter.unusedSimpArgs false
set_option linter.unusedVariables false
set_option linter.unusedSectionVars false
open Option renaming some.injEq->Xa,map_some->Xn
open List renaming getElem?_eq_some_iff->Xb,getElem?_map->Xc,mem_map_of_mem->Xd,getElem?_eraseIdx->Xf,mem_cons->Xg,length_set->Xh,getElem?_set_self->Xi,mem_of_getElem?->Xj,getElem?_set_ne->Xk,length_map->Xl,ext_getElem?->Xo,mem_map->Xp,getElem?_eq_getElem->Xq,length_eraseIdx->Xs,getElem?_append_right->Xt,getElem?_append_left->Xu,getElem?_cons_succ->Xw,mem_append->Xx,nodup_cons->Xy,mem_filter->Xz,mem_of_mem_drop->X4,mem_of_mem_take->X5,map_cons->X6,mem_singleton->X8,length_append->X9,mem_cons_self->Ya,getElem?_inj->Yc,all_eq_true->Ye,length_take->Yf,length_drop->Yg
open Nat renaming le_refl->Xe,lt_succ_self->Xr,le_succ->X0
open Prod renaming mk.injEq->Xm
open Bool renaming and_eq_true->Xv
open Array renaming mem_toList_iff->X3,getElem?_push->X7,toList_push->Yb,mem_append->Yd
namespace Go.Proofs.YtdcdfkdhomekeaaGreat
section
open Go Go.RowKit
def z5u(c:Nat)(w:World)(ow:Nat->Prop)(g:Option Nat)(r:List AV)(u:Value):Prop:=
 match c with
 |0=>∃b cs e,g=some b/\u=.pointer (some ⟨b,0,none⟩)/\w.heap[b]?=some (.cells ⟨cs⟩ e (0,0))/\cs.length=r.length/\∀(k:Nat) a v,r[k]?=some a->cs[k]?=some v->rep w noG 0 ow a v
 |1=>∃a,r=[a]/\zt7 w ow g a u
 |_=>g=none/\∃a,r=[a]/\rep w noG 0 ow a u
def j48(ok:Value->Prop)(j:Nat)(c:List Value)(R:List (List AV))(a:Option Nat)(w:World)(b:Nat)(L:List Nat)(ow:Nat->Prop)(us:List Value):Prop:=
 ∃(d:Array MapEntry) (clock:Nat) (gs:Nat->Option Nat),w.heap[b]?=some (.map d clock)/\d.toList.map (·.key)=c/\c.Nodup/\(∀x∈c,ok x)/\R.length=c.length/\
  (∀i f g,gs i=some g->gs f=some g->i=f)/\(∀i g,gs i=some g->g∈L/\i<R.length)/\
  (∀i r e,R[i]?=some r->d.toList[i]?=some e->a≠some i->z5u j w ow (gs i) r e.val)/\
  ((a=none/\us=[])\/∃i e,a=some i/\gs i=none/\d.toList[i]?=some e/\us=[e.val])
theorem q5q{f:Nat}{w w':World}{ow ow':Nat->Prop}(d:b9 w w' ow ow'){g:Option Nat}(j:∀b,g=some b->w'.heap[b]?=w.heap[b]?){r:List AV}{u:Value}(h:z5u f w ow g r u):z5u f w' ow' g r u:=by
 unfold z5u at h⊢
 split at h
 . obtain⟨b,cs,e,rfl,c,l,m,n⟩:=h;exact⟨b,cs,e,rfl,c,(j b rfl).trans l,m,λk a v o p=>qw6 d (n k a v o p)⟩
 . obtain⟨a,rfl,c⟩:=h;exact⟨a,rfl,zh4 d j c⟩
 obtain⟨q,a,rfl,c⟩:=h;exact⟨q,a,rfl,qw6 d c⟩
def p8(P:Program)(q:TypeId)(B:Nat)(s:List Value)(R:List (List AV))(c:Option Nat):Con where
 k:=none
 P w b _ L ow us:=j48 (λv=>∃l,keyOf P q v=some l) B s R c w b L ow us
 N:=False
 mpk:=some (λv=>∃l,keyOf P q v=some l,s,c)
 mpl:=λ{w b C L ow us ok ks' foc'} t ⟨d,clock,gs,f,g,j,m,u,y,n,z,a⟩=>by
  simp only[Xa,Xm]at t;obtain⟨rfl,rfl,rfl⟩:=t;refine⟨d,clock,f,g,j,m,λi hi=>?_⟩;rcases a with⟨a,_⟩|⟨I,e,a,_,o,rfl⟩
  . rw[hi]at a;cases a
  rw[hi]at a;simp only[Xa]at a;subst a;exact⟨_,rfl,by rw[o];rfl⟩
 mono:=λD A ⟨d,clock,gs,f,g,j,m,u,y,n,z,a⟩=>⟨d,clock,gs,(A _ (.inl rfl)).trans f,g,j,m,u,y,n,λi r e E G H=>q5q D (λb hb=>A b (.inr (n i b hb).1)) (z i r e E G H),a⟩
 cells:=λp=>by cases p
 wr:=λp=>by cases p
section
variable {P:Program} {kt:TypeId} {kd:Nat} {ks:List Value} {R:List (List AV)} {foc:Option Nat}
theorem jr8:(p8 P kt kd ks R foc).k=none:=rfl
theorem j9g:(p8 P kt kd ks R foc).raw=false:=rfl
theorem jr9:(p8 P kt kd ks R foc).N=False:=rfl
theorem jr7:(p8 P kt kd ks R foc).mpk=some (λv=>∃l,keyOf P kt v=some l,ks,foc):=rfl
end
section
variable {P:Program} {C:Ctx P} {s:St} {a:Act} {w:World} {β:aF}
theorem Rel.gu(h:Rel C s a w β){w':World}{id b c:Nat}{K K':Con}{O ex':List AV}(n:q0i s.hp id=some (.con K O))(hb:β id=some (b,c))(o:w'.heap.size=w.heap.size)(G:∀t,t≠b->w'.heap[t]?=w.heap[t]?)
 (u:b9 w w' (own β s.hp C.A) (own β (q0t s.hp id (.con K' ex')) C.A)->(∀g∈β.inn id,w'.heap[g]?=w.heap[g]?)->q5u w' β s.nx (own β (q0t s.hp id (.con K' ex')) C.A) id (.con K' ex'))
 (Q:w'.os=w.os)(R:w'.tape=w.tape)(y:w'.output=w.output/\(dkF=true->w.drawn<=w'.drawn)):Rel C {s with hp:=q0t s.hp id (.con K' ex')} a w' β:=by
 have z:=q0k n;have j:∀p∈q0t s.hp id (.con K' ex'),p=(id,.con K' ex')\/(p∈s.hp/\p.1≠id):=λp hp=>qn1 h.hp.nd hp;have f:∀p∈q0t s.hp id (.con K' ex'),∃q∈s.hp,q.1=p.1:=λp hp=>by
  rcases j p hp with rfl|⟨hp,_⟩
  . exact⟨_,z,rfl⟩
  exact⟨p,hp,rfl⟩
 have B:∀g∈β.inn id,g≠b:=λg n e=>(h.hp.ib _ z g n).2.2.1 _ z c (by rw[e];exact hb);refine h.fO (Xe _) (λ_ _=>rfl) (λ_ _ _=>rfl) ?_ ?_ (by rw[qb1];exact h.hp.nd) (by rw[o];exact Xe _) (λt _ H=>G t λe=>H ⟨_,z,.inl ⟨c,by rw[e];exact hb⟩⟩) ?_ ?_ ?_ ?_ ?_ Q R y
 . intro p hp;obtain⟨q,k,l⟩:=f p hp;exact .inl (l▸Xd k)
 . intro p hp;obtain⟨q,k,l⟩:=f p hp;exact l▸h.hp.lt q k
 . intro p hp m d;obtain⟨q,k,l⟩:=f p hp;rw[<-l]at d;exact⟨by rw[o];exact h.hp.cC q k m d,.inl ⟨q,k,d⟩⟩
 . intro p hp q k m d D;obtain⟨S,hp',l⟩:=f p hp;obtain⟨T,I,J⟩:=f q k;rw[<-l]at d⊢;rw[<-J]at D⊢;exact h.hp.bD S hp' T I m d D
 . intro p hp m d U L;obtain⟨q,k,l⟩:=f p hp;rw[<-l]at d L;exact (h.hp.ib q k m d).2.2.1 q k U L
 .
  intro p hp E;rcases j p hp with rfl|⟨hp,M⟩
  . cases E
  exact h.hp.i0 p hp E
 intro N p hp;rcases j p hp with rfl|⟨hp,M⟩
 . exact u N λg n=>G g (B g n)
 exact q48 (β:=β) (β':=β) N (Xe _) (λ_ _=>rfl) (h.hp.lt p hp) (λm d=>G m λe=>M (h.hp.bD p hp _ z m d (.inl ⟨c,by rw[e];exact hb⟩))) (λ_=>rfl) (h.hp.obj p hp)
end
end
section
open Go Go.RowKit
section
variable {P:Program} {C:Ctx P} {s:St} {a:Act} {w:World} {β:aF}
theorem j5t{w:World}{b:Nat}{o:Obj}(h:b<w.heap.size):({w with heap:=w.heap.setIfInBounds b o}:World).heap[b]?=some o:=by
 show (w.heap.setIfInBounds b o)[b]?=_
 rw[Array.getElem?_setIfInBounds_self_of_lt h]
theorem j5s{w:World}{b c:Nat}{o:Obj}(h:c≠b):({w with heap:=w.heap.setIfInBounds b o}:World).heap[c]?=w.heap[c]?:=by
 show (w.heap.setIfInBounds b o)[c]?=_
 rw[Array.getElem?_setIfInBounds_ne (λe=>h e.symm)]
theorem Rel.fG(h:Rel C s a w β){id b c n kd':Nat}{o kt':TypeId}{p ks':List Value}{R R':List (List AV)}{k foc':Option Nat}{q ex':List AV}{t es':Array MapEntry}{clock clock':Nat}(u:q0i s.hp id=some (.con (p8 P o n p R k) q))(hb:β id=some (b,c))(y:w.heap[b]?=some (.map t clock))
 (e:∀(w':World) (ow':Nat->Prop),b9 w w' (own β s.hp C.A) ow'->(∀g∈β.inn id,w'.heap[g]?=w.heap[g]?)->w'.heap[b]?=some (.map es' clock')->∃d,j48 (λv=>∃l,keyOf P kt' v=some l) kd' ks' R' foc' w' b (β.inn id) ow' d/\y8 w' β s.nx ow' ex' d):
 Rel C {s with hp:=q0t s.hp id (.con (p8 P kt' kd' ks' R' foc') ex')} a {w with heap:=w.heap.setIfInBounds b (.map es' clock')} β:=by
 have f:b<w.heap.size:=(Array.getElem?_eq_some_iff.1 y).1;refine h.gu u hb (by simp) (λE m=>j5s m) (λz j=>?_) rfl rfl ⟨rfl,λ_=>Xe _⟩;obtain⟨d,B,D⟩:=e _ _ z j (j5t f);exact .inl ⟨b,c,d,hb,by simpa using f,B,D⟩
theorem j9f(h:Rel C s a w β){m:Operand}{id k:Nat}{n:TypeId}{o:List Value}{R:List (List AV)}{e:Option Nat}{p:List AV}(g:(y9 s.env m).aZ)(q:(y9 s.env m).st=.mp id)(t:q0i s.hp id=some (.con (p8 P n k o R e) p)):
 ∃b c us,a.eval m=.map (some b)/\β id=some (b,c)/\j48 (λv=>∃l,keyOf P n v=some l) k o R e w b (β.inn id) (own β s.hp C.A) us/\y8 w β s.nx (own β s.hp C.A) p us:=by
 have d:=q2d h g;rw[q]at d;simp only[rep]at d;obtain⟨_,b,c,hb,d⟩:=d;rcases h.hp.obj _ (q0k t)with⟨z,B,us,f,_,u,j⟩|⟨_,y,_⟩
 rotate_left
 . exact y.elim
 simp only at f;rw[hb]at f;simp only[Xa,Xm]at f;obtain⟨rfl,rfl⟩:=f;exact⟨b,c,us,d,hb,u,j⟩
theorem j3t{o:Oper}{t n e:TypeId}{m k v:Operand}{id I:Nat}{kv:Value}{d:List Value}{R:List (List AV)}{K:St->Prop}(row:List AV)
 (ho:o.op=.mapUpdate t m k v)(J:(y9 s.env m).aZ)(L:(y9 s.env k).aZ)(M:(y9 s.env v).aZ)(hm:(y9 s.env m).st=.mp id)(hg:q0i s.hp id=some (.con (p8 P n I d R none) []))(ht:P.underlying t=some (.map n e))
 (hK:Go.Maps.Keyed P n)(N:z3f (y9 s.env k).st=some kv)(z:∃l,keyOf P n kv=some l)(A:kv∉d)
 (hk:K (({s with hp:=q0t s.hp id (.con (p8 P n I (d++[kv]) (R++[row]) (some d.length)) [(y9 s.env v).st])}:St).put o.dst (.v undef))):opW P o s K:=by
 intro hd C a w β h Q;obtain⟨b,c,us,O,hb,⟨q,clock,gs,S,G,h3,h4,h5,h6,H,h8,h9⟩,a6⟩:=j9f h J hm hg;have B:=z2a N (q2d h L);have T:=q2d h M;obtain⟨l,z⟩:=z;have U:∀e∈q.toList,e.key≠kv:=λe u f=>A (by rw[<-G,<-f];exact Xd u);have p:(Instr.findKey n kv q.toList).run P w=.ok none w:=by
  rcases hK.find w z q.toList (λe u=>h4 _ (by rw[<-G];exact Xd u))with⟨f1,_⟩|⟨j,e0,_,f2,f3⟩
  . exact f1
  exact absurd f3 (U e0 (Xj f2))
 have D:(execOp a.eval o).run P w=.ok .skip {w with heap:=w.heap.setIfInBounds b (.map (q.push ⟨kv,a.eval v,clock⟩) (clock+1))}:=by
  unfold execOp;simp only[ho,O,B];simp[Instr.mapUpdate,run_underlying ht,MapKept.run_getObj_map S,hK.check w false z,p,MapKept.run_setObj_map _ S,Result.andThen]
 unfold Oper.wp;rw[D];have V:q.toList.length=d.length:=by rw[<-G,Xl]
 have W:=h.fG (kt':=n) (kd':=I) (ks':=d++[kv]) (R':=R++[row]) (foc':=some d.length) (ex':=[(y9 s.env v).st]) (es':=q.push ⟨kv,a.eval v,clock⟩) (clock':=clock+1) hg hb S λw' ow' hA E X=>by
  refine⟨[a.eval v],⟨_,_,gs,X,?_,?_,?_,?_,h6,λi g hi=>⟨(H i g hi).1,?_⟩,λi r e Y u hf=>?_,.inr ⟨d.length,⟨kv,a.eval v,clock⟩,rfl,?_,?_,rfl⟩⟩,?_⟩
  . simp[G]
  . exact List.nodup_append.2 ⟨h3,by simp,λx f y hy e=>by rw[X8]at hy;subst hy;subst e;exact A f⟩
  .
   intro x f;rw[Xx,X8]at f;rcases f with f|rfl
   . exact h4 x f
   exact⟨l,z⟩
  . simp[h5]
  . rw[X9];have:=(H i g hi).2;omega
  . have ao:i≠d.length:=λe=>hf (by rw[e]);have hi:=(Xb.1 Y).1;rw[X9,List.length_singleton]at hi;rw[Xu (by omega)]at Y;rw[Yb,Xu (by omega)]at u;exact q5q hA (λg Z=>E g (H i g Z).1) (h8 i r e Y u (by simp))
  .
   cases f:gs d.length with
   |none=>rfl
   |some g=>have:=(H _ g f).2;omega
  . rw[Yb,<-V,Xt (Xe _),Nat.sub_self];rfl
  simp only[y8];exact⟨q5i hA _ _ (Xe _) (λ_ _=>rfl) _ _ T,trivial⟩
 exact⟨_,_,W.put (by simp only[rep]) hd,hk⟩
theorem j3s{o:Oper}{t z e:TypeId}{m k v:Operand}{id M i:Nat}{kv:Value}{x:AV}{I:List Value}{R:List (List AV)}{K:St->Prop}
 (ho:o.op=.mapUpdate t m k v)(N:(y9 s.env m).aZ)(O:(y9 s.env k).aZ)(S:(y9 s.env v).aZ)(hm:(y9 s.env m).st=.mp id)(hg:q0i s.hp id=some (.con (p8 P z M I R (some i)) [x]))(ht:P.underlying t=some (.map z e))
 (T:Go.Maps.Keyed P z)(U:z3f (y9 s.env k).st=some kv)(u:I[i]?=some kv)
 (hk:K (({s with hp:=q0t s.hp id (.con (p8 P z M I R (some i)) [(y9 s.env v).st])}:St).put o.dst (.v undef))):opW P o s K:=by
 intro hd C a w β h Q;obtain⟨b,c,us,V,hb,⟨q,clock,gs,W,J,h3,X,h5,h6,h7,h8,A⟩,b3⟩:=j9f h N hm hg;rcases A with⟨A,_⟩|⟨i',B,A,Y,d,rfl⟩
 . cases A
 simp only[Xa]at A;subst A;have D:=z2a U (q2d h O);have Z:=q2d h S;have f:B.key=kv:=by
  rw[<-J,Xc,d]at u
  simpa using u
 obtain⟨l,hl⟩:=X kv (Xj u);have y:(Instr.findKey z kv q.toList).run P w=.ok (some (i,B.val)) w:=by
  rcases T.find w hl q.toList (λe L=>X _ (by rw[<-J];exact Xd L))with⟨_,E⟩|⟨j,e1,f1,E,f3⟩
  . exact absurd f (E B (Xj d))
  have a6:(q.toList.map (·.key)).Nodup:=by rw[J];exact h3
  have q1:(q.toList.map (·.key))[j]?=some kv:=by rw[Xc,E];simp[f3]
  have q2:(q.toList.map (·.key))[i]?=some kv:=by rw[Xc,d];simp[f]
  have ao:j=i:=(Yc (Xb.1 q1).1 a6).1 (q1.trans q2.symm);subst ao;rw[d]at E;cases E;exact f1
 have hj:q[i]?=some B:=by simpa using d
 have G:(execOp a.eval o).run P w=.ok .skip {w with heap:=w.heap.setIfInBounds b (.map (q.modify i λe=>{e with key:=kv,val:=a.eval v}) clock)}:=by
  unfold execOp;simp only[ho,V,D];simp[Instr.mapUpdate,run_underlying ht,MapKept.run_getObj_map W,T.check w false hl,y,hj,f,T.stays w hl,MapKept.run_setObj_map _ W,Result.andThen]
 unfold Oper.wp;rw[G];have n:∀j,(q.modify i λe=>{e with key:=kv,val:=a.eval v}).toList[j]?=if i=j then some {B with key:=kv,val:=a.eval v}else q.toList[j]?:=λj=>by
  rw[Array.toList_modify,List.getElem?_modify]
  by_cases p:i=j
  . subst p;simp[d]
  simp[p]
 have ar:=h.fG (kt':=z) (kd':=M) (ks':=I) (R':=R) (foc':=some i) (ex':=[(y9 s.env v).st]) (es':=q.modify i λe=>{e with key:=kv,val:=a.eval v}) (clock':=clock) hg hb W λw' ow' hA H b0=>by
  refine⟨[a.eval v],⟨_,_,gs,b0,?_,h3,X,h5,h6,h7,λj r e hr L hf=>?_,.inr ⟨i,{B with key:=kv,val:=a.eval v},rfl,Y,by rw[n,if_pos rfl],rfl⟩⟩,?_⟩
  .
   refine Xo λj=>?_;rw[Xc,n]
   by_cases p:i=j
   . subst p;rw[if_pos rfl,u];rfl
   rw[if_neg p,<-J,Xc]
  . have b1:i≠j:=λe=>hf (by rw[e]);rw[n,if_neg b1]at L;exact q5q hA (λg b2=>H g (h7 j g b2).1) (h8 j r e hr L hf)
  simp only[y8];exact⟨q5i hA _ _ (Xe _) (λ_ _=>rfl) _ _ Z,trivial⟩
 exact⟨_,_,ar.put (by simp only[rep]) hd,hk⟩
theorem j3u{o:Oper}{cl:Call}{t E kt' e:TypeId}{m k:Operand}{id I i:Nat}{kv:Value}{x:AV}{S:List Value}{R:List (List AV)}{K:St->Prop}
 (ho:o.op=.call cl)(V:cl.callee=.builtin .delete)(z:cl.args.toList=[m,k])(W:cl.argTypes.toList=[t,kt'])(X:(y9 s.env m).aZ)(Y:(y9 s.env k).aZ)(hm:(y9 s.env m).st=.mp id)(hg:q0i s.hp id=some (.con (p8 P E I S R (some i)) [x]))(ht:P.underlying t=some (.map E e))
 (hK:Go.Maps.Keyed P E)(Z:z3f (y9 s.env k).st=some kv)(n:S[i]?=some kv)
 (hk:K (({s with hp:=q0t s.hp id (.con (p8 P E I (S.eraseIdx i) (R.eraseIdx i) none) [])}:St).put o.dst (.tup []))):opW P o s K:=by
 intro hd C a w β h Q;obtain⟨b,c,us,a6,hb,⟨f,clock,gs,h1,T,h3,h4,h5,h6,U,h8,G⟩,b4⟩:=j9f h X hm hg;rcases G with⟨G,_⟩|⟨i',e0,G,b5,d,rfl⟩
 . cases G
 simp only[Xa]at G;subst G;have J:=z2a Z (q2d h Y);have p:e0.key=kv:=by
  rw[<-T,Xc,d]at n
  simpa using n
 obtain⟨l,hl⟩:=h4 kv (Xj n);have A:(Instr.findKey E kv f.toList).run P w=.ok (some (i,e0.val)) w:=by
  rcases hK.find w hl f.toList (λe q=>h4 _ (by rw[<-T];exact Xd q))with⟨_,L⟩|⟨j,e1,f1,L,f3⟩
  . exact absurd p (L e0 (Xj d))
  have ao:(f.toList.map (·.key)).Nodup:=by rw[T];exact h3
  have B:(f.toList.map (·.key))[j]?=some kv:=by rw[Xc,L];simp[f3]
  have M:(f.toList.map (·.key))[i]?=some kv:=by rw[Xc,d];simp[p]
  have ar:j=i:=(Yc (Xb.1 B).1 ao).1 (B.trans M.symm);subst ar;rw[d]at L;cases L;exact f1
 have b0:i<f.size:=by have:=(Xb.1 d).1;simpa using this
 have u:(f.eraseIdxIfInBounds i).toList=f.toList.eraseIdx i:=by
  unfold Array.eraseIdxIfInBounds;rw[dif_pos b0];simp
 have e2:cl.args=#[m,k]:=Array.ext' z;have e3:cl.argTypes=#[t,kt']:=Array.ext' W;have N:(execOp a.eval o).run P w=.ok (.value (.tuple #[])) {w with heap:=w.heap.setIfInBounds b (.map (f.eraseIdxIfInBounds i) clock)}:=by
  unfold execOp;simp only[ho];simp[resolve,V,e2,e3,invoke,builtin,a6,J,Builtin.delete_,run_underlying ht,MapKept.run_getObj_map h1,hK.check w _ hl,A,MapKept.run_setObj_map _ h1,Result.andThen]
 unfold Oper.wp;rw[N];have b1:i<R.length:=by rw[h5];exact (Xb.1 n).1
 have b2:=h.fG (kt':=E) (kd':=I) (ks':=S.eraseIdx i) (R':=R.eraseIdx i) (foc':=none) (ex':=[]) (es':=f.eraseIdxIfInBounds i) (clock':=clock) hg hb h1 λw' ow' hA y b3=>by
  refine⟨[],⟨_,_,λj=>gs (if j<i then j else j+1),b3,?_,?_,λx hx=>h4 x (List.mem_of_mem_eraseIdx hx),?_,λj j' g B M=>?_,λj g B=>⟨(U _ g B).1,?_⟩,λj r e O q _=>?_,.inl ⟨rfl,rfl⟩⟩,by simp only[y8]⟩
  .
   rw[u,<-T];refine Xo λj=>?_;rw[Xc,Xf,Xf]
   split<;>rw[Xc]
  . exact h3.sublist (List.eraseIdx_sublist _ _)
  . rw[Xs,Xs,h5]
  .
   have:=h6 _ _ g B M
   split at this<;>split at this<;>omega
  .
   have M:=(U _ g B).2;rw[Xs,if_pos b1]
   by_cases H:j<i
   . omega
   rw[if_neg H]at M;omega
  rw[u]at q;rw[Xf]at O q
  by_cases H:j<i
  .
   rw[if_pos H]at O q
   show z5u I w' ow' (gs (if j<i then j else j+1)) r e.val
   rw[if_pos H];exact q5q hA (λg D=>y g (U j g D).1) (h8 j r e O q (λe=>by simp at e;omega))
  rw[if_neg H]at O q
  show z5u I w' ow' (gs (if j<i then j else j+1)) r e.val
  rw[if_neg H];exact q5q hA (λg D=>y g (U _ g D).1) (h8 _ r e O q (λe=>by simp at e;omega))
 exact⟨_,_,b2.put (by simp only[rep];exact⟨[],rfl,by simp only[y8]⟩) hd,hk⟩
theorem j1q{o:Oper}{t u e:TypeId}(z:Nat){K:St->Prop}(A:o.op=.makeMap t none)(G:P.underlying t=some (.map u e))
 (B:K (({s with hp:=(s.nx,.con (p8 P u z [] [] none) [])::s.hp,nx:=s.nx+1}:St).put o.dst (.mp s.nx))):opW P o s K:=by
 intro hd C a w β h Q;have k:(execOp a.eval o).run P w=.ok (.value (.map (some w.heap.size))) (w.alloc (.map #[] 0)):=by
  unfold execOp;simp only[A];simp[Instr.makeMap]
 unfold Oper.wp;rw[k];have f:∀q,q<s.nx->∀b,bof (upd β s.nx (some (w.heap.size,0))) q b->bof β q b:=λq d b hb=>(z2i d).1 hb;have g:∀b,bof (upd β s.nx (some (w.heap.size,0))) s.nx b->b=w.heap.size:=λb hb=>by
  obtain⟨c,j⟩:=z2o hb;simp only[Xa,Xm]at j;exact j.1.symm
 have D:(w.alloc (.map #[] 0)).heap.size=w.heap.size+1:=by show (w.heap.push (.map #[] 0)).size=_;exact Array.size_push ..
 have l:∀b,b<w.heap.size->(w.alloc (.map #[] 0)).heap[b]?=w.heap[b]?:=λb hb=>by show (w.heap.push (.map #[] 0))[b]?=_;rw[X7,if_neg (by omega)]
 have m:Rel C {s with hp:=(s.nx,.con (p8 P u z [] [] none) [])::s.hp,nx:=s.nx+1} a (w.alloc (.map #[] 0)) (upd β s.nx (some (w.heap.size,0))):=by
  refine h.fO (X0 _) (λq d=>q2x _ _ _ _ d) (λq d _=>q5r _ _ _ _ d) ?_ ?_ ?_ (by omega) (λb hb _=>l b hb) ?_ ?_ ?_ ?_ ?_ rfl rfl ⟨rfl,λ_=>Xe _⟩
  .
   intro p hp;rcases Xg.1 hp with rfl|hp
   . exact .inr (Xe _)
   exact .inl (Xd hp)
  .
   intro p hp;rcases Xg.1 hp with rfl|hp
   . exact Xr _
   exact Nat.lt_succ_of_lt (h.hp.lt p hp)
  . simp only[X6,Xy];refine⟨λn=>?_,h.hp.nd⟩;obtain⟨q,d,H⟩:=Xp.1 n;have:=h.hp.lt q d;omega
  .
   intro p hp b hb;rcases Xg.1 hp with rfl|hp
   . rw[g b hb];exact⟨by omega,.inr (Xe _)⟩
   have:=f _ (h.hp.lt p hp) b hb;exact⟨by have:=h.hp.cC p hp b this;omega,.inl ⟨p,hp,this⟩⟩
  .
   intro p hp q d b y m;rcases Xg.1 hp with rfl|hp<;>rcases Xg.1 d with rfl|d
   . rfl
   . have:=g b y;have:=h.hp.cC q d b (f _ (h.hp.lt q d) b m);omega
   . have:=g b m;have:=h.hp.cC p hp b (f _ (h.hp.lt p hp) b y);omega
   exact h.hp.bD p hp q d b (f _ (h.hp.lt p hp) b y) (f _ (h.hp.lt q d) b m)
  .
   intro p hp b hb c j;rcases Xg.1 hp with rfl|hp
   . rw[q9y]at hb;cases hb
   rw[q5r _ _ _ _ (h.hp.lt p hp)]at hb;rw[q2x _ _ _ _ (h.hp.lt p hp)]at j;exact (h.hp.ib p hp b hb).2.2.1 p hp c j
  .
   intro p hp j;rcases Xg.1 hp with rfl|hp
   . exact q9y _ _ _
   rw[q5r _ _ _ _ (h.hp.lt p hp)];exact h.hp.i0 p hp j
  intro E p hp;rcases Xg.1 hp with rfl|hp
  . refine .inl ⟨w.heap.size,0,[],q1m _ _ _,by omega,⟨#[],0,λ_=>none,by show (w.heap.push (.map #[] 0))[w.heap.size]?=_;rw[X7,if_pos rfl],rfl,List.nodup_nil,by simp,rfl,(λ_ _ _ n=>by cases n),(λ_ _ n=>by cases n),by simp,.inl ⟨rfl,rfl⟩⟩,by simp only[y8]⟩
  exact q48 E (X0 _) (λq d=>q2x _ _ _ _ d) (h.hp.lt p hp) (λb hb=>l b (h.hp.cC p hp b hb)) (λ_=>q5r _ _ _ _ (h.hp.lt p hp)) (h.hp.obj p hp)
 refine⟨_,_,m.put ?_ hd,B⟩;simp only[rep];exact⟨Xr _,w.heap.size,0,q1m _ _ _,rfl⟩
theorem z1w{o:Oper}{t d e:TypeId}{m k v:Operand}{id z:Nat}{kv:Value}{f:List Value}{R:List (List AV)}{K:St->Prop}(row:List AV)
 (B:K (({s with hp:=q0t s.hp id (.con (p8 P d z (f++[kv]) (R++[row]) (some f.length)) [(y9 s.env v).st])}:St).put o.dst (.v undef)))
 (g:o.op=.mapUpdate t m k v)(j:(y9 s.env m).aZ)(n:(y9 s.env k).aZ)(p:(y9 s.env v).aZ)(D:(y9 s.env m).st=.mp id)(E:q0i s.hp id=some (.con (p8 P d z f R none) []))(G:P.underlying t=some (.map d e))
 (H:Go.Maps.Keyed P d)(q:z3f (y9 s.env k).st=some kv)(I:∃l,keyOf P d kv=some l)(u:kv∉f):opS P o s K:=by
 refine⟨_,s.nx,_,B,λb c K' y=>?_⟩;have em:y9 b m=y9 s.env m:=c m (by rw[g];simp[Op.operands]);have A:y9 b k=y9 s.env k:=c k (by rw[g];simp[Op.operands]);have ev:y9 b v=y9 s.env v:=c v (by rw[g];simp[Op.operands]);exact j3t (s:={s with env:=b}) row g (by rw[em];exact j) (by rw[A];exact n) (by rw[ev];exact p) (by rw[em];exact D) E G H (by rw[A];exact q) I u (by rw[ev];exact y)
theorem z6j{o:Oper}{t d e:TypeId}{m k v:Operand}{id y i:Nat}{kv:Value}{x:AV}{g:List Value}{R:List (List AV)}{K:St->Prop}
 (A:K (({s with hp:=q0t s.hp id (.con (p8 P d y g R (some i)) [(y9 s.env v).st])}:St).put o.dst (.v undef)))
 (f:o.op=.mapUpdate t m k v)(j:(y9 s.env m).aZ)(l:(y9 s.env k).aZ)(n:(y9 s.env v).aZ)(B:(y9 s.env m).st=.mp id)(D:q0i s.hp id=some (.con (p8 P d y g R (some i)) [x]))(E:P.underlying t=some (.map d e))
 (G:Go.Maps.Keyed P d)(p:z3f (y9 s.env k).st=some kv)(q:g[i]?=some kv):opS P o s K:=by
 refine⟨_,s.nx,_,A,λb c K' u=>?_⟩;have em:y9 b m=y9 s.env m:=c m (by rw[f];simp[Op.operands]);have z:y9 b k=y9 s.env k:=c k (by rw[f];simp[Op.operands]);have ev:y9 b v=y9 s.env v:=c v (by rw[f];simp[Op.operands]);exact j3s (s:={s with env:=b}) f (by rw[em];exact j) (by rw[z];exact l) (by rw[ev];exact n) (by rw[em];exact B) D E G (by rw[z];exact p) q (by rw[ev];exact u)
theorem j3v{o:Oper}{cl:Call}{t f kt' e:TypeId}{m k:Operand}{id A i:Nat}{kv:Value}{x:AV}{g:List Value}{R:List (List AV)}{K:St->Prop}
 (D:K (({s with hp:=q0t s.hp id (.con (p8 P f A (g.eraseIdx i) (R.eraseIdx i) none) [])}:St).put o.dst (.tup [])))
 (j:o.op=.call cl)(l:cl.callee=.builtin .delete)(b:cl.args.toList=[m,k])(n:cl.argTypes.toList=[t,kt'])(p:(y9 s.env m).aZ)(q:(y9 s.env k).aZ)(E:(y9 s.env m).st=.mp id)(G:q0i s.hp id=some (.con (p8 P f A g R (some i)) [x]))(H:P.underlying t=some (.map f e))
 (I:Go.Maps.Keyed P f)(u:z3f (y9 s.env k).st=some kv)(y:g[i]?=some kv):opS P o s K:=by
 refine⟨_,s.nx,_,D,λc d K' z=>?_⟩;have em:y9 c m=y9 s.env m:=d m (by rw[j];simp only[Op.operands,Call.operands];exact Yd.2 (.inr (X3.1 (by rw[b];simp))));have B:y9 c k=y9 s.env k:=d k (by rw[j];simp only[Op.operands,Call.operands];exact Yd.2 (.inr (X3.1 (by rw[b];simp))));exact j3u (s:={s with env:=c}) j l b n (by rw[em];exact p) (by rw[B];exact q) (by rw[em];exact E) G H I (by rw[B];exact u) y z
theorem z4w{o:Oper}{t d e:TypeId}(f:Nat){K:St->Prop}(g:K (({s with hp:=(s.nx,.con (p8 P d f [] [] none) [])::s.hp,nx:=s.nx+1}:St).put o.dst (.mp s.nx)))(j:o.op=.makeMap t none)(k:P.underlying t=some (.map d e)):opS P o s K:=
 ⟨_,_,_,g,λb _ _ c=>j1q (s:={s with env:=b}) f j k c⟩
end
end
section
open Go Go.RowKit
section
variable {P:Program} {C:Ctx P} {s:St} {a:Act} {w:World} {β:aF}
theorem Rel.fw(h:Rel C s a w β){id:Nat}{K K':Con}{ex ex':List AV}{o2:bT}(gi:Option (Nat×Nat))(hg:q0i s.hp id=some (.con K ex))(b4:qb2 o2=false)(m:∀g n,gi=some (g,n)->g∈β.inn id)
 (T:∀(β':aF) (ow':Nat->Prop),b9 w w (own β s.hp C.A) ow'->(∀x,x<s.nx->β' x=β x)->β' s.nx=gi->(∀g,g∈β.inn id->(∀n,gi≠some (g,n))->g∈β'.inn id)->q5u w β' (s.nx+1) ow' s.nx o2/\q5u w β' (s.nx+1) ow' id (.con K' ex')):
 ∃β',Rel C {s with hp:=(s.nx,o2)::q0t s.hp id (.con K' ex'),nx:=s.nx+1} a w β':=by
 have N:=q0k hg;have D:id<s.nx:=h.hp.lt _ N
 let ng:Nat->Bool:=λx=>!(gi.map (·.1)==some x)
 have U:∀x,ng x=true↔∀n,gi≠some (x,n):=λx=>by
  simp only[ng,Bool.not_eq_true',beq_eq_false_iff_ne,ne_eq]
  cases gi with
  |none=>simp
  |some q=>simp only[Xn,Xa];exact⟨λo n k=>o (by rw[k]),λo k=>o q.2 (by rw[<-k])⟩
 let β':aF:=⟨λx=>if x=s.nx then gi else β x,λx=>if x=s.nx then []else if x=id then (β.inn id).filter ng else β.inn x⟩
 have V:β' s.nx=gi:=by simp[β']
 have z:∀x,x<s.nx->β' x=β x:=λx o=>by simp[β'];omega
 have E:β'.inn s.nx=[]:=by simp[β']
 have G:β'.inn id=(β.inn id).filter ng:=by simp[β'];omega
 have t:∀x,x<s.nx->x≠id->β'.inn x=β.inn x:=λx o H=>by simp[β',H];omega
 have L:∀x,x<s.nx->∀c,c∈β'.inn x->c∈β.inn x:=λx o c b=>by
  by_cases W:x=id
  . subst W;rw[G]at b;exact (Xz.1 b).1
  rw[t x o W]at b;exact b
 have J:∀x,x<s.nx->∀c,bof β' x c->bof β x c:=λx o c b=>by
  rcases b with⟨O,k⟩|b
  . exact .inl ⟨O,(z x o).symm.trans k⟩
  exact .inr (L x o c b)
 have X:∀c,bof β' s.nx c->∃n,gi=some (c,n):=λc b=>by
  rcases b with⟨O,k⟩|b
  . exact⟨O,V.symm.trans k⟩
  rw[E]at b;cases b
 have u:∀p∈(s.nx,o2)::q0t s.hp id (.con K' ex'),p=(s.nx,o2)\/p=(id,.con K' ex')\/(p∈s.hp/\p.1≠id):=λp hp=>by
  rcases Xg.1 hp with hp|hp
  . exact .inl hp
  exact .inr (qn1 h.hp.nd hp)
 have f:∀p∈(s.nx,o2)::q0t s.hp id (.con K' ex'),p.1=s.nx\/p.1<s.nx:=λp hp=>by
  rcases u p hp with rfl|rfl|⟨hp,_⟩
  . exact .inl rfl
  . exact .inr D
  exact .inr (h.hp.lt p hp)
 have j:∀p∈(s.nx,o2)::q0t s.hp id (.con K' ex'),p.1<s.nx->∃q∈s.hp,q.1=p.1:=λp hp ar=>by
  rcases u p hp with rfl|rfl|⟨hp,_⟩
  . exact absurd ar (Nat.lt_irrefl _)
  . exact⟨_,N,rfl⟩
  exact⟨p,hp,rfl⟩
 have M:∀q∈(s.nx,o2)::q0t s.hp id (.con K' ex'),q.1<s.nx->∀c,bof β' s.nx c->bof β' q.1 c->False:=λq y Y c b d=>by
  obtain⟨n,k⟩:=X c b;obtain⟨q',Q,I⟩:=j q y Y;have h9:=J q.1 Y c d;have R:=h.hp.bD _ N q' Q c (.inr (m c n k)) (by rw[I];exact h9);simp only at R;rw[I]at R;rw[<-R]at d;rcases d with⟨O,Z⟩|d
  . rw[z id D]at Z;exact (h.hp.ib _ N c (m c n k)).2.2.1 _ N O Z
  rw[G]at d;exact (U c).1 (Xz.1 d).2 n k
 refine⟨β',h.gm (X0 _) z (λx o b0=>t x o λe=>b0 (by rw[e];exact Xd N)) ?_ ?_ ?_ ?_ ?_ ?_ ?_ ?_⟩
 .
  intro p hp;rcases f p hp with l|B
  . exact .inr (Nat.le_of_eq l.symm)
  obtain⟨q,y,l⟩:=j p hp B;exact .inl (l▸Xd y)
 . intro p hp;rcases f p hp with l|B<;>omega
 . simp only[X6,Xy,qb1];refine⟨λo=>?_,h.hp.nd⟩;obtain⟨q,y,l⟩:=Xp.1 o;have:=h.hp.lt q y;omega
 .
  intro p hp c b;rcases f p hp with l|B
  . rw[l]at b;obtain⟨n,k⟩:=X c b;exact⟨_,N,.inr (m c n k)⟩
  obtain⟨q,y,l⟩:=j p hp B;exact⟨q,y,by rw[l];exact J _ B _ b⟩
 .
  intro p hp q y c b d;rcases f p hp with l|B<;>rcases f q y with a6|S
  . rw[l,a6]
  . rw[l]at b;exact (M q y S c b d).elim
  . rw[a6]at d;exact (M p hp B c d b).elim
  obtain⟨p',hp',ao⟩:=j p hp B;obtain⟨q',Q,I⟩:=j q y S;have:=h.hp.bD p' hp' q' Q c (by rw[ao];exact J _ B _ b) (by rw[I];exact J _ S _ d);rw[<-ao,<-I];exact this
 .
  intro p hp c b O k;rcases f p hp with l|B
  . rw[l,E]at b;cases b
  obtain⟨q,y,l⟩:=j p hp B;rw[z _ B,<-l]at k;exact (h.hp.ib q y c (by rw[l];exact L _ B _ b)).2.2.1 q y O k
 .
  intro p hp k;rcases u p hp with rfl|rfl|⟨hp,H⟩
  . exact E
  . cases k
  rw[t _ (h.hp.lt p hp) H];exact h.hp.i0 p hp k
 intro hA p hp;obtain⟨q1,q2⟩:=T β' _ hA z V (λg b2 b3=>by rw[G];exact Xz.2 ⟨b2,(U g).2 b3⟩);rcases u p hp with rfl|rfl|⟨hp,H⟩
 . exact q1
 . exact q2
 exact q48 hA (X0 _) z (h.hp.lt p hp) (λ_ _=>rfl) (λ_=>t _ (h.hp.lt p hp) H) (h.hp.obj p hp)
theorem Rel.fv(h:Rel C s a w β){id id2:Nat}{K K':Con}{ex ex':List AV}{o2:bT}(W:q0i s.hp id=some (.con K ex))(J:q0i s.hp id2=some o2)(S:qb2 o2=false)
 (L:∀(β':aF) (ow':Nat->Prop),b9 w w (own β s.hp C.A) ow'->(∀x,β' x=β x)->(∀g X,β id2=some (g,X)->g∈β'.inn id)->(∀g,g∈β.inn id->g∈β'.inn id)->q5u w β' s.nx ow' id (.con K' ex')):
 ∃β',Rel C {s with hp:=q0t (q4n s.hp id2) id (.con K' ex')} a w β':=by
 have y:=q0k W;have o:=q0k J;have M:=z9f W J rfl S;have G:id<s.nx:=h.hp.lt _ y;have z:((q4n s.hp id2).map (·.1)).Nodup:=(ca.map _).nodup h.hp.nd
 let gi:Option Nat:=(β id2).map (·.1)
 have N:∀g,gi=some g->bof β id2 g:=λg d=>by
  simp only[gi]at d
  cases B:β id2 with
  |none=>rw[B]at d;cases d
  |some q=>rw[B]at d;simp only[Xn,Xa]at d;exact .inl ⟨q.2,by rw[B,<-d]⟩
 let β':aF:=⟨β.f,λx=>if x=id then gi.toList++β.inn id else β.inn x⟩
 have l:β'.inn id=gi.toList++β.inn id:=by simp[β']
 have k:∀x,x≠id->β'.inn x=β.inn x:=λx d=>by simp[β',d]
 have c:∀p∈q0t (q4n s.hp id2) id (.con K' ex'),p=(id,.con K' ex')\/(p∈s.hp/\p.1≠id/\p.1≠id2):=λp hp=>by
  rcases qn1 z hp with hp|⟨hp,d⟩
  . exact .inl hp
  have:=z0h.1 hp;exact .inr ⟨this.1,d,this.2⟩
 have H:∀p∈q0t (q4n s.hp id2) id (.con K' ex'),∀j,bof β' p.1 j->(∃q∈s.hp,q.1=p.1/\bof β q.1 j)\/(p.1=id/\bof β id2 j):=λp hp j b=>by
  rcases c p hp with rfl|⟨hp,d,O⟩
  .
   rcases b with⟨D,m⟩|b
   . exact .inl ⟨_,y,rfl,.inl ⟨D,m⟩⟩
   simp only at b;rw[l]at b;rcases Xx.1 b with b|b
   . exact .inr ⟨rfl,N j (by simpa using b)⟩
   exact .inl ⟨_,y,rfl,.inr b⟩
  rcases b with⟨D,m⟩|b
  . exact .inl ⟨p,hp,rfl,.inl ⟨D,m⟩⟩
  rw[k _ d]at b;exact .inl ⟨p,hp,rfl,.inr b⟩
 have E:∀p∈q0t (q4n s.hp id2) id (.con K' ex'),p.1≠id2:=λp hp=>by
  rcases c p hp with rfl|⟨_,_,O⟩
  . exact M
  exact O
 refine⟨β',h.gm (Xe _) (λ_ _=>rfl) (λx d T=>k x λe=>T (by rw[e];exact Xd y)) ?_ ?_ ?_ ?_ ?_ ?_ ?_ ?_⟩
 .
  intro p hp;rcases c p hp with rfl|⟨hp,_⟩
  . exact .inl (Xp.2 ⟨_,y,rfl⟩)
  exact .inl (Xd hp)
 .
  intro p hp;rcases c p hp with rfl|⟨hp,_⟩
  . exact G
  exact h.hp.lt p hp
 . rw[qb1];exact z
 .
  intro p hp j b;rcases H p hp j b with⟨q,B,_,n⟩|⟨_,I⟩
  . exact⟨q,B,n⟩
  exact⟨_,o,I⟩
 .
  intro p hp q B j b I;rcases H p hp j b with⟨Y,hp',R,t⟩|⟨R,t⟩<;>rcases H q B j I with⟨Z,Q,u,n⟩|⟨u,n⟩
  . rw[<-R,<-u];exact h.hp.bD Y hp' Z Q j t n
  . have:=h.hp.bD Y hp' _ o j t n;simp only at this;rw[R]at this;exact absurd this (E p hp)
  . have:=h.hp.bD Z Q _ o j n t;simp only at this;rw[u]at this;exact absurd this (E q B)
  rw[R,u]
 .
  intro p hp j b D m;have m:β p.1=some (j,D):=m;rcases c p hp with rfl|⟨hp,d,_⟩
  .
   simp only at b m;rw[l]at b;rcases Xx.1 b with b|b
   . have:=h.hp.bD _ y _ o j (.inl ⟨D,m⟩) (N j (by simpa using b));exact M this
   exact (h.hp.ib _ y j b).2.2.1 _ y D m
  rw[k _ d]at b;exact (h.hp.ib p hp j b).2.2.1 p hp D m
 .
  intro p hp m;rcases c p hp with rfl|⟨hp,d,_⟩
  . cases m
  rw[k _ d];exact h.hp.i0 p hp m
 intro hA p hp';rcases c p hp' with rfl|⟨hp',d,_⟩
 . exact L β' _ hA (λ_=>rfl) (λg X U=>by rw[l];exact List.mem_append_left _ (by simp[gi,U])) (λg V=>by rw[l];exact List.mem_append_right _ V)
 exact q48 (β:=β) (β':=β') hA (Xe _) (λ_ _=>rfl) (h.hp.lt p hp') (λ_ _=>rfl) (λ_=>k _ d) (h.hp.obj p hp')
end
end
section
open Go Go.RowKit
section
variable {P:Program} {C:Ctx P} {s:St} {a:Act} {w:World} {β:aF}
theorem z3b(h:Rel C s a w β){id g:Nat}{j:TypeId}{k:List Value}{R:List (List AV)}{d:Option Nat}{m:List AV}(n:q0i s.hp id=some (.con (p8 P j g k R d) m)):
 ∃b c us,β id=some (b,c)/\b<w.heap.size/\j48 (λv=>∃l,keyOf P j v=some l) g k R d w b (β.inn id) (own β s.hp C.A) us/\y8 w β s.nx (own β s.hp C.A) m us:=by
 rcases h.hp.obj _ (q0k n)with⟨o,p,us,q,e,t,f⟩|⟨_,u,_⟩
 . exact⟨o,p,us,q,e,t,f⟩
 exact u.elim
theorem Rel.fq(h:Rel C s a w β){id:Nat}{q:TypeId}{n:List Value}{R:List (List AV)}{i:Nat}{r:List AV}(t:q0i s.hp id=some (.con (p8 P q 0 n R none) []))(G:R[i]?=some r):
 ∃β',Rel C {s with hp:=(s.nx,.box r)::q0t s.hp id (.con (p8 P q 0 n R (some i)) [.ptr s.nx 0]),nx:=s.nx+1} a w β':=by
 obtain⟨b,c,us,hb,y,⟨o,clock,gs,O,H,Q,S,T,I,z,J,h9⟩,U⟩:=z3b h t;have j:id<s.nx:=h.hp.lt _ (q0k t);have hi:i<R.length:=(Xb.1 G).1;have V:o.toList.length=n.length:=by rw[<-H,Xl]
 have A:i<o.toList.length:=by omega
 have K:=Xq A;obtain⟨p,cs,W,g1,g2,g3,X,Y⟩:=J i r _ G K (by simp);refine h.fw (o2:=.box r) (K':=p8 P q 0 n R (some i)) (ex':=[.ptr s.nx 0]) (some (p,0)) t rfl (λg Z f=>?_) λβ' ow' L B m D=>⟨?_,?_⟩
 . simp only[Xa,Xm]at f;rw[<-f.1];exact (z i p g1).1
 . refine⟨p,0,⟨cs⟩,W,m,g3,zf4 X.symm λk av u d l=>?_⟩;exact q5i L 0 _ (Nat.zero_le _) (λ_ f=>absurd f (Nat.not_lt_zero _)) _ _ (Y k av u d l)
 refine .inl ⟨b,c,[o.toList[i].val],(B id j).trans hb,y,⟨o,clock,λx=>if x=i then none else gs x,O,H,Q,S,T,λx M g d l=>?_,λx g d=>?_,λx r' e d l q3=>?_,.inr ⟨i,_,rfl,by simp,K,rfl⟩⟩,?_⟩
 .
  by_cases f:x=i<;>by_cases E:M=i<;>simp only[f,E,if_true,if_false]at d l
  . cases d
  . cases d
  . cases l
  exact I x M g d l
 .
  by_cases f:x=i<;>simp only[f,if_true,if_false]at d
  . cases d
  refine⟨D g (z x g d).1 λZ N=>?_,(z x g d).2⟩;simp only[Xa,Xm]at N;exact f (I x i g d (by rw[g1,N.1]))
 . have f:x≠i:=λe=>q3 (by rw[e]);simp only[f,if_false];exact q5q L (λ_ _=>rfl) (J x r' e d l (by simp))
 simp only[y8,rep];exact⟨⟨Xr _,p,0,m,g2⟩,trivial⟩
theorem Rel.fk(h:Rel C s a w β){id isz:Nat}{y:TypeId}{u:List Value}{R xs:List (List AV)}{i:Nat}(z:q0i s.hp id=some (.con (p8 P y 1 u R none) []))(J:R[i]?=some [.sl isz xs]):
 ∃β',Rel C {s with hp:=(s.nx,.arr isz xs)::q0t s.hp id (.con (p8 P y 1 u R (some i)) [.osl s.nx isz 0 xs.length]),nx:=s.nx+1} a w β':=by
 obtain⟨b,c,us,hb,B,⟨m,clock,gs,Z,K,h3,h4,h5,L,D,M,h9⟩,a6⟩:=z3b h z;have l:id<s.nx:=h.hp.lt _ (q0k z);have hi:i<R.length:=(Xb.1 J).1;have ao:m.toList.length=u.length:=by rw[<-K,Xl]
 have E:i<m.toList.length:=by omega
 have N:=Xq E;obtain⟨ar,O,Q,b0,S,o⟩:=M i _ _ J N (by simp);simp only[List.cons.injEq,and_true]at O;subst O;simp only[AV.sl.injEq]at S;obtain⟨rfl,rfl⟩:=S;obtain⟨gi,p,q⟩:∃gi:Option (Nat×Nat),gi.map (·.1)=gs i/\((gi=none/\xs=[]/\m.toList[i].val=.slice none 0 0)\/∃g d cap cur n,gi=some (g,d)/\m.toList[i].val=.slice (some ⟨g,0,none⟩) xs.length cap/\w.heap[g]?=some (.cells cur n (0,0))/\cur.size=d*isz/\xs.length<=cap/\cap<=d/\d<=maxLen/\q0p w noG (own β s.hp C.A) isz g xs 0):=by
  rcases o with⟨g1,g2,g3⟩|⟨g,d,cap,cur,n,g1,g2⟩
  . exact⟨none,by simp[g1],.inl ⟨rfl,g2,g3⟩⟩
  exact⟨some (g,d),by simp[g1],.inr ⟨g,d,cap,cur,n,rfl,g2⟩⟩
 refine h.fw (o2:=.arr isz xs) (K':=p8 P y 1 u R (some i)) (ex':=[.osl s.nx isz 0 xs.length]) gi z rfl (λg d k=>(D i g (by rw[<-p,k];rfl)).1) λβ' ow' T G j H=>⟨?_,?_⟩
 .
  rcases q with⟨g1,g2,g3⟩|⟨g,d,cap,cur,n,g1,g2,g3,U,V,g6,W,X⟩
  . exact .inl ⟨by rw[j];exact g1,g2⟩
  exact .inr ⟨g,d,cur,n,by rw[j];exact g1,g3,U,by omega,W,q29 T isz g (λ_ _ hu=>hu) xs 0 X⟩
 refine .inl ⟨b,c,[m.toList[i].val],(G id l).trans hb,B,⟨m,clock,λx=>if x=i then none else gs x,Z,K,h3,h4,h5,λx Y g f t=>?_,λx g f=>?_,λx r' e f t q3=>?_,.inr ⟨i,_,rfl,by simp,N,rfl⟩⟩,?_⟩
 .
  by_cases k:x=i<;>by_cases I:Y=i<;>simp only[k,I,if_true,if_false]at f t
  . cases f
  . cases f
  . cases t
  exact L x Y g f t
 .
  by_cases k:x=i<;>simp only[k,if_true,if_false]at f
  . cases f
  exact⟨H g (D x g f).1 λd hc=>k (L x i g f (by rw[<-p,hc];rfl)),(D x g f).2⟩
 . have k:x≠i:=λe=>q3 (by rw[e]);simp only[k,if_false];exact q5q T (λ_ _=>rfl) (M x r' e f t (by simp))
 simp only[y8,rep];refine⟨⟨Xr _,?_⟩,trivial⟩;rcases q with⟨g1,g2,g3⟩|⟨g,d,cap,cur,n,g1,g2,g3,U,V,g6,W,X⟩
 . exact .inl ⟨by rw[j];exact g1,by trivial,by rw[g2];rfl,g3⟩
 exact .inr ⟨g,d,cap,⟨g,0,none⟩,by rw[j];exact g1,g2,V,by omega,.inl (by simp)⟩
theorem Rel.eD(h:Rel C s a w β){id:Nat}{j:TypeId}{d:List Value}{R:List (List AV)}{i:Nat}{x:AV}(p:q0i s.hp id=some (.con (p8 P j 2 d R none) []))(q:R[i]?=some [x]):
 ∃β',Rel C {s with hp:=q0t s.hp id (.con (p8 P j 2 d R (some i)) [x])} a w β':=by
 obtain⟨b,c,us,hb,k,⟨f,clock,gs,B,t,D,E,G,H,I,u,U⟩,J⟩:=z3b h p;have hi:i<R.length:=(Xb.1 q).1;have K:f.toList.length=d.length:=by rw[<-t,Xl]
 have l:i<f.toList.length:=by omega
 have y:=Xq l;obtain⟨g1,M,z,N⟩:=u i _ _ q y (by simp);simp only[List.cons.injEq,and_true]at z;subst z;refine h.one (o':=.con (p8 P j 2 d R (some i)) [x]) (L:=β.inn id) p (λ_ h=>h) (λO=>by cases O) λβ' ow' A m n _=>?_;refine .inl ⟨b,c,[f.toList[i].val],(m id).trans hb,k,⟨f,clock,gs,B,t,D,E,G,H,λx g o=>by rw[n];exact I x g o,λx Q e o S V=>q5q A (λ_ _=>rfl) (u x Q e o S (by simp)),.inr ⟨i,_,rfl,g1,y,rfl⟩⟩,?_⟩;simp only[y8];exact⟨q5i A 0 _ (Nat.zero_le _) (λ_ T=>absurd T (Nat.not_lt_zero _)) _ _ N,trivial⟩
theorem zt1{id id2:Nat}{o o2:bT}(h:Rel C s a w β)(e:q0i s.hp id=some o)(b:q0i s.hp id2=some o2)(d:id≠id2){g c:Nat}(f:g∈β.inn id)(j:β id2=some (g,c)):False:=
 d (h.hp.bD _ (q0k e) _ (q0k b) g (.inr f) (.inl ⟨c,j⟩))
theorem Rel.fD(h:Rel C s a w β){id id2:Nat}{D:TypeId}{E:List Value}{R R':List (List AV)}{i:Nat}{r:List AV}(n:q0i s.hp id=some (.con (p8 P D 0 E R (some i)) [.ptr id2 0]))(f:q0i s.hp id2=some (.box r))(hp:r.all q9p=true)(S:R'=R.set i r):
 ∃β',Rel C {s with hp:=q0t (q4n s.hp id2) id (.con (p8 P D 0 E R' none) [])} a w β':=by
 subst S;obtain⟨b,c,us,hb,G,⟨T,clock,gs,U,K,V,W,L,X,A,Y,m⟩,o⟩:=z3b h n;have p:=z9f n f rfl rfl;rcases m with⟨m,_⟩|⟨i',e0,m,Z,q,rfl⟩
 . cases m
 simp only[Xa]at m;subst m;simp only[y8,rep,and_true]at o;obtain⟨_,M,C2,k1,k2⟩:=o;obtain⟨b3,C3,cur,e',B,k4,N⟩:=h.hp.obj _ (q0k f);simp only at B;rw[k1]at B;simp only[Xa,Xm]at B;obtain⟨rfl,rfl⟩:=B;have t:i<R.length:=by
  have:=(Xb.1 q).1;rw[L,<-K,Xl];exact this
 refine h.fv (K':=p8 P D 0 E (R.set i r) none) (ex':=[]) n f rfl λβ' ow' O H y I=>?_;refine .inl ⟨b,c,[],(H id).trans hb,G,⟨T,clock,λx=>if x=i then some M else gs x,U,K,V,W,by rw[Xh];exact L,λx J g d j=>?_,λx g d=>?_,λx r' e d j _=>?_,.inl ⟨rfl,rfl⟩⟩,by simp only[y8]⟩
 .
  by_cases l:x=i<;>by_cases z:J=i<;>simp only[l,z,if_true,if_false]at d j
  . rw[l,z]
  . simp only[Xa]at d;subst d;exact (zt1 h n f p (A J _ j).1 k1).elim
  . simp only[Xa]at j;subst j;exact (zt1 h n f p (A x _ d).1 k1).elim
  exact X x J g d j
 .
  rw[Xh]
  by_cases l:x=i<;>simp only[l,if_true,if_false]at d
  . simp only[Xa]at d;subst d;exact⟨y _ _ k1,by rw[l];exact t⟩
  exact⟨I g (A x g d).1,(A x g d).2⟩
 by_cases l:x=i
 . subst l;rw[Xi t]at d;simp only[Xa]at d;subst d;rw[q]at j;simp only[Xa]at j;subst j;simp only[if_true];exact⟨M,cur.toList,e',rfl,k2,k4,(q1t N).symm,λk av u Q q4=>qw6 O (β:=β) (z4u (Ye.1 hp _ (Xj Q)) (j61 N Q q4))⟩
 rw[Xk (λe=>l e.symm)]at d;simp only[l,if_false];exact q5q O (λ_ _=>rfl) (Y x r' e d j (λe=>l (by simpa using e.symm)))
theorem Rel.dr(h:Rel C s a w β){id id2 isz len:Nat}{I:TypeId}{J:List Value}{R R' xs:List (List AV)}{i:Nat}(o:q0i s.hp id=some (.con (p8 P I 1 J R (some i)) [.osl id2 isz 0 len]))(j:q0i s.hp id2=some (.arr isz xs))(p:len=xs.length)(Z:R'=R.set i [.sl isz xs]):
 ∃β',Rel C {s with hp:=q0t (q4n s.hp id2) id (.con (p8 P I 1 J R' none) [])} a w β':=by
 subst Z p;obtain⟨b,c,us,hb,K,⟨es,clock,gs,h1,U,h3,h4,V,h6,G,h8,m⟩,t⟩:=z3b h o;have u:=z9f o j rfl rfl;rcases m with⟨m,_⟩|⟨i',e0,m,a6,y,rfl⟩
 . cases m
 simp only[Xa]at m;subst m;simp only[y8,rep,and_true]at t;have z:=h.hp.obj _ (q0k j);simp only[q5u]at z
 let gi:Option Nat:=(β id2).map (·.1)
 have l:∀g,gi=some g->∃H,β id2=some (g,H):=λg d=>by
  simp only[gi]at d
  cases W:β id2 with
  |none=>rw[W]at d;cases d
  |some q=>rw[W]at d;simp only[Xn,Xa]at d;exact⟨q.2,by rw[<-d]⟩
 have A:i<R.length:=by
  have:=(Xb.1 y).1;rw[V,<-U,Xl];exact this
 refine h.fv (K':=p8 P I 1 J (R.set i [.sl isz xs]) none) (ex':=[]) o j rfl λβ' ow' X L B M=>?_;refine .inl ⟨b,c,[],(L id).trans hb,K,⟨es,clock,λx=>if x=i then gi else gs x,h1,U,h3,h4,by rw[Xh];exact V,λx N g f k=>?_,λx g f=>?_,λx r' e f k _=>?_,.inl ⟨rfl,rfl⟩⟩,by simp only[y8]⟩
 .
  by_cases d:x=i<;>by_cases D:N=i<;>simp only[d,D,if_true,if_false]at f k
  . rw[d,D]
  . obtain⟨H,E⟩:=l g f;exact (zt1 h o j u (G N _ k).1 E).elim
  . obtain⟨H,E⟩:=l g k;exact (zt1 h o j u (G x _ f).1 E).elim
  exact h6 x N g f k
 .
  rw[Xh]
  by_cases d:x=i<;>simp only[d,if_true,if_false]at f
  . obtain⟨H,E⟩:=l g f;exact⟨B _ _ E,by rw[d];exact A⟩
  exact⟨M g (G x g f).1,(G x g f).2⟩
 by_cases d:x=i
 .
  subst d;rw[Xi A]at f;simp only[Xa]at f;subst f;rw[y]at k;simp only[Xa]at k;subst k;simp only[if_true];refine⟨_,rfl,isz,xs,rfl,?_⟩;rcases t.2 with⟨k1,_,k2,O⟩|⟨Y,c2,cap,ad,k1,k2,O,k4,Q⟩
  . exact .inl ⟨by simp[gi,k1],List.eq_nil_of_length_eq_zero k2,O⟩
  rcases Q with rfl|⟨_,Q⟩
  .
   rcases z with⟨n,_⟩|⟨b3,c3,cur,e3,n,k7,k8,k9,S,T⟩
   . rw[k1]at n;cases n
   rw[k1]at n;simp only[Xa,Xm]at n;obtain⟨rfl,rfl⟩:=n;exact .inr ⟨Y,c2,cap,cur,e3,by simp[gi,k1],by rw[k2];simp,k7,k8,O,by omega,S,q29 X isz Y (λ_ _ hu=>hu) xs 0 T⟩
  exact absurd rfl Q
 rw[Xk (λe=>d e.symm)]at f;simp only[d,if_false];exact q5q X (λ_ _=>rfl) (h8 x r' e f k (λe=>d (by simpa using e.symm)))
theorem Rel.da(h:Rel C s a w β){id:Nat}{m:TypeId}{n:List Value}{R R':List (List AV)}{i:Nat}{x:AV}(A:q0i s.hp id=some (.con (p8 P m 2 n R (some i)) [x]))(hp:q9p x=true)(G:R'=R.set i [x]):
 ∃β',Rel C {s with hp:=q0t s.hp id (.con (p8 P m 2 n R' none) [])} a w β':=by
 subst G;obtain⟨b,c,us,hb,o,⟨H,clock,gs,I,B,J,K,D,M,N,O,f⟩,j⟩:=z3b h A;rcases f with⟨f,_⟩|⟨T,U,f,p,k,rfl⟩
 . cases f
 simp only[Xa]at f;subst f;simp only[y8,and_true]at j;have q:i<R.length:=by
  have:=(Xb.1 k).1;rw[D,<-B,Xl];exact this
 refine h.one (o':=.con (p8 P m 2 n (R.set i [x]) none) []) (L:=β.inn id) A (λ_ h=>h) (λQ=>by cases Q) λβ' ow' E t u _=>?_;refine .inl ⟨b,c,[],(t id).trans hb,o,⟨H,clock,gs,I,B,J,K,by rw[Xh];exact D,M,λx g d=>by rw[u,Xh];exact N x g d,λy S e d l _=>?_,.inl ⟨rfl,rfl⟩⟩,by simp only[y8]⟩
 by_cases z:y=i
 . subst z;rw[Xi q]at d;simp only[Xa]at d;subst d;rw[k]at l;simp only[Xa]at l;subst l;exact⟨p,_,rfl,qw6 E (β:=β) (z4u hp j)⟩
 rw[Xk (λe=>z e.symm)]at d;exact q5q E (λ_ _=>rfl) (O y S e d l (λe=>z (by simpa using e.symm)))
end
end
section
open Go Go.RowKit
class Key(α:Type) where
 kv:α->Value
 keq:α->α->Bool
 bX:∀{a b:α},keq a b=true↔a=b
 okb:α->Bool
 inj:∀{a b:α},kv a=kv b->a=b
instance:Key Int where
 kv n:=.int .i64 n
 keq a b:=a==b
 bX:=by simp
 okb n:=decide (-9223372036854775808<=n)&&decide (n<9223372036854775808)
 inj h:=by simpa using h
def d9{α:Type}[Key α](a:List α):List Value:=a.map Key.kv
def q3c{α:Type}[Key α]:List α->α->Option Nat
 |[],_=>none
 |x::r,k=>if Key.keq x k then some 0 else (q3c r k).map (· +1)
def qu8{α R:Type}(x:Option α)(a:Option R)(b:α->Option R):Option R:=match x with
 |none=>a
 |some i=>b i
theorem qd6{α R:Type}{x:Option α}{a:Option R}{b:α->Option R}{r:R}{p:Prop}(h:qu8 x a b=some r)(c:x=none->a=some r->p)(d:∀i,x=some i->b i=some r->p):p:=by
 cases x with
 |none=>exact c rfl h
 |some i=>exact d i rfl h
section
variable {α:Type} [Key α]
theorem z3l(a:List α):(d9 a).length=a.length:=by unfold d9;simp
theorem qb3:∀{b:List α} {k:α},q3c b k=none->k∉b
 |[],_,_=>by simp
 |x::r,k,h=>by
  unfold q3c at h
  split at h
  . cases h
  rename_i c
  simp only[Option.map_eq_none_iff]at h;have:=qb3 h;intro a;rcases Xg.1 a with rfl|a
  . exact c (Key.bX.2 rfl)
  exact this a
theorem z2e:∀{a:List α} {k:α} {i:Nat},q3c a k=some i->a[i]?=some k
 |[],_,_,h=>by cases h
 |x::r,k,i,h=>by
  unfold q3c at h
  split at h
  .
   rename_i b
   cases h
   rw[Key.bX.1 b];rfl
  simp only[Option.map_eq_some_iff]at h;obtain⟨j,c,rfl⟩:=h;rw[Xw];exact z2e c
theorem qo7{a:List α}{k:α}(h:q3c a k=none):Key.kv k∉d9 a:=λc=>by
 obtain⟨x,b,d⟩:=Xp.1 c;rw[Key.inj d]at b;exact qb3 h b
theorem qo6{a:List α}{k:α}{i:Nat}(h:q3c a k=some i):(d9 a)[i]?=some (Key.kv k):=by
 unfold d9;rw[Xc,z2e h];rfl
theorem z3m(a:List α)(k:α):d9 a++[Key.kv k]=d9 (a++[k]):=by unfold d9;simp
theorem j4u(a:List α)(i:Nat):(d9 a).eraseIdx i=d9 (a.eraseIdx i):=by
 unfold d9;refine Xo λj=>?_;rw[Xc,Xf,Xf]
 split<;>rw[Xc]
theorem j7a{β:Type}[Row β](vs:List β)(i:Nat):(enc vs).eraseIdx i=enc (vs.eraseIdx i):=by
 unfold enc;refine Xo λj=>?_;rw[Xc,Xf,Xf]
 split<;>rw[Xc]
theorem z3k{β:Type}[Row β]{vs:List β}{i:Nat}{v:β}(h:vs[i]?=some v):(enc vs)[i]?=some (Row.row v):=by
 unfold enc;rw[Xc,h];rfl
theorem q9j{β:Type}[Row β](vs:List β)(i:Nat)(v:β):enc (vs.set i v)=(enc vs).set i (Row.row v):=by
 unfold enc;rw[List.map_set]
theorem zd4{β:Type}[Row β]{vs:List β}{i:Nat}{v:β}(h:vs[i]?=some v):enc vs=(enc vs).set i (Row.row v):=by
 rw[<-q9j]
 congr 1
 refine Xo λj=>?_
 by_cases a:i=j
 . subst a;rw[Xi (Xb.1 h).1,h]
 rw[Xk a]
theorem z4l(a:List α)(k:α):(d9 (a++[k]))[a.length]?=some (Key.kv k):=by
 unfold d9;rw[Xc,Xt (Xe _),Nat.sub_self];rfl
def atK{β:Type}(vs:List β)(i:Nat):Option β:=vs[i]?
end
theorem wfK{n:Int}(h:-9223372036854775808<=n/\n<9223372036854775808):(Lit.int .i64 n).wf=true:=by
 have a:IntKind.min .i64=-9223372036854775808:=rfl;have b:IntKind.max .i64=9223372036854775807:=rfl;simp only[Lit.wf,a,b,Xv,decide_eq_true_eq];omega
theorem zz0:∀{hp:Hp},(hp.map (·.1)).Nodup->∀{id:Nat} {o:bT},(id,o)∈hp->q0i hp id=some o
 |[],_,_,_,h=>by cases h
 |(k,v)::r,hd,id,o,h=>by
  simp only[X6,Xy]at hd;unfold q0i;rcases Xg.1 h with h|h
  . cases h;rw[if_pos rfl]
  have a:k≠id:=λe=>hd.1 (by rw[e];exact Xd h);rw[if_neg a];exact zz0 hd.2 h
theorem eN{P:Program}{k:TypeId}(a:P.underlying k=some (.int .i64)){n:Int}(h:Key.okb n=true):∃l,keyOf P k (Key.kv n)=some l:=
 ⟨_,Go.Maps.keyOf_int_mk a (wfK (by simpa [Key.okb]using h))⟩
def zl2:List AV->List AV->Prop
 |[],[]=>True
 |a::r,b::q=>(a=b\/(a=.v (.slice none 0 0)/\∃sz,b=.sl sz []))/\zl2 r q
 |_,_=>False
theorem zy5:∀{r q:List AV},zl2 r q->r.length=q.length
 |[],[],_=>rfl
 |a::r,b::q,h=>by simp only[List.length_cons];rw[zy5 h.2]
 |[],_::_,h=>h.elim
 |_::_,[],h=>h.elim
theorem zy6:∀{r q:List AV},zl2 r q->∀{k:Nat} {b:AV},q[k]?=some b->∃a,r[k]?=some a/\(a=b\/(a=.v (.slice none 0 0)/\∃sz,b=.sl sz []))
 |[],[],_,_,_,h=>by simp at h
 |a::r,b::q,h,0,_,c=>by simp only[List.getElem?_cons_zero,Xa]at c;subst c;exact⟨a,rfl,h.1⟩
 |a::r,b::q,h,k+1,_,c=>by
  rw[Xw]at c⊢;exact zy6 h.2 c
 |[],_::_,h,_,_,_=>h.elim
 |_::_,[],h,_,_,_=>h.elim
theorem Rel.dF{P:Program}{C:Ctx P}{s:St}{a:Act}{w:World}{β:aF}(h:Rel C s a w β){id id2:Nat}{d:TypeId}{f:List Value}{R R':List (List AV)}{i:Nat}{r:List AV}(z:List AV)(A:q0i s.hp id=some (.con (p8 P d 0 f R (some i)) [.ptr id2 0]))(l:q0i s.hp id2=some (.box r))(hp:r.all q9p=true)(N:zl2 r z)(V:R'=R.set i z):
 ∃β',Rel C {s with hp:=q0t (q4n s.hp id2) id (.con (p8 P d 0 f R' none) [])} a w β':=by
 obtain⟨β',B⟩:=h.fD A l hp rfl;subst V;have m:q0i (q0t (q4n s.hp id2) id (.con (p8 P d 0 f (R.set i r) none) [])) id=some (.con (p8 P d 0 f (R.set i r) none) []):=by
  have W:=q0k A;have D:=z9f A l rfl rfl;have n:(id,bT.con (p8 P d 0 f (R.set i r) none) [])∈q0t (q4n s.hp id2) id (.con (p8 P d 0 f (R.set i r) none) []):=by
   have X:id∈(q0t (q4n s.hp id2) id (.con (p8 P d 0 f (R.set i r) none) [])).map (·.1):=by
    rw[qb1];exact Xp.2 ⟨_,z0h.2 ⟨W,D⟩,rfl⟩
   obtain⟨q,O,Y⟩:=Xp.1 X;rcases qn1 ((ca.map _).nodup h.hp.nd) O with E|⟨_,p⟩
   . rw[<-E];exact O
   exact absurd Y p
  exact zz0 B.hp.nd n
 obtain⟨b,c,us,hb,G,⟨Z,clock,gs,h1,h2,h3,h4,Q,h6,h7,S,h9⟩,a6⟩:=z3b B m;have t:=B.one (o':=.con (p8 P d 0 f (R.set i z) none) []) (L:=β'.inn id) m (λ_ h=>h) (λhc=>by cases hc) λao ow' T H I _=>by
  refine .inl ⟨b,c,[],(H id).trans hb,G,⟨Z,clock,gs,h1,h2,h3,h4,by rw[Xh]at Q⊢;exact Q,h6,λx g j=>by rw[I];have:=h7 x g j;rw[Xh]at this⊢;exact this,λx q e j U _=>?_,.inl ⟨rfl,rfl⟩⟩,by simp only[y8]⟩
  by_cases p:x=i
  .
   subst p;have u:x<R.length:=by have:=(Xb.1 j).1;rw[Xh]at this;exact this
   rw[Xi u]at j;simp only[Xa]at j;subst j;obtain⟨b2,cs,e',g1,g2,g3,g4,g5⟩:=S x r e (by rw[Xi u]) U (by simp);refine⟨b2,cs,e',g1,g2,g3,by rw[g4];exact zy5 N,λk av v k1 k2=>?_⟩;obtain⟨a0,k3,k4⟩:=zy6 N k1;have J:=qw6 (β':=noG) T (g5 k a0 v k3 k2);rcases k4 with rfl|⟨rfl,sz,rfl⟩
   . exact J
   simp only[rep]at J⊢;exact .inl ⟨trivial,none,0,J⟩
  rw[Xk (λe=>p e.symm)]at j;exact q5q T (λ_ _=>rfl) (S x q e (by rw[Xk (λe=>p e.symm)];exact j) U (by simp))
 obtain⟨K,y⟩:=t;refine⟨K,?_⟩;have M:∀(hp:Hp) (i:Nat) (o o':bT),q0t (q0t hp i o) i o'=q0t hp i o':=λhp i o o'=>by
  induction hp with
  |nil=>rfl
  |cons q r ih=>obtain⟨k,v⟩:=q;simp only[q0t];split<;>simp_all [q0t]
 rw[M]at y;exact y
attribute [go_sem] zh0 z3f z9c jr8 j9g jr9 jr7 z3l z3m j4u j7a
end
section
open Go Go.RowKit
def j0b(P:Program):Nat->TypeId->Bool
 |0,_=>false
 |d+1,t=>match P.underlying t with
  |some (.int .i64)=>P.cellsOf t==1
  |some (.array n e)=>j0b P d e&&(P.cellsOf t==n*P.cellsOf e)
  |some (.struct fs)=>fs.all (·.name !="_")&&fs.toList.all λf=>j0b P d f.type&&decide (f.offset+P.cellsOf f.type<=P.cellsOf t)
  |_=>false
theorem zl3{α β:Type}{f:α->Option β}:∀(l:List α),(∀x∈l,∃y,f x=some y)->∃ys,l.mapM f=some ys
 |[],_=>⟨[],rfl⟩
 |a::r,h=>by
  obtain⟨y,c⟩:=h a (Ya ..);obtain⟨ys,b⟩:=zl3 r λx d=>h x (List.mem_cons_of_mem _ d);exact⟨y::ys,by rw[List.mapM_cons,c,b];rfl⟩
theorem zl8{P:Program}:∀(d:Nat) (t:TypeId) (cs:List Value),j0b P d t=true->cs.length=P.cellsOf t->(∀c∈cs,∃n,c=.int .i64 n/\(Lit.int .i64 n).wf=true)->∃l,P.keyLits d t cs=some l
 |0,_,_,h,_,_=>by cases h
 |d+1,t,cs,h,b,j=>by
  unfold j0b at h
  split at h
  .
   rename_i g
   rw[eq_of_beq h]at b;obtain⟨c,rfl⟩:∃c,cs=[c]:=List.length_eq_one_iff.1 b;obtain⟨n,rfl,m⟩:=j c (Ya ..);refine⟨[.int .i64 n],?_⟩;unfold Program.keyLits;rw[g];simp only[m,and_self,if_true]
  .
   rename_i n e g
   simp only[Xv,beq_iff_eq]at h;obtain⟨ys,a⟩:=zl3 (f:=λi=>P.keyLits d e ((cs.drop (i*P.cellsOf e)).take (P.cellsOf e))) (List.range n) λi hi=>by
    refine zl8 d e _ h.1 ?_ λc k=>j c (X4 (X5 k));have hi:=List.mem_range.1 hi;have:(i+1)*P.cellsOf e<=n*P.cellsOf e:=Nat.mul_le_mul_right _ hi;rw[Nat.add_mul,Nat.one_mul]at this;rw[Yf,Yg,b,h.2];omega
   refine⟨ys.flatten,?_⟩;unfold Program.keyLits;rw[g];simp only[b,if_true,a,Xn]
  .
   rename_i fs g
   simp only[Xv,Ye,decide_eq_true_eq]at h;obtain⟨ys,a⟩:=zl3 (f:=λf=>P.keyLits d f.type ((cs.drop f.offset).take (P.cellsOf f.type))) fs.toList λf o=>by
    obtain⟨p,q⟩:=h.2 f o;refine zl8 d f.type _ p ?_ λc k=>j c (X4 (X5 k));rw[Yf,Yg,b];omega
   refine⟨ys.flatten,?_⟩;unfold Program.keyLits;rw[g];simp only[b,h.1,and_self,if_true,a,Xn]
  cases h
theorem j4g{P:Program}{t:TypeId}{cs:List Value}(b:(match P.underlying t with|some (.array _ _)|some (.struct _)=>true|_=>false)=true)(d:P.keyType t=true)(e:(Value.agg ⟨cs⟩).formed P t=true)(h:j0b P (P.types.size+1) t=true)(f:cs.length=P.cellsOf t)(g:∀c∈cs,∃n,c=.int .i64 n/\(Lit.int .i64 n).wf=true):∃l,keyOf P t (.agg ⟨cs⟩)=some l:=by
 obtain⟨j,a⟩:=zl8 _ t cs h f g;refine⟨.string (keyBytes j),?_⟩;unfold keyOf
 split at b<;>first|(cases b;done)|(rename_i k;rw[k];simp only[d,e,Bool.and_self,if_true,Value.cells,a,Xn])
theorem zp0{w:World}{β:aF}{nx:Nat}{ow:Nat->Prop}:∀{r q:List AV} {us:List Value},zl2 r q->y8 w β nx ow r us->y8 w β nx ow q us
 |[],[],_,_,h=>h
 |a::r,b::q,[],c,h=>by simp only[y8]at h
 |a::r,b::q,u::us,c,h=>by
  simp only[y8]at h⊢;refine⟨?_,zp0 c.2 h.2⟩;rcases c.1 with rfl|⟨rfl,sz,rfl⟩
  . exact h.1
  have:=h.1;simp only[rep]at this⊢;exact .inl ⟨trivial,none,0,this⟩
 |[],_::_,_,h,_=>h.elim
 |_::_,[],_,h,_=>h.elim
theorem Rel.fR{P:Program}{C:Ctx P}{s:St}{a:Act}{w:World}{β:aF}(h:Rel C s a w β){id:Nat}{r:List AV}(d:List AV)(f:q0i s.hp id=some (.box r))(g:zl2 r d):
 ∃β',Rel C {s with hp:=q0t s.hp id (.box d)} a w β':=
 h.one (o':=.box d) (L:=[]) f (λ_ h=>by cases h) (λ_=>rfl) λβ' ow' j c k _=>by
  obtain⟨b,l,cur,e,m,n,o⟩:=h.hp.obj _ (q0k f);exact⟨b,l,cur,e,(c id).trans m,n,zp0 g (q1x j _ _ (Xe _) (λx _=>c x) _ _ o)⟩
attribute [go_sem] List.headD_cons
theorem z2l{n:Int}(h:Key.okb n=true):∃m,Value.int .i64 n=.int .i64 m/\(Lit.int .i64 m).wf=true:=⟨n,rfl,wfK (by simpa [Key.okb]using h)⟩
end
end Go.Proofs.YtdcdfkdhomekeaaGreat

/-
  Maps of ours: lookups, updates, deletes; entries that are told apart. No condition beyond those that each theorem names.
-/
import Derived.Test.YtomicnbiniapfaaGreatLibD
set_option linter.unusedSimpArgs false
set_option linter.unusedVariables false
set_option linter.unusedSectionVars false
open Option renaming some.injEq->Xa,map_some->Xo
open List renaming getElem?_eq_some_iff->Xb,getElem?_map->Xc,mem_map_of_mem->Xd,getElem?_eraseIdx->Xf,mem_cons->Xg,length_set->Xh,getElem?_set_self->Xi,mem_of_getElem?->Xj,getElem?_set_ne->Xk,length_map->Xl,ext_getElem?->Xp,mem_map->Xq,getElem?_eq_getElem->Xr,length_eraseIdx->Xt,getElem?_append_right->Xu,getElem?_append_left->Xv,getElem?_cons_succ->Xx,mem_append->Xy,nodup_cons->Xz,mem_filter->X0,mem_of_mem_drop->X5,mem_of_mem_take->X6,map_cons->X7,mem_singleton->X9,length_append->Ya,mem_cons_self->Yb,getElem?_inj->Yd,all_eq_true->Yf,length_take->Yg,length_drop->Yh
open Nat renaming le_refl->Xe,lt_succ_self->Xs,le_succ->X3
open Prod renaming mk.injEq->Xm
open Bool renaming and_eq_true->Xw
open Array renaming mem_toList_iff->X4,getElem?_push->X8,toList_push->Yc,mem_append->Ye
namespace Go.Proofs.YtomicnbiniapfaaGreat
section
open Go Go.RowKit
def z8d(kd:Nat)(w:World)(ow:Nat->Prop)(g:Option Nat)(r:List AV)(u:Value):Prop:=
 match kd with
 |0=>∃b cs e,g=some b/\u=.pointer (some ⟨b,0,none⟩)/\w.heap[b]?=some (.cells ⟨cs⟩ e (0,0))/\cs.length=r.length/\∀(k:Nat) a v,r[k]?=some a->cs[k]?=some v->rep w noG 0 ow a v
 |1=>∃a,r=[a]/\j05 w ow g a u
 |_=>g=none/\∃a,r=[a]/\rep w noG 0 ow a u
def j6k(ok:Value->Prop)(kd:Nat)(I:List Value)(R:List (List AV))(G:Option Nat)(w:World)(b:Nat)(L:List Nat)(ow:Nat->Prop)(us:List Value):Prop:=
 ∃(T:Array MapEntry) (clock:Nat) (gs:Nat->Option Nat),w.heap[b]?=some (.map T clock)/\T.toList.map (·.key)=I/\I.Nodup/\(∀x∈I,ok x)/\R.length=I.length/\
  (∀i W g,gs i=some g->gs W=some g->i=W)/\(∀i g,gs i=some g->g∈L/\i<R.length)/\
  (∀i r e,R[i]?=some r->T.toList[i]?=some e->G≠some i->z8d kd w ow (gs i) r e.val)/\
  ((G=none/\us=[])\/∃i e,G=some i/\gs i=none/\T.toList[i]?=some e/\us=[e.val])
theorem q6b{kd:Nat}{w w':World}{ow ow':Nat->Prop}(I:aW w w' ow ow'){g:Option Nat}(T:∀b,g=some b->w'.heap[b]?=w.heap[b]?){r:List AV}{u:Value}(h:z8d kd w ow g r u):z8d kd w' ow' g r u:=by
 unfold z8d at h⊢
 split at h
 . obtain⟨b,cs,e,rfl,G,W,Z,h5⟩:=h;exact⟨b,cs,e,rfl,G,(T b rfl).trans W,Z,fun k a v h6 h7=>z0a I (h5 k a v h6 h7)⟩
 . obtain⟨a,rfl,G⟩:=h;exact⟨a,rfl,zn9 I T G⟩
 obtain⟨h1,a,rfl,G⟩:=h;exact⟨h1,a,rfl,z0a I G⟩
def p9(P:Program)(kt:TypeId)(kd:Nat)(ks:List Value)(R:List (List AV))(I:Option Nat):Con where
 k:=none
 P w b _ L ow us:=j6k (fun v=>∃l,keyOf P kt v=some l) kd ks R I w b L ow us
 N:=False
 mpk:=some (fun v=>∃l,keyOf P kt v=some l,ks,I)
 mpl:=fun {w b C L ow us ok ks' foc'} hm ⟨T,clock,gs,W,Z,h3,h4,h5,h6,h7,h8,G⟩=>by
  simp only[Xa,Xm]at hm;obtain⟨rfl,rfl,rfl⟩:=hm;refine⟨T,clock,W,Z,h3,h4,fun i hi=>?_⟩;rcases G with⟨G,_⟩|⟨i',e,G,_,a6,rfl⟩
  . rw[hi]at G;cases G
  rw[hi]at G;simp only[Xa]at G;subst G;exact⟨_,rfl,by rw[a6];rfl⟩
 mono:=fun hA hk ⟨T,clock,gs,W,Z,h3,h4,h5,h6,h7,h8,G⟩=>⟨T,clock,gs,(hk _ (.inl rfl)).trans W,Z,h3,h4,h5,h6,h7,fun i r e hr he hf=>q6b hA (fun b hb=>hk b (.inr (h7 i b hb).1)) (h8 i r e hr he hf),G⟩
 cells:=fun hn=>by cases hn
 wr:=fun hn=>by cases hn
section
variable {P:Program} {kt:TypeId} {kd:Nat} {ks:List Value} {R:List (List AV)} {foc:Option Nat}
theorem jy5:(p9 P kt kd ks R foc).k=none:=rfl
theorem jf4:(p9 P kt kd ks R foc).raw=false:=rfl
theorem jy6:(p9 P kt kd ks R foc).N=False:=rfl
theorem jy4:(p9 P kt kd ks R foc).mpk=some (fun v=>∃l,keyOf P kt v=some l,ks,foc):=rfl
end
section
variable {P:Program} {C:Ctx P} {s:St} {a:Act} {w:World} {β:aI}
theorem Rel.dH(h:Rel C s a w β){w':World}{id b c:Nat}{K K':Con}{ex ex':List AV}(hg:q0i s.hp id=some (.con K ex))(hb:β id=some (b,c))(a6:w'.heap.size=w.heap.size)(hK:∀b',b'≠b->w'.heap[b']?=w.heap[b']?)
 (aj:aW w w' (own β s.hp C.A) (own β (q0u s.hp id (.con K' ex')) C.A)->(∀g∈β.inn id,w'.heap[g]?=w.heap[g]?)->q6f w' β s.nx (own β (q0u s.hp id (.con K' ex')) C.A) id (.con K' ex'))
 (ho:w'.os=w.os)(ht:w'.tape=w.tape)(ak:w'.output=w.output/\(dkF=true->w.drawn<=w'.drawn)):Rel C {s with hp:=q0u s.hp id (.con K' ex')} a w' β:=by
 have hm:=q0k hg;have T:∀p∈q0u s.hp id (.con K' ex'),p=(id,.con K' ex')\/(p∈s.hp/\p.1≠id):=fun p hp=>qs7 h.hp.nd hp;have I:∀p∈q0u s.hp id (.con K' ex'),∃q∈s.hp,q.1=p.1:=fun p hp=>by
  rcases T p hp with rfl|⟨hp,_⟩
  . exact⟨_,hm,rfl⟩
  exact⟨p,hp,rfl⟩
 have an:∀g∈β.inn id,g≠b:=fun g hg e=>(h.hp.ib _ hm g hg).2.2.1 _ hm c (by rw[e];exact hb);refine h.dr (Xe _) (fun _ _=>rfl) (fun _ _ _=>rfl) ?_ ?_ (by rw[qh8];exact h.hp.nd) (by rw[a6];exact Xe _) (fun b' _ ar=>hK b' fun e=>ar ⟨_,hm,.inl ⟨c,by rw[e];exact hb⟩⟩) ?_ ?_ ?_ ?_ ?_ ho ht ak
 . intro p hp;obtain⟨q,W,Z⟩:=I p hp;exact .inl (Z▸Xd W)
 . intro p hp;obtain⟨q,W,Z⟩:=I p hp;exact Z▸h.hp.lt q W
 . intro p hp b1 G;obtain⟨q,W,Z⟩:=I p hp;rw[<-Z]at G;exact⟨by rw[a6];exact h.hp.bB q W b1 G,.inl ⟨q,W,G⟩⟩
 . intro p hp q W b1 G ao;obtain⟨p',hp',Z⟩:=I p hp;obtain⟨q',b2,b3⟩:=I q W;rw[<-Z]at G⊢;rw[<-b3]at ao⊢;exact h.hp.bf p' hp' q' b2 b1 G ao
 . intro p hp b1 G C' hc;obtain⟨q,W,Z⟩:=I p hp;rw[<-Z]at G hc;exact (h.hp.ib q W b1 G).2.2.1 q W C' hc
 .
  intro p hp aq;rcases T p hp with rfl|⟨hp,hx⟩
  . cases aq
  exact h.hp.i0 p hp aq
 intro hA p hp;rcases T p hp with rfl|⟨hp,hx⟩
 . exact aj hA fun g hg=>hK g (an g hg)
 exact q47 (β:=β) (β':=β) hA (Xe _) (fun _ _=>rfl) (h.hp.lt p hp) (fun b1 G=>hK b1 fun e=>hx (h.hp.bf p hp _ hm b1 G (.inl ⟨c,by rw[e];exact hb⟩))) (fun _=>rfl) (h.hp.obj p hp)
end
end
section
open Go Go.RowKit
section
variable {P:Program} {C:Ctx P} {s:St} {a:Act} {w:World} {β:aI}
theorem j87{w:World}{b:Nat}{o:Obj}(h:b<w.heap.size):({w with heap:=w.heap.setIfInBounds b o}:World).heap[b]?=some o:=by
 show (w.heap.setIfInBounds b o)[b]?=_
 rw[Array.getElem?_setIfInBounds_self_of_lt h]
theorem j86{w:World}{b G:Nat}{o:Obj}(h:G≠b):({w with heap:=w.heap.setIfInBounds b o}:World).heap[G]?=w.heap[G]?:=by
 show (w.heap.setIfInBounds b o)[G]?=_
 rw[Array.getElem?_setIfInBounds_ne (fun e=>h e.symm)]
theorem Rel.dg(h:Rel C s a w β){id b c kd kd':Nat}{kt kt':TypeId}{ks ks':List Value}{R R':List (List AV)}{Z foc':Option Nat}{ex ex':List AV}{es es':Array MapEntry}{clock clock':Nat}(hg:q0i s.hp id=some (.con (p9 P kt kd ks R Z) ex))(hb:β id=some (b,c))(he:w.heap[b]?=some (.map es clock))
 (I:∀(w':World) (ow':Nat->Prop),aW w w' (own β s.hp C.A) ow'->(∀g∈β.inn id,w'.heap[g]?=w.heap[g]?)->w'.heap[b]?=some (.map es' clock')->∃G,j6k (fun v=>∃l,keyOf P kt' v=some l) kd' ks' R' foc' w' b (β.inn id) ow' G/\y9 w' β s.nx ow' ex' G):
 Rel C {s with hp:=q0u s.hp id (.con (p9 P kt' kd' ks' R' foc') ex')} a {w with heap:=w.heap.setIfInBounds b (.map es' clock')} β:=by
 have T:b<w.heap.size:=(Array.getElem?_eq_some_iff.1 he).1;refine h.dH hg hb (by simp) (fun b' a6=>j86 a6) (fun hA W=>?_) rfl rfl ⟨rfl,fun _=>Xe _⟩;obtain⟨G,h1,h2⟩:=I _ _ hA W (j87 T);exact .inl ⟨b,c,G,hb,by simpa using T,h1,h2⟩
theorem jf3(h:Rel C s a w β){m:Operand}{id kd:Nat}{kt:TypeId}{ks:List Value}{R:List (List AV)}{I:Option Nat}{ex:List AV}(W:(x8 s.env m).aU)(hm:(x8 s.env m).st=.mp id)(hg:q0i s.hp id=some (.con (p9 P kt kd ks R I) ex)):
 ∃b c us,a.eval m=.map (some b)/\β id=some (b,c)/\j6k (fun v=>∃l,keyOf P kt v=some l) kd ks R I w b (β.inn id) (own β s.hp C.A) us/\y9 w β s.nx (own β s.hp C.A) ex us:=by
 have G:=q2c h W;rw[hm]at G;simp only[rep]at G;obtain⟨_,b,c,hb,G⟩:=G;rcases h.hp.obj _ (q0k hg)with⟨b',c',us,T,_,hP,Z⟩|⟨_,hN,_⟩
 rotate_left
 . exact hN.elim
 simp only at T;rw[hb]at T;simp only[Xa,Xm]at T;obtain⟨rfl,rfl⟩:=T;exact⟨b,c,us,G,hb,hP,Z⟩
theorem j63{o:Oper}{t T e:TypeId}{m k v:Operand}{id kd:Nat}{kv:Value}{G:List Value}{R:List (List AV)}{K:St->Prop}(row:List AV)
 (ho:o.op=.mapUpdate t m k v)(ao:(x8 s.env m).aU)(aq:(x8 s.env k).aU)(ar:(x8 s.env v).aU)(hm:(x8 s.env m).st=.mp id)(hg:q0i s.hp id=some (.con (p9 P T kd G R none) []))(ht:P.underlying t=some (.map T e))
 (hK:Go.Maps.Keyed P T)(b1:z5c (x8 s.env k).st=some kv)(hl:∃l,keyOf P T kv=some l)(a6:kv∉G)
 (hk:K (({s with hp:=q0u s.hp id (.con (p9 P T kd (G++[kv]) (R++[row]) (some G.length)) [(x8 s.env v).st])}:St).put o.dst (.v undef))):opW P o s K:=by
 intro hd C a w β h Q;obtain⟨b,c,us,b2,hb,⟨Z,clock,gs,h1,h2,h3,h4,h5,h6,h7,h8,h9⟩,bv⟩:=jf3 h ao hm hg;have aj:=z3t b1 (q2c h aq);have b3:=q2c h ar;obtain⟨l,hl⟩:=hl;have b4:∀e∈Z.toList,e.key≠kv:=fun e he I=>a6 (by rw[<-h2,<-I];exact Xd he);have W:(Instr.findKey T kv Z.toList).run P w=.ok none w:=by
  rcases hK.find w hl Z.toList (fun e he=>h4 _ (by rw[<-h2];exact Xd he))with⟨f1,_⟩|⟨j,e0,_,f2,f3⟩
  . exact f1
  exact absurd f3 (b4 e0 (Xj f2))
 have ak:(execOp a.eval o).run P w=.ok .skip {w with heap:=w.heap.setIfInBounds b (.map (Z.push ⟨kv,a.eval v,clock⟩) (clock+1))}:=by
  unfold execOp;simp only[ho,b2,aj];simp[Instr.mapUpdate,run_underlying ht,MapKept.run_getObj_map h1,hK.check w false hl,W,MapKept.run_setObj_map _ h1,Result.andThen]
 unfold Oper.wp;rw[ak];have b5:Z.toList.length=G.length:=by rw[<-h2,Xl]
 have b6:=h.dg (kt':=T) (kd':=kd) (ks':=G++[kv]) (R':=R++[row]) (foc':=some G.length) (ex':=[(x8 s.env v).st]) (es':=Z.push ⟨kv,a.eval v,clock⟩) (clock':=clock+1) hg hb h1 fun w' ow' hA an bi=>by
  refine⟨[a.eval v],⟨_,_,gs,bi,?_,?_,?_,?_,h6,fun i g hi=>⟨(h7 i g hi).1,?_⟩,fun i r e hr he hf=>?_,.inr ⟨G.length,⟨kv,a.eval v,clock⟩,rfl,?_,?_,rfl⟩⟩,?_⟩
  . simp[h2]
  . exact List.nodup_append.2 ⟨h3,by simp,fun x I y hy e=>by rw[X9]at hy;subst hy;subst e;exact a6 I⟩
  .
   intro x I;rw[Xy,X9]at I;rcases I with I|rfl
   . exact h4 x I
   exact⟨l,hl⟩
  . simp[h5]
  . rw[Ya];have:=(h7 i g hi).2;omega
  . have c0:i≠G.length:=fun e=>hf (by rw[e]);have hi:=(Xb.1 hr).1;rw[Ya,List.length_singleton]at hi;rw[Xv (by omega)]at hr;rw[Yc,Xv (by omega)]at he;exact q6b hA (fun g bs=>an g (h7 i g bs).1) (h8 i r e hr he (by simp))
  .
   cases I:gs G.length with
   |none=>rfl
   |some g=>have:=(h7 _ g I).2;omega
  . rw[Yc,<-b5,Xu (Xe _),Nat.sub_self];rfl
  simp only[y9];exact⟨q5w hA _ _ (Xe _) (fun _ _=>rfl) _ _ b3,trivial⟩
 exact⟨_,_,b6.put (by simp only[rep]) hd,hk⟩
theorem j62{o:Oper}{t kt e:TypeId}{m k v:Operand}{id kd i:Nat}{kv:Value}{x:AV}{ks:List Value}{R:List (List AV)}{K:St->Prop}
 (ho:o.op=.mapUpdate t m k v)(aq:(x8 s.env m).aU)(ar:(x8 s.env k).aU)(b1:(x8 s.env v).aU)(hm:(x8 s.env m).st=.mp id)(hg:q0i s.hp id=some (.con (p9 P kt kd ks R (some i)) [x]))(ht:P.underlying t=some (.map kt e))
 (hK:Go.Maps.Keyed P kt)(b2:z5c (x8 s.env k).st=some kv)(a6:ks[i]?=some kv)
 (hk:K (({s with hp:=q0u s.hp id (.con (p9 P kt kd ks R (some i)) [(x8 s.env v).st])}:St).put o.dst (.v undef))):opW P o s K:=by
 intro hd C a w β h Q;obtain⟨b,c,us,b3,hb,⟨Z,clock,gs,h1,h2,h3,h4,h5,h6,h7,h8,h9⟩,c2⟩:=jf3 h aq hm hg;rcases h9 with⟨h9,_⟩|⟨i',e0,h9,b4,G,rfl⟩
 . cases h9
 simp only[Xa]at h9;subst h9;have ak:=z3t b2 (q2c h ar);have b5:=q2c h b1;have I:e0.key=kv:=by
  rw[<-h2,Xc,G]at a6
  simpa using a6
 obtain⟨l,hl⟩:=h4 kv (Xj a6);have aj:(Instr.findKey kt kv Z.toList).run P w=.ok (some (i,e0.val)) w:=by
  rcases hK.find w hl Z.toList (fun e he=>h4 _ (by rw[<-h2];exact Xd he))with⟨_,f2⟩|⟨j,e1,f1,f2,f3⟩
  . exact absurd I (f2 e0 (Xj G))
  have b6:(Z.toList.map (·.key)).Nodup:=by rw[h2];exact h3
  have q1:(Z.toList.map (·.key))[j]?=some kv:=by rw[Xc,f2];simp[f3]
  have q2:(Z.toList.map (·.key))[i]?=some kv:=by rw[Xc,G];simp[I]
  have bi:j=i:=(Yd (Xb.1 q1).1 b6).1 (q1.trans q2.symm);subst bi;rw[G]at f2;cases f2;exact f1
 have hj:Z[i]?=some e0:=by simpa using G
 have an:(execOp a.eval o).run P w=.ok .skip {w with heap:=w.heap.setIfInBounds b (.map (Z.modify i fun e=>{e with key:=kv,val:=a.eval v}) clock)}:=by
  unfold execOp;simp only[ho,b3,ak];simp[Instr.mapUpdate,run_underlying ht,MapKept.run_getObj_map h1,hK.check w false hl,aj,hj,I,hK.stays w hl,MapKept.run_setObj_map _ h1,Result.andThen]
 unfold Oper.wp;rw[an];have T:∀j,(Z.modify i fun e=>{e with key:=kv,val:=a.eval v}).toList[j]?=if i=j then some {e0 with key:=kv,val:=a.eval v}else Z.toList[j]?:=fun j=>by
  rw[Array.toList_modify,List.getElem?_modify]
  by_cases W:i=j
  . subst W;simp[G]
  simp[W]
 have bs:=h.dg (kt':=kt) (kd':=kd) (ks':=ks) (R':=R) (foc':=some i) (ex':=[(x8 s.env v).st]) (es':=Z.modify i fun e=>{e with key:=kv,val:=a.eval v}) (clock':=clock) hg hb h1 fun w' ow' hA ao bv=>by
  refine⟨[a.eval v],⟨_,_,gs,bv,?_,h3,h4,h5,h6,h7,fun j r e hr he hf=>?_,.inr ⟨i,{e0 with key:=kv,val:=a.eval v},rfl,b4,by rw[T,if_pos rfl],rfl⟩⟩,?_⟩
  .
   refine Xp fun j=>?_;rw[Xc,T]
   by_cases W:i=j
   . subst W;rw[if_pos rfl,a6];rfl
   rw[if_neg W,<-h2,Xc]
  . have c0:i≠j:=fun e=>hf (by rw[e]);rw[T,if_neg c0]at he;exact q6b hA (fun g c1=>ao g (h7 j g c1).1) (h8 j r e hr he hf)
  simp only[y9];exact⟨q5w hA _ _ (Xe _) (fun _ _=>rfl) _ _ b5,trivial⟩
 exact⟨_,_,bs.put (by simp only[rep]) hd,hk⟩
theorem j64{o:Oper}{cl:Call}{t kt kt' e:TypeId}{m k:Operand}{id kd i:Nat}{kv:Value}{x:AV}{ks:List Value}{R:List (List AV)}{K:St->Prop}
 (ho:o.op=.call cl)(b1:cl.callee=.builtin .delete)(ak:cl.args.toList=[m,k])(b2:cl.argTypes.toList=[t,kt'])(b3:(x8 s.env m).aU)(b4:(x8 s.env k).aU)(hm:(x8 s.env m).st=.mp id)(hg:q0i s.hp id=some (.con (p9 P kt kd ks R (some i)) [x]))(ht:P.underlying t=some (.map kt e))
 (hK:Go.Maps.Keyed P kt)(b5:z5c (x8 s.env k).st=some kv)(T:ks[i]?=some kv)
 (hk:K (({s with hp:=q0u s.hp id (.con (p9 P kt kd (ks.eraseIdx i) (R.eraseIdx i) none) [])}:St).put o.dst (.tup []))):opW P o s K:=by
 intro hd C a w β h Q;obtain⟨b,c,us,b6,hb,⟨I,clock,gs,h1,h2,h3,h4,h5,h6,h7,h8,h9⟩,c3⟩:=jf3 h b3 hm hg;rcases h9 with⟨h9,_⟩|⟨i',e0,h9,c4,G,rfl⟩
 . cases h9
 simp only[Xa]at h9;subst h9;have aq:=z3t b5 (q2c h b4);have W:e0.key=kv:=by
  rw[<-h2,Xc,G]at T
  simpa using T
 obtain⟨l,hl⟩:=h4 kv (Xj T);have an:(Instr.findKey kt kv I.toList).run P w=.ok (some (i,e0.val)) w:=by
  rcases hK.find w hl I.toList (fun e Z=>h4 _ (by rw[<-h2];exact Xd Z))with⟨_,f2⟩|⟨j,e1,f1,f2,f3⟩
  . exact absurd W (f2 e0 (Xj G))
  have bi:(I.toList.map (·.key)).Nodup:=by rw[h2];exact h3
  have q1:(I.toList.map (·.key))[j]?=some kv:=by rw[Xc,f2];simp[f3]
  have q2:(I.toList.map (·.key))[i]?=some kv:=by rw[Xc,G];simp[W]
  have bs:j=i:=(Yd (Xb.1 q1).1 bi).1 (q1.trans q2.symm);subst bs;rw[G]at f2;cases f2;exact f1
 have bv:i<I.size:=by have:=(Xb.1 G).1;simpa using this
 have a6:(I.eraseIdxIfInBounds i).toList=I.toList.eraseIdx i:=by
  unfold Array.eraseIdxIfInBounds;rw[dif_pos bv];simp
 have e2:cl.args=#[m,k]:=Array.ext' ak;have e3:cl.argTypes=#[t,kt']:=Array.ext' b2;have ar:(execOp a.eval o).run P w=.ok (.value (.tuple #[])) {w with heap:=w.heap.setIfInBounds b (.map (I.eraseIdxIfInBounds i) clock)}:=by
  unfold execOp;simp only[ho];simp[resolve,b1,e2,e3,invoke,builtin,b6,aq,Builtin.delete_,run_underlying ht,MapKept.run_getObj_map h1,hK.check w _ hl,an,MapKept.run_setObj_map _ h1,Result.andThen]
 unfold Oper.wp;rw[ar];have c0:i<R.length:=by rw[h5];exact (Xb.1 T).1
 have c1:=h.dg (kt':=kt) (kd':=kd) (ks':=ks.eraseIdx i) (R':=R.eraseIdx i) (foc':=none) (ex':=[]) (es':=I.eraseIdxIfInBounds i) (clock':=clock) hg hb h1 fun w' ow' hA aj c2=>by
  refine⟨[],⟨_,_,fun j=>gs (if j<i then j else j+1),c2,?_,?_,fun x hx=>h4 x (List.mem_of_mem_eraseIdx hx),?_,fun j j' g q1 q2=>?_,fun j g q1=>⟨(h7 _ g q1).1,?_⟩,fun j r e hr Z _=>?_,.inl ⟨rfl,rfl⟩⟩,by simp only[y9]⟩
  .
   rw[a6,<-h2];refine Xp fun j=>?_;rw[Xc,Xf,Xf]
   split<;>rw[Xc]
  . exact h3.sublist (List.eraseIdx_sublist _ _)
  . rw[Xt,Xt,h5]
  .
   have:=h6 _ _ g q1 q2
   split at this<;>split at this<;>omega
  .
   have q2:=(h7 _ g q1).2;rw[Xt,if_pos c0]
   by_cases hj:j<i
   . omega
   rw[if_neg hj]at q2;omega
  rw[a6]at Z;rw[Xf]at hr Z
  by_cases hj:j<i
  .
   rw[if_pos hj]at hr Z
   show z8d kd w' ow' (gs (if j<i then j else j+1)) r e.val
   rw[if_pos hj];exact q6b hA (fun g ao=>aj g (h7 j g ao).1) (h8 j r e hr Z (fun e=>by simp at e;omega))
  rw[if_neg hj]at hr Z
  show z8d kd w' ow' (gs (if j<i then j else j+1)) r e.val
  rw[if_neg hj];exact q6b hA (fun g ao=>aj g (h7 _ g ao).1) (h8 _ r e hr Z (fun e=>by simp at e;omega))
 exact⟨_,_,c1.put (by simp only[rep];exact⟨[],rfl,by simp only[y9]⟩) hd,hk⟩
theorem j3k{o:Oper}{t kt e:TypeId}(kd:Nat){K:St->Prop}(ho:o.op=.makeMap t none)(ht:P.underlying t=some (.map kt e))
 (hk:K (({s with hp:=(s.nx,.con (p9 P kt kd [] [] none) [])::s.hp,nx:=s.nx+1}:St).put o.dst (.mp s.nx))):opW P o s K:=by
 intro hd C a w β h Q;have Z:(execOp a.eval o).run P w=.ok (.value (.map (some w.heap.size))) (w.alloc (.map #[] 0)):=by
  unfold execOp;simp only[ho];simp[Instr.makeMap]
 unfold Oper.wp;rw[Z];have I:∀q,q<s.nx->∀b,bof (upd β s.nx (some (w.heap.size,0))) q b->bof β q b:=fun q G b hb=>(z4d G).1 hb;have T:∀b,bof (upd β s.nx (some (w.heap.size,0))) s.nx b->b=w.heap.size:=fun b hb=>by
  obtain⟨c,W⟩:=z4p hb;simp only[Xa,Xm]at W;exact W.1.symm
 have aj:(w.alloc (.map #[] 0)).heap.size=w.heap.size+1:=by show (w.heap.push (.map #[] 0)).size=_;exact Array.size_push ..
 have a6:∀b,b<w.heap.size->(w.alloc (.map #[] 0)).heap[b]?=w.heap[b]?:=fun b hb=>by show (w.heap.push (.map #[] 0))[b]?=_;rw[X8,if_neg (by omega)]
 have h2:Rel C {s with hp:=(s.nx,.con (p9 P kt kd [] [] none) [])::s.hp,nx:=s.nx+1} a (w.alloc (.map #[] 0)) (upd β s.nx (some (w.heap.size,0))):=by
  refine h.dr (X3 _) (fun q G=>q35 _ _ _ _ G) (fun q G _=>q6c _ _ _ _ G) ?_ ?_ ?_ (by omega) (fun b hb _=>a6 b hb) ?_ ?_ ?_ ?_ ?_ rfl rfl ⟨rfl,fun _=>Xe _⟩
  .
   intro p hp;rcases Xg.1 hp with rfl|hp
   . exact .inr (Xe _)
   exact .inl (Xd hp)
  .
   intro p hp;rcases Xg.1 hp with rfl|hp
   . exact Xs _
   exact Nat.lt_succ_of_lt (h.hp.lt p hp)
  . simp only[X7,Xz];refine⟨fun hx=>?_,h.hp.nd⟩;obtain⟨q,G,he⟩:=Xq.1 hx;have:=h.hp.lt q G;omega
  .
   intro p hp b hb;rcases Xg.1 hp with rfl|hp
   . rw[T b hb];exact⟨by omega,.inr (Xe _)⟩
   have:=I _ (h.hp.lt p hp) b hb;exact⟨by have:=h.hp.bB p hp b this;omega,.inl ⟨p,hp,this⟩⟩
  .
   intro p hp q G b h1 h2;rcases Xg.1 hp with rfl|hp<;>rcases Xg.1 G with rfl|G
   . rfl
   . have:=T b h1;have:=h.hp.bB q G b (I _ (h.hp.lt q G) b h2);omega
   . have:=T b h2;have:=h.hp.bB p hp b (I _ (h.hp.lt p hp) b h1);omega
   exact h.hp.bf p hp q G b (I _ (h.hp.lt p hp) b h1) (I _ (h.hp.lt q G) b h2)
  .
   intro p hp b hb c W;rcases Xg.1 hp with rfl|hp
   . rw[qg6]at hb;cases hb
   rw[q6c _ _ _ _ (h.hp.lt p hp)]at hb;rw[q35 _ _ _ _ (h.hp.lt p hp)]at W;exact (h.hp.ib p hp b hb).2.2.1 p hp c W
  .
   intro p hp W;rcases Xg.1 hp with rfl|hp
   . exact qg6 _ _ _
   rw[q6c _ _ _ _ (h.hp.lt p hp)];exact h.hp.i0 p hp W
  intro hA p hp;rcases Xg.1 hp with rfl|hp
  . refine .inl ⟨w.heap.size,0,[],q1i _ _ _,by omega,⟨#[],0,fun _=>none,by show (w.heap.push (.map #[] 0))[w.heap.size]?=_;rw[X8,if_pos rfl],rfl,List.nodup_nil,by simp,rfl,(fun _ _ _ hx=>by cases hx),(fun _ _ hx=>by cases hx),by simp,.inl ⟨rfl,rfl⟩⟩,by simp only[y9]⟩
  exact q47 hA (X3 _) (fun q G=>q35 _ _ _ _ G) (h.hp.lt p hp) (fun b hb=>a6 b (h.hp.bB p hp b hb)) (fun _=>q6c _ _ _ _ (h.hp.lt p hp)) (h.hp.obj p hp)
 refine⟨_,_,h2.put ?_ hd,hk⟩;simp only[rep];exact⟨Xs _,w.heap.size,0,q1i _ _ _,rfl⟩
theorem z3p{o:Oper}{t T e:TypeId}{m k v:Operand}{id kd:Nat}{kv:Value}{W:List Value}{R:List (List AV)}{K:St->Prop}(row:List AV)
 (hk:K (({s with hp:=q0u s.hp id (.con (p9 P T kd (W++[kv]) (R++[row]) (some W.length)) [(x8 s.env v).st])}:St).put o.dst (.v undef)))
 (Z:o.op=.mapUpdate t m k v)(a6:(x8 s.env m).aU)(aj:(x8 s.env k).aU)(ak:(x8 s.env v).aU)(hm:(x8 s.env m).st=.mp id)(hg:q0i s.hp id=some (.con (p9 P T kd W R none) []))(ht:P.underlying t=some (.map T e))
 (hK:Go.Maps.Keyed P T)(an:z5c (x8 s.env k).st=some kv)(hl:∃l,keyOf P T kv=some l)(ao:kv∉W):opS P o s K:=by
 refine⟨_,s.nx,_,hk,fun G I K' aq=>?_⟩;have em:x8 G m=x8 s.env m:=I m (by rw[Z];simp[Op.operands]);have ek:x8 G k=x8 s.env k:=I k (by rw[Z];simp[Op.operands]);have ev:x8 G v=x8 s.env v:=I v (by rw[Z];simp[Op.operands]);exact j63 (s:={s with env:=G}) row Z (by rw[em];exact a6) (by rw[ek];exact aj) (by rw[ev];exact ak) (by rw[em];exact hm) hg ht hK (by rw[ek];exact an) hl ao (by rw[ev];exact aq)
theorem z8x{o:Oper}{t T e:TypeId}{m k v:Operand}{id kd i:Nat}{kv:Value}{x:AV}{Z:List Value}{R:List (List AV)}{K:St->Prop}
 (hk:K (({s with hp:=q0u s.hp id (.con (p9 P T kd Z R (some i)) [(x8 s.env v).st])}:St).put o.dst (.v undef)))
 (W:o.op=.mapUpdate t m k v)(a6:(x8 s.env m).aU)(aj:(x8 s.env k).aU)(ak:(x8 s.env v).aU)(hm:(x8 s.env m).st=.mp id)(hg:q0i s.hp id=some (.con (p9 P T kd Z R (some i)) [x]))(ht:P.underlying t=some (.map T e))
 (hK:Go.Maps.Keyed P T)(an:z5c (x8 s.env k).st=some kv)(ao:Z[i]?=some kv):opS P o s K:=by
 refine⟨_,s.nx,_,hk,fun G I K' aq=>?_⟩;have em:x8 G m=x8 s.env m:=I m (by rw[W];simp[Op.operands]);have ek:x8 G k=x8 s.env k:=I k (by rw[W];simp[Op.operands]);have ev:x8 G v=x8 s.env v:=I v (by rw[W];simp[Op.operands]);exact j62 (s:={s with env:=G}) W (by rw[em];exact a6) (by rw[ek];exact aj) (by rw[ev];exact ak) (by rw[em];exact hm) hg ht hK (by rw[ek];exact an) ao (by rw[ev];exact aq)
theorem j65{o:Oper}{W:Call}{t Z kt' e:TypeId}{m k:Operand}{id kd i:Nat}{kv:Value}{x:AV}{ks:List Value}{R:List (List AV)}{K:St->Prop}
 (hk:K (({s with hp:=q0u s.hp id (.con (p9 P Z kd (ks.eraseIdx i) (R.eraseIdx i) none) [])}:St).put o.dst (.tup [])))
 (ho:o.op=.call W)(a6:W.callee=.builtin .delete)(G:W.args.toList=[m,k])(aj:W.argTypes.toList=[t,kt'])(ak:(x8 s.env m).aU)(an:(x8 s.env k).aU)(hm:(x8 s.env m).st=.mp id)(hg:q0i s.hp id=some (.con (p9 P Z kd ks R (some i)) [x]))(ht:P.underlying t=some (.map Z e))
 (hK:Go.Maps.Keyed P Z)(ao:z5c (x8 s.env k).st=some kv)(aq:ks[i]?=some kv):opS P o s K:=by
 refine⟨_,s.nx,_,hk,fun I T K' ar=>?_⟩;have em:x8 I m=x8 s.env m:=T m (by rw[ho];simp only[Op.operands,Call.operands];exact Ye.2 (.inr (X4.1 (by rw[G];simp))));have ek:x8 I k=x8 s.env k:=T k (by rw[ho];simp only[Op.operands,Call.operands];exact Ye.2 (.inr (X4.1 (by rw[G];simp))));exact j64 (s:={s with env:=I}) ho a6 G aj (by rw[em];exact ak) (by rw[ek];exact an) (by rw[em];exact hm) hg ht hK (by rw[ek];exact ao) aq ar
theorem z7d{o:Oper}{t T e:TypeId}(kd:Nat){K:St->Prop}(W:K (({s with hp:=(s.nx,.con (p9 P T kd [] [] none) [])::s.hp,nx:=s.nx+1}:St).put o.dst (.mp s.nx)))(Z:o.op=.makeMap t none)(ht:P.underlying t=some (.map T e)):opS P o s K:=
 ⟨_,_,_,W,fun G _ _ I=>j3k (s:={s with env:=G}) kd Z ht I⟩
end
end
section
open Go Go.RowKit
section
variable {P:Program} {C:Ctx P} {s:St} {a:Act} {w:World} {β:aI}
theorem Rel.cY(h:Rel C s a w β){id:Nat}{K K':Con}{ex ex':List AV}{o2:bj}(gi:Option (Nat×Nat))(hg:q0i s.hp id=some (.con K ex))(cl:qh9 o2=false)(a6:∀g c',gi=some (g,c')->g∈β.inn id)
 (c0:∀(β':aI) (ow':Nat->Prop),aW w w (own β s.hp C.A) ow'->(∀x,x<s.nx->β' x=β x)->β' s.nx=gi->(∀g,g∈β.inn id->(∀c',gi≠some (g,c'))->g∈β'.inn id)->q6f w β' (s.nx+1) ow' s.nx o2/\q6f w β' (s.nx+1) ow' id (.con K' ex')):
 ∃β',Rel C {s with hp:=(s.nx,o2)::q0u s.hp id (.con K' ex'),nx:=s.nx+1} a w β':=by
 have hm:=q0k hg;have ao:id<s.nx:=h.hp.lt _ hm
 let ng:Nat->Bool:=fun x=>!(gi.map (·.1)==some x)
 have c1:∀x,ng x=true↔∀c',gi≠some (x,c'):=fun x=>by
  simp only[ng,Bool.not_eq_true',beq_eq_false_iff_ne,ne_eq]
  cases gi with
  |none=>simp
  |some q=>simp only[Xo,Xa];exact⟨fun hx c' hc=>hx (by rw[hc]),fun hx hc=>hx q.2 (by rw[<-hc])⟩
 let β':aI:=⟨fun x=>if x=s.nx then gi else β x,fun x=>if x=s.nx then []else if x=id then (β.inn id).filter ng else β.inn x⟩
 have c2:β' s.nx=gi:=by simp[β']
 have an:∀x,x<s.nx->β' x=β x:=fun x hx=>by simp[β'];omega
 have aq:β'.inn s.nx=[]:=by simp[β']
 have ar:β'.inn id=(β.inn id).filter ng:=by simp[β'];omega
 have aj:∀x,x<s.nx->x≠id->β'.inn x=β.inn x:=fun x hx b2=>by simp[β',b2];omega
 have b5:∀x,x<s.nx->∀I,I∈β'.inn x->I∈β.inn x:=fun x hx I G=>by
  by_cases c3:x=id
  . subst c3;rw[ar]at G;exact (X0.1 G).1
  rw[aj x hx c3]at G;exact G
 have b4:∀x,x<s.nx->∀I,bof β' x I->bof β x I:=fun x hx I G=>by
  rcases G with⟨C',hc⟩|G
  . exact .inl ⟨C',(an x hx).symm.trans hc⟩
  exact .inr (b5 x hx I G)
 have c4:∀I,bof β' s.nx I->∃c',gi=some (I,c'):=fun I G=>by
  rcases G with⟨C',hc⟩|G
  . exact⟨C',c2.symm.trans hc⟩
  rw[aq]at G;cases G
 have ak:∀p∈(s.nx,o2)::q0u s.hp id (.con K' ex'),p=(s.nx,o2)\/p=(id,.con K' ex')\/(p∈s.hp/\p.1≠id):=fun p hp=>by
  rcases Xg.1 hp with hp|hp
  . exact .inl hp
  exact .inr (qs7 h.hp.nd hp)
 have W:∀p∈(s.nx,o2)::q0u s.hp id (.con K' ex'),p.1=s.nx\/p.1<s.nx:=fun p hp=>by
  rcases ak p hp with rfl|rfl|⟨hp,_⟩
  . exact .inl rfl
  . exact .inr ao
  exact .inr (h.hp.lt p hp)
 have Z:∀p∈(s.nx,o2)::q0u s.hp id (.con K' ex'),p.1<s.nx->∃q∈s.hp,q.1=p.1:=fun p hp c9=>by
  rcases ak p hp with rfl|rfl|⟨hp,_⟩
  . exact absurd c9 (Nat.lt_irrefl _)
  . exact⟨_,hm,rfl⟩
  exact⟨p,hp,rfl⟩
 have b6:∀q∈(s.nx,o2)::q0u s.hp id (.con K' ex'),q.1<s.nx->∀I,bof β' s.nx I->bof β' q.1 I->False:=fun q hq c5 I G T=>by
  obtain⟨c',hc⟩:=c4 I G;obtain⟨q',bi,b3⟩:=Z q hq c5;have h9:=b4 q.1 c5 I T;have bs:=h.hp.bf _ hm q' bi I (.inr (a6 I c' hc)) (by rw[b3];exact h9);simp only at bs;rw[b3]at bs;rw[<-bs]at T;rcases T with⟨C',c6⟩|T
  . rw[an id ao]at c6;exact (h.hp.ib _ hm I (a6 I c' hc)).2.2.1 _ hm C' c6
  rw[ar]at T;exact (c1 I).1 (X0.1 T).2 c' hc
 refine⟨β',h.dD (X3 _) an (fun x hx cb=>aj x hx fun e=>cb (by rw[e];exact Xd hm)) ?_ ?_ ?_ ?_ ?_ ?_ ?_ ?_⟩
 .
  intro p hp;rcases W p hp with he|hl
  . exact .inr (Nat.le_of_eq he.symm)
  obtain⟨q,hq,he⟩:=Z p hp hl;exact .inl (he▸Xd hq)
 . intro p hp;rcases W p hp with he|hl<;>omega
 . simp only[X7,Xz,qh8];refine⟨fun hx=>?_,h.hp.nd⟩;obtain⟨q,hq,he⟩:=Xq.1 hx;have:=h.hp.lt q hq;omega
 .
  intro p hp I G;rcases W p hp with he|hl
  . rw[he]at G;obtain⟨c',hc⟩:=c4 I G;exact⟨_,hm,.inr (a6 I c' hc)⟩
  obtain⟨q,hq,he⟩:=Z p hp hl;exact⟨q,hq,by rw[he];exact b4 _ hl _ G⟩
 .
  intro p hp q hq I G T;rcases W p hp with he|hl<;>rcases W q hq with c7|bv
  . rw[he,c7]
  . rw[he]at G;exact (b6 q hq bv I G T).elim
  . rw[c7]at T;exact (b6 p hp hl I T G).elim
  obtain⟨p',hp',c8⟩:=Z p hp hl;obtain⟨q',bi,b3⟩:=Z q hq bv;have:=h.hp.bf p' hp' q' bi I (by rw[c8];exact b4 _ hl _ G) (by rw[b3];exact b4 _ bv _ T);rw[<-c8,<-b3];exact this
 .
  intro p hp I G C' hc;rcases W p hp with he|hl
  . rw[he,aq]at G;cases G
  obtain⟨q,hq,he⟩:=Z p hp hl;rw[an _ hl,<-he]at hc;exact (h.hp.ib q hq I (by rw[he];exact b5 _ hl _ G)).2.2.1 q hq C' hc
 .
  intro p hp hc;rcases ak p hp with rfl|rfl|⟨hp,b2⟩
  . exact aq
  . cases hc
  rw[aj _ (h.hp.lt p hp) b2];exact h.hp.i0 p hp hc
 intro hA p hp;obtain⟨q1,q2⟩:=c0 β' _ hA an c2 (fun g cc cd=>by rw[ar];exact X0.2 ⟨cc,(c1 g).2 cd⟩);rcases ak p hp with rfl|rfl|⟨hp,b2⟩
 . exact q1
 . exact q2
 exact q47 hA (X3 _) an (h.hp.lt p hp) (fun _ _=>rfl) (fun _=>aj _ (h.hp.lt p hp) b2) (h.hp.obj p hp)
theorem Rel.cV(h:Rel C s a w β){id id2:Nat}{K K':Con}{ex ex':List AV}{o2:bj}(hg:q0i s.hp id=some (.con K ex))(b5:q0i s.hp id2=some o2)(c1:qh9 o2=false)
 (b6:∀(β':aI) (ow':Nat->Prop),aW w w (own β s.hp C.A) ow'->(∀x,β' x=β x)->(∀g c',β id2=some (g,c')->g∈β'.inn id)->(∀g,g∈β.inn id->g∈β'.inn id)->q6f w β' s.nx ow' id (.con K' ex')):
 ∃β',Rel C {s with hp:=q0u (q4l s.hp id2) id (.con K' ex')} a w β':=by
 have hm:=q0k hg;have ak:=q0k b5;have bi:=ze4 hg b5 rfl c1;have b2:id<s.nx:=h.hp.lt _ hm;have aq:((q4l s.hp id2).map (·.1)).Nodup:=(bo.map _).nodup h.hp.nd
 let gi:Option Nat:=(β id2).map (·.1)
 have bs:∀g,gi=some g->bof β id2 g:=fun g T=>by
  simp only[gi]at T
  cases hq:β id2 with
  |none=>rw[hq]at T;cases T
  |some q=>rw[hq]at T;simp only[Xo,Xa]at T;exact .inl ⟨q.2,by rw[hq,<-T]⟩
 let β':aI:=⟨β.f,fun x=>if x=id then gi.toList++β.inn id else β.inn x⟩
 have a6:β'.inn id=gi.toList++β.inn id:=by simp[β']
 have Z:∀x,x≠id->β'.inn x=β.inn x:=fun x T=>by simp[β',T]
 have I:∀p∈q0u (q4l s.hp id2) id (.con K' ex'),p=(id,.con K' ex')\/(p∈s.hp/\p.1≠id/\p.1≠id2):=fun p hp=>by
  rcases qs7 aq hp with hp|⟨hp,T⟩
  . exact .inl hp
  have:=z1r.1 hp;exact .inr ⟨this.1,T,this.2⟩
 have b3:∀p∈q0u (q4l s.hp id2) id (.con K' ex'),∀W,bof β' p.1 W->(∃q∈s.hp,q.1=p.1/\bof β q.1 W)\/(p.1=id/\bof β id2 W):=fun p hp W G=>by
  rcases I p hp with rfl|⟨hp,T,bv⟩
  .
   rcases G with⟨C',hc⟩|G
   . exact .inl ⟨_,hm,rfl,.inl ⟨C',hc⟩⟩
   simp only at G;rw[a6]at G;rcases Xy.1 G with G|G
   . exact .inr ⟨rfl,bs W (by simpa using G)⟩
   exact .inl ⟨_,hm,rfl,.inr G⟩
  rcases G with⟨C',hc⟩|G
  . exact .inl ⟨p,hp,rfl,.inl ⟨C',hc⟩⟩
  rw[Z _ T]at G;exact .inl ⟨p,hp,rfl,.inr G⟩
 have ar:∀p∈q0u (q4l s.hp id2) id (.con K' ex'),p.1≠id2:=fun p hp=>by
  rcases I p hp with rfl|⟨_,_,bv⟩
  . exact bi
  exact bv
 refine⟨β',h.dD (Xe _) (fun _ _=>rfl) (fun x T c2=>Z x fun e=>c2 (by rw[e];exact Xd hm)) ?_ ?_ ?_ ?_ ?_ ?_ ?_ ?_⟩
 .
  intro p hp;rcases I p hp with rfl|⟨hp,_⟩
  . exact .inl (Xq.2 ⟨_,hm,rfl⟩)
  exact .inl (Xd hp)
 .
  intro p hp;rcases I p hp with rfl|⟨hp,_⟩
  . exact b2
  exact h.hp.lt p hp
 . rw[qh8];exact aq
 .
  intro p hp W G;rcases b3 p hp W G with⟨q,hq,_,aj⟩|⟨_,b4⟩
  . exact⟨q,hq,aj⟩
  exact⟨_,ak,b4⟩
 .
  intro p hp q hq W G b4;rcases b3 p hp W G with⟨p',hp',he,an⟩|⟨he,an⟩<;>rcases b3 q hq W b4 with⟨q',c0,ao,aj⟩|⟨ao,aj⟩
  . rw[<-he,<-ao];exact h.hp.bf p' hp' q' c0 W an aj
  . have:=h.hp.bf p' hp' _ ak W an aj;simp only at this;rw[he]at this;exact absurd this (ar p hp)
  . have:=h.hp.bf q' c0 _ ak W aj an;simp only at this;rw[ao]at this;exact absurd this (ar q hq)
  rw[he,ao]
 .
  intro p hp W G C' hc;have hc:β p.1=some (W,C'):=hc;rcases I p hp with rfl|⟨hp,T,_⟩
  .
   simp only at G hc;rw[a6]at G;rcases Xy.1 G with G|G
   . have:=h.hp.bf _ hm _ ak W (.inl ⟨C',hc⟩) (bs W (by simpa using G));exact bi this
   exact (h.hp.ib _ hm W G).2.2.1 _ hm C' hc
  rw[Z _ T]at G;exact (h.hp.ib p hp W G).2.2.1 p hp C' hc
 .
  intro p hp hc;rcases I p hp with rfl|⟨hp,T,_⟩
  . cases hc
  rw[Z _ T];exact h.hp.i0 p hp hc
 intro hA p hp';rcases I p hp' with rfl|⟨hp',T,_⟩
 . exact b6 β' _ hA (fun _=>rfl) (fun g c' c3=>by rw[a6];exact List.mem_append_left _ (by simp[gi,c3])) (fun g c4=>by rw[a6];exact List.mem_append_right _ c4)
 exact q47 (β:=β) (β':=β') hA (Xe _) (fun _ _=>rfl) (h.hp.lt p hp') (fun _ _=>rfl) (fun _=>Z _ T) (h.hp.obj p hp')
end
end
section
open Go Go.RowKit
section
variable {P:Program} {C:Ctx P} {s:St} {a:Act} {w:World} {β:aI}
theorem z5a(h:Rel C s a w β){id kd:Nat}{W:TypeId}{Z:List Value}{R:List (List AV)}{G:Option Nat}{ex:List AV}(hg:q0i s.hp id=some (.con (p9 P W kd Z R G) ex)):
 ∃b c us,β id=some (b,c)/\b<w.heap.size/\j6k (fun v=>∃l,keyOf P W v=some l) kd Z R G w b (β.inn id) (own β s.hp C.A) us/\y9 w β s.nx (own β s.hp C.A) ex us:=by
 rcases h.hp.obj _ (q0k hg)with⟨b',c',us,h5,I,hP,T⟩|⟨_,hN,_⟩
 . exact⟨b',c',us,h5,I,hP,T⟩
 exact hN.elim
theorem Rel.cX(h:Rel C s a w β){id:Nat}{kt:TypeId}{ks:List Value}{R:List (List AV)}{i:Nat}{r:List AV}(hg:q0i s.hp id=some (.con (p9 P kt 0 ks R none) []))(hr:R[i]?=some r):
 ∃β',Rel C {s with hp:=(s.nx,.box r)::q0u s.hp id (.con (p9 P kt 0 ks R (some i)) [.ptr s.nx 0]),nx:=s.nx+1} a w β':=by
 obtain⟨b,c,us,hb,a6,⟨es,clock,gs,h1,h2,h3,h4,h5,h6,h7,h8,h9⟩,aq⟩:=z5a h hg;have T:id<s.nx:=h.hp.lt _ (q0k hg);have hi:i<R.length:=(Xb.1 hr).1;have ar:es.toList.length=ks.length:=by rw[<-h2,Xl]
 have aj:i<es.toList.length:=by omega
 have he:=Xr aj;obtain⟨b2,cs,e',g1,g2,g3,g4,g5⟩:=h8 i r _ hr he (by simp);refine h.cY (o2:=.box r) (K':=p9 P kt 0 ks R (some i)) (ex':=[.ptr s.nx 0]) (some (b2,0)) hg rfl (fun g c' I=>?_) fun β' ow' hA ak Z an=>⟨?_,?_⟩
 . simp only[Xa,Xm]at I;rw[<-I.1];exact (h7 i b2 g1).1
 . refine⟨b2,0,⟨cs⟩,e',Z,g3,zl7 g4.symm fun k av u G W=>?_⟩;exact q5w hA 0 _ (Nat.zero_le _) (fun _ I=>absurd I (Nat.not_lt_zero _)) _ _ (g5 k av u G W)
 refine .inl ⟨b,c,[es.toList[i].val],(ak id T).trans hb,a6,⟨es,clock,fun x=>if x=i then none else gs x,h1,h2,h3,h4,h5,fun x x' g G W=>?_,fun x g G=>?_,fun x r' e G W q3=>?_,.inr ⟨i,_,rfl,by simp,he,rfl⟩⟩,?_⟩
 .
  by_cases I:x=i<;>by_cases ao:x'=i<;>simp only[I,ao,if_true,if_false]at G W
  . cases G
  . cases G
  . cases W
  exact h6 x x' g G W
 .
  by_cases I:x=i<;>simp only[I,if_true,if_false]at G
  . cases G
  refine⟨an g (h7 x g G).1 fun c' hc=>?_,(h7 x g G).2⟩;simp only[Xa,Xm]at hc;exact I (h6 x i g G (by rw[g1,hc.1]))
 . have I:x≠i:=fun e=>q3 (by rw[e]);simp only[I,if_false];exact q6b hA (fun _ _=>rfl) (h8 x r' e G W (by simp))
 simp only[y9,rep];exact⟨⟨Xs _,b2,0,Z,g2⟩,trivial⟩
theorem Rel.cZ(h:Rel C s a w β){id isz:Nat}{kt:TypeId}{ks:List Value}{R xs:List (List AV)}{i:Nat}(hg:q0i s.hp id=some (.con (p9 P kt 1 ks R none) []))(hr:R[i]?=some [.sl isz xs]):
 ∃β',Rel C {s with hp:=(s.nx,.arr isz xs)::q0u s.hp id (.con (p9 P kt 1 ks R (some i)) [.osl s.nx isz 0 xs.length]),nx:=s.nx+1} a w β':=by
 obtain⟨b,c,us,hb,an,⟨es,clock,gs,h1,h2,h3,h4,h5,h6,h7,h8,h9⟩,b3⟩:=z5a h hg;have Z:id<s.nx:=h.hp.lt _ (q0k hg);have hi:i<R.length:=(Xb.1 hr).1;have b4:es.toList.length=ks.length:=by rw[<-h2,Xl]
 have ao:i<es.toList.length:=by omega
 have he:=Xr ao;obtain⟨b5,e1,b2,b6,e2,a6⟩:=h8 i _ _ hr he (by simp);simp only[List.cons.injEq,and_true]at e1;subst e1;simp only[AV.sl.injEq]at e2;obtain⟨rfl,rfl⟩:=e2;obtain⟨gi,aj,ak⟩:∃gi:Option (Nat×Nat),gi.map (·.1)=gs i/\((gi=none/\xs=[]/\es.toList[i].val=.slice none 0 0)\/∃g G cap cur e',gi=some (g,G)/\es.toList[i].val=.slice (some ⟨g,0,none⟩) xs.length cap/\w.heap[g]?=some (.cells cur e' (0,0))/\cur.size=G*isz/\xs.length<=cap/\cap<=G/\G<=maxLen/\q0p w noG (own β s.hp C.A) isz g xs 0):=by
  rcases a6 with⟨g1,g2,g3⟩|⟨g,G,cap,cur,e',g1,g2⟩
  . exact⟨none,by simp[g1],.inl ⟨rfl,g2,g3⟩⟩
  exact⟨some (g,G),by simp[g1],.inr ⟨g,G,cap,cur,e',rfl,g2⟩⟩
 refine h.cY (o2:=.arr isz xs) (K':=p9 P kt 1 ks R (some i)) (ex':=[.osl s.nx isz 0 xs.length]) gi hg rfl (fun g G W=>(h7 i g (by rw[<-aj,W];rfl)).1) fun β' ow' hA aq T ar=>⟨?_,?_⟩
 .
  rcases ak with⟨g1,g2,g3⟩|⟨g,G,cap,cur,e',g1,g2,g3,g4,g5,g6,g7,g8⟩
  . exact .inl ⟨by rw[T];exact g1,g2⟩
  exact .inr ⟨g,G,cur,e',by rw[T];exact g1,g3,g4,by omega,g7,q26 hA isz g (fun _ _ hu=>hu) xs 0 g8⟩
 refine .inl ⟨b,c,[es.toList[i].val],(aq id Z).trans hb,an,⟨es,clock,fun x=>if x=i then none else gs x,h1,h2,h3,h4,h5,fun x x' g I q2=>?_,fun x g I=>?_,fun x r' e I q2 q3=>?_,.inr ⟨i,_,rfl,by simp,he,rfl⟩⟩,?_⟩
 .
  by_cases W:x=i<;>by_cases b1:x'=i<;>simp only[W,b1,if_true,if_false]at I q2
  . cases I
  . cases I
  . cases q2
  exact h6 x x' g I q2
 .
  by_cases W:x=i<;>simp only[W,if_true,if_false]at I
  . cases I
  exact⟨ar g (h7 x g I).1 fun G hc=>W (h6 x i g I (by rw[<-aj,hc];rfl)),(h7 x g I).2⟩
 . have W:x≠i:=fun e=>q3 (by rw[e]);simp only[W,if_false];exact q6b hA (fun _ _=>rfl) (h8 x r' e I q2 (by simp))
 simp only[y9,rep];refine⟨⟨Xs _,?_⟩,trivial⟩;rcases ak with⟨g1,g2,g3⟩|⟨g,G,cap,cur,e',g1,g2,g3,g4,g5,g6,g7,g8⟩
 . exact .inl ⟨by rw[T];exact g1,by trivial,by rw[g2];rfl,g3⟩
 exact .inr ⟨g,G,cap,⟨g,0,none⟩,by rw[T];exact g1,g2,g5,by omega,.inl (by simp)⟩
theorem Rel.cG(h:Rel C s a w β){id:Nat}{T:TypeId}{G:List Value}{R:List (List AV)}{i:Nat}{x:AV}(hg:q0i s.hp id=some (.con (p9 P T 2 G R none) []))(hr:R[i]?=some [x]):
 ∃β',Rel C {s with hp:=q0u s.hp id (.con (p9 P T 2 G R (some i)) [x])} a w β':=by
 obtain⟨b,c,us,hb,W,⟨I,clock,gs,h1,h2,h3,h4,h5,h6,h7,h8,h9⟩,ak⟩:=z5a h hg;have hi:i<R.length:=(Xb.1 hr).1;have an:I.toList.length=G.length:=by rw[<-h2,Xl]
 have Z:i<I.toList.length:=by omega
 have he:=Xr Z;obtain⟨g1,ao,e1,hv⟩:=h8 i _ _ hr he (by simp);simp only[List.cons.injEq,and_true]at e1;subst e1;refine h.one (o':=.con (p9 P T 2 G R (some i)) [x]) (L:=β.inn id) hg (fun _ h=>h) (fun hc=>by cases hc) fun β' ow' hA a6 aj _=>?_;refine .inl ⟨b,c,[I.toList[i].val],(a6 id).trans hb,W,⟨I,clock,gs,h1,h2,h3,h4,h5,h6,fun x g q1=>by rw[aj];exact h7 x g q1,fun x r' e q1 q2 q3=>q6b hA (fun _ _=>rfl) (h8 x r' e q1 q2 (by simp)),.inr ⟨i,_,rfl,g1,he,rfl⟩⟩,?_⟩;simp only[y9];exact⟨q5w hA 0 _ (Nat.zero_le _) (fun _ hx=>absurd hx (Nat.not_lt_zero _)) _ _ hv,trivial⟩
theorem j03{id id2:Nat}{o o2:bj}(h:Rel C s a w β)(T:q0i s.hp id=some o)(G:q0i s.hp id2=some o2)(I:id≠id2){g c:Nat}(W:g∈β.inn id)(Z:β id2=some (g,c)):False:=
 I (h.hp.bf _ (q0k T) _ (q0k G) g (.inr W) (.inl ⟨c,Z⟩))
theorem Rel.dh(h:Rel C s a w β){id id2:Nat}{kt:TypeId}{ks:List Value}{R R':List (List AV)}{i:Nat}{r:List AV}(hg:q0i s.hp id=some (.con (p9 P kt 0 ks R (some i)) [.ptr id2 0]))(I:q0i s.hp id2=some (.box r))(hp:r.all qf9=true)(hR:R'=R.set i r):
 ∃β',Rel C {s with hp:=q0u (q4l s.hp id2) id (.con (p9 P kt 0 ks R' none) [])} a w β':=by
 subst hR;obtain⟨b,c,us,hb,ar,⟨es,clock,gs,h1,h2,h3,h4,h5,h6,h7,h8,Z⟩,a6⟩:=z5a h hg;have aj:=ze4 hg I rfl rfl;rcases Z with⟨Z,_⟩|⟨i',e0,Z,b5,ak,rfl⟩
 . cases Z
 simp only[Xa]at Z;subst Z;simp only[y9,rep,and_true]at a6;obtain⟨_,b2,C2,k1,k2⟩:=a6;obtain⟨b3,C3,cur,e',k3,k4,k5⟩:=h.hp.obj _ (q0k I);simp only at k3;rw[k1]at k3;simp only[Xa,Xm]at k3;obtain⟨rfl,rfl⟩:=k3;have an:i<R.length:=by
  have:=(Xb.1 ak).1;rw[h5,<-h2,Xl];exact this
 refine h.cV (K':=p9 P kt 0 ks (R.set i r) none) (ex':=[]) hg I rfl fun β' ow' hA b1 ao b4=>?_;refine .inl ⟨b,c,[],(b1 id).trans hb,ar,⟨es,clock,fun x=>if x=i then some b2 else gs x,h1,h2,h3,h4,by rw[Xh];exact h5,fun x x' g G T=>?_,fun x g G=>?_,fun x r' e G T _=>?_,.inl ⟨rfl,rfl⟩⟩,by simp only[y9]⟩
 .
  by_cases W:x=i<;>by_cases aq:x'=i<;>simp only[W,aq,if_true,if_false]at G T
  . rw[W,aq]
  . simp only[Xa]at G;subst G;exact (j03 h hg I aj (h7 x' _ T).1 k1).elim
  . simp only[Xa]at T;subst T;exact (j03 h hg I aj (h7 x _ G).1 k1).elim
  exact h6 x x' g G T
 .
  rw[Xh]
  by_cases W:x=i<;>simp only[W,if_true,if_false]at G
  . simp only[Xa]at G;subst G;exact⟨ao _ _ k1,by rw[W];exact an⟩
  exact⟨b4 g (h7 x g G).1,(h7 x g G).2⟩
 by_cases W:x=i
 . subst W;rw[Xi an]at G;simp only[Xa]at G;subst G;rw[ak]at T;simp only[Xa]at T;subst T;simp only[if_true];exact⟨b2,cur.toList,e',rfl,k2,k4,(q1p k5).symm,fun k av u q3 q4=>z0a hA (β:=β) (z7b (Yf.1 hp _ (Xj q3)) (j8d k5 q3 q4))⟩
 rw[Xk (fun e=>W e.symm)]at G;simp only[W,if_false];exact q6b hA (fun _ _=>rfl) (h8 x r' e G T (fun e=>W (by simpa using e.symm)))
theorem Rel.bN(h:Rel C s a w β){id id2 isz len:Nat}{kt:TypeId}{ks:List Value}{R R' xs:List (List AV)}{i:Nat}(hg:q0i s.hp id=some (.con (p9 P kt 1 ks R (some i)) [.osl id2 isz 0 len]))(T:q0i s.hp id2=some (.arr isz xs))(a6:len=xs.length)(hR:R'=R.set i [.sl isz xs]):
 ∃β',Rel C {s with hp:=q0u (q4l s.hp id2) id (.con (p9 P kt 1 ks R' none) [])} a w β':=by
 subst hR a6;obtain⟨b,c,us,hb,b4,⟨es,clock,gs,h1,h2,h3,h4,h5,h6,h7,h8,h9⟩,aj⟩:=z5a h hg;have ak:=ze4 hg T rfl rfl;rcases h9 with⟨h9,_⟩|⟨i',e0,h9,bv,an,rfl⟩
 . cases h9
 simp only[Xa]at h9;subst h9;simp only[y9,rep,and_true]at aj;have ao:=h.hp.obj _ (q0k T);simp only[q6f]at ao
 let gi:Option Nat:=(β id2).map (·.1)
 have Z:∀g,gi=some g->∃c',β id2=some (g,c'):=fun g G=>by
  simp only[gi]at G
  cases hq:β id2 with
  |none=>rw[hq]at G;cases G
  |some q=>rw[hq]at G;simp only[Xo,Xa]at G;exact⟨q.2,by rw[<-G]⟩
 have aq:i<R.length:=by
  have:=(Xb.1 an).1;rw[h5,<-h2,Xl];exact this
 refine h.cV (K':=p9 P kt 1 ks (R.set i [.sl isz xs]) none) (ex':=[]) hg T rfl fun β' ow' hA b5 ar b6=>?_;refine .inl ⟨b,c,[],(b5 id).trans hb,b4,⟨es,clock,fun x=>if x=i then gi else gs x,h1,h2,h3,h4,by rw[Xh];exact h5,fun x x' g I W=>?_,fun x g I=>?_,fun x r' e I W _=>?_,.inl ⟨rfl,rfl⟩⟩,by simp only[y9]⟩
 .
  by_cases G:x=i<;>by_cases b1:x'=i<;>simp only[G,b1,if_true,if_false]at I W
  . rw[G,b1]
  . obtain⟨c',hc⟩:=Z g I;exact (j03 h hg T ak (h7 x' _ W).1 hc).elim
  . obtain⟨c',hc⟩:=Z g W;exact (j03 h hg T ak (h7 x _ I).1 hc).elim
  exact h6 x x' g I W
 .
  rw[Xh]
  by_cases G:x=i<;>simp only[G,if_true,if_false]at I
  . obtain⟨c',hc⟩:=Z g I;exact⟨ar _ _ hc,by rw[G];exact aq⟩
  exact⟨b6 g (h7 x g I).1,(h7 x g I).2⟩
 by_cases G:x=i
 .
  subst G;rw[Xi aq]at I;simp only[Xa]at I;subst I;rw[an]at W;simp only[Xa]at W;subst W;simp only[if_true];refine⟨_,rfl,isz,xs,rfl,?_⟩;rcases aj.2 with⟨k1,_,k2,k3⟩|⟨b2,c2,cap,ad,k1,k2,k3,k4,k5⟩
  . exact .inl ⟨by simp[gi,k1],List.eq_nil_of_length_eq_zero k2,k3⟩
  rcases k5 with rfl|⟨_,k5⟩
  .
   rcases ao with⟨k6,_⟩|⟨b3,c3,cur,e3,k6,k7,k8,k9,bi,bs⟩
   . rw[k1]at k6;cases k6
   rw[k1]at k6;simp only[Xa,Xm]at k6;obtain⟨rfl,rfl⟩:=k6;exact .inr ⟨b2,c2,cap,cur,e3,by simp[gi,k1],by rw[k2];simp,k7,k8,k3,by omega,bi,q26 hA isz b2 (fun _ _ hu=>hu) xs 0 bs⟩
  exact absurd rfl k5
 rw[Xk (fun e=>G e.symm)]at I;simp only[G,if_false];exact q6b hA (fun _ _=>rfl) (h8 x r' e I W (fun e=>G (by simpa using e.symm)))
theorem Rel.bP(h:Rel C s a w β){id:Nat}{kt:TypeId}{ks:List Value}{R R':List (List AV)}{i:Nat}{x:AV}(hg:q0i s.hp id=some (.con (p9 P kt 2 ks R (some i)) [x]))(hp:qf9 x=true)(hR:R'=R.set i [x]):
 ∃β',Rel C {s with hp:=q0u s.hp id (.con (p9 P kt 2 ks R' none) [])} a w β':=by
 subst hR;obtain⟨b,c,us,hb,a6,⟨es,clock,gs,h1,h2,h3,h4,h5,h6,h7,h8,I⟩,T⟩:=z5a h hg;rcases I with⟨I,_⟩|⟨i',e0,I,aj,W,rfl⟩
 . cases I
 simp only[Xa]at I;subst I;simp only[y9,and_true]at T;have ak:i<R.length:=by
  have:=(Xb.1 W).1;rw[h5,<-h2,Xl];exact this
 refine h.one (o':=.con (p9 P kt 2 ks (R.set i [x]) none) []) (L:=β.inn id) hg (fun _ h=>h) (fun hc=>by cases hc) fun β' ow' hA an ao _=>?_;refine .inl ⟨b,c,[],(an id).trans hb,a6,⟨es,clock,gs,h1,h2,h3,h4,by rw[Xh];exact h5,h6,fun x g G=>by rw[ao,Xh];exact h7 x g G,fun y r' e G Z _=>?_,.inl ⟨rfl,rfl⟩⟩,by simp only[y9]⟩
 by_cases hx:y=i
 . subst hx;rw[Xi ak]at G;simp only[Xa]at G;subst G;rw[W]at Z;simp only[Xa]at Z;subst Z;exact⟨aj,_,rfl,z0a hA (β:=β) (z7b hp T)⟩
 rw[Xk (fun e=>hx e.symm)]at G;exact q6b hA (fun _ _=>rfl) (h8 y r' e G Z (fun e=>hx (by simpa using e.symm)))
end
end
section
open Go Go.RowKit
class Key(α:Type) where
 kv:α->Value
 keq:α->α->Bool
 bn:∀{a b:α},keq a b=true↔a=b
 okb:α->Bool
 inj:∀{a b:α},kv a=kv b->a=b
instance:Key Int where
 kv n:=.int .i64 n
 keq a b:=a==b
 bn:=by simp
 okb n:=decide (-9223372036854775808<=n)&&decide (n<9223372036854775808)
 inj h:=by simpa using h
def q00{α:Type}[Key α](G:List α):List Value:=G.map Key.kv
def q3e{α:Type}[Key α]:List α->α->Option Nat
 |[],_=>none
 |x::r,k=>if Key.keq x k then some 0 else (q3e r k).map (· +1)
def qz6{α R:Type}(x:Option α)(a:Option R)(b:α->Option R):Option R:=match x with
 |none=>a
 |some i=>b i
theorem qj9{α R:Type}{x:Option α}{a:Option R}{b:α->Option R}{r:R}{p:Prop}(h:qz6 x a b=some r)(G:x=none->a=some r->p)(I:∀i,x=some i->b i=some r->p):p:=by
 cases x with
 |none=>exact G rfl h
 |some i=>exact I i rfl h
section
variable {α:Type} [Key α]
theorem z5o(G:List α):(q00 G).length=G.length:=by unfold q00;simp
theorem qi2:∀{I:List α} {k:α},q3e I k=none->k∉I
 |[],_,_=>by simp
 |x::r,k,h=>by
  unfold q3e at h
  split at h
  . cases h
  rename_i T
  simp only[Option.map_eq_none_iff]at h;have:=qi2 h;intro G;rcases Xg.1 G with rfl|G
  . exact T (Key.bn.2 rfl)
  exact this G
theorem z3v:∀{G:List α} {k:α} {i:Nat},q3e G k=some i->G[i]?=some k
 |[],_,_,h=>by cases h
 |x::r,k,i,h=>by
  unfold q3e at h
  split at h
  .
   rename_i I
   cases h
   rw[Key.bn.1 I];rfl
  simp only[Option.map_eq_some_iff]at h;obtain⟨j,T,rfl⟩:=h;rw[Xx];exact z3v T
theorem qu4{G:List α}{k:α}(h:q3e G k=none):Key.kv k∉q00 G:=fun T=>by
 obtain⟨x,I,W⟩:=Xq.1 T;rw[Key.inj W]at I;exact qi2 h I
theorem qu3{G:List α}{k:α}{i:Nat}(h:q3e G k=some i):(q00 G)[i]?=some (Key.kv k):=by
 unfold q00;rw[Xc,z3v h];rfl
theorem z5p(G:List α)(k:α):q00 G++[Key.kv k]=q00 (G++[k]):=by unfold q00;simp
theorem j77(G:List α)(i:Nat):(q00 G).eraseIdx i=q00 (G.eraseIdx i):=by
 unfold q00;refine Xp fun j=>?_;rw[Xc,Xf,Xf]
 split<;>rw[Xc]
theorem j9n{β:Type}[Row β](vs:List β)(i:Nat):(enc vs).eraseIdx i=enc (vs.eraseIdx i):=by
 unfold enc;refine Xp fun j=>?_;rw[Xc,Xf,Xf]
 split<;>rw[Xc]
theorem z5n{β:Type}[Row β]{vs:List β}{i:Nat}{v:β}(h:vs[i]?=some v):(enc vs)[i]?=some (Row.row v):=by
 unfold enc;rw[Xc,h];rfl
theorem qf4{β:Type}[Row β](vs:List β)(i:Nat)(v:β):enc (vs.set i v)=(enc vs).set i (Row.row v):=by
 unfold enc;rw[List.map_set]
theorem zj4{β:Type}[Row β]{vs:List β}{i:Nat}{v:β}(h:vs[i]?=some v):enc vs=(enc vs).set i (Row.row v):=by
 rw[<-qf4]
 congr 1
 refine Xp fun j=>?_
 by_cases G:i=j
 . subst G;rw[Xi (Xb.1 h).1,h]
 rw[Xk G]
theorem z6s(G:List α)(k:α):(q00 (G++[k]))[G.length]?=some (Key.kv k):=by
 unfold q00;rw[Xc,Xu (Xe _),Nat.sub_self];rfl
def atK{β:Type}(vs:List β)(i:Nat):Option β:=vs[i]?
end
theorem wfK{n:Int}(h:-9223372036854775808<=n/\n<9223372036854775808):(Lit.int .i64 n).wf=true:=by
 have G:IntKind.min .i64=-9223372036854775808:=rfl;have I:IntKind.max .i64=9223372036854775807:=rfl;simp only[Lit.wf,G,I,Xw,decide_eq_true_eq];omega
theorem j1i:∀{hp:Hp},(hp.map (·.1)).Nodup->∀{id:Nat} {o:bj},(id,o)∈hp->q0i hp id=some o
 |[],_,_,_,h=>by cases h
 |(k,v)::r,hd,id,o,h=>by
  simp only[X7,Xz]at hd;unfold q0i;rcases Xg.1 h with h|h
  . cases h;rw[if_pos rfl]
  have G:k≠id:=fun e=>hd.1 (by rw[e];exact Xd h);rw[if_neg G];exact j1i hd.2 h
theorem cF{P:Program}{k:TypeId}(G:P.underlying k=some (.int .i64)){n:Int}(h:Key.okb n=true):∃l,keyOf P k (Key.kv n)=some l:=
 ⟨_,Go.Maps.keyOf_int_mk G (wfK (by simpa [Key.okb]using h))⟩
def zs2:List AV->List AV->Prop
 |[],[]=>True
 |a::r,b::q=>(a=b\/(a=.v (.slice none 0 0)/\∃sz,b=.sl sz []))/\zs2 r q
 |_,_=>False
theorem j1e:∀{r q:List AV},zs2 r q->r.length=q.length
 |[],[],_=>rfl
 |a::r,b::q,h=>by simp only[List.length_cons];rw[j1e h.2]
 |[],_::_,h=>h.elim
 |_::_,[],h=>h.elim
theorem j1f:∀{r q:List AV},zs2 r q->∀{k:Nat} {b:AV},q[k]?=some b->∃a,r[k]?=some a/\(a=b\/(a=.v (.slice none 0 0)/\∃sz,b=.sl sz []))
 |[],[],_,_,_,h=>by simp at h
 |a::r,b::q,h,0,_,G=>by simp only[List.getElem?_cons_zero,Xa]at G;subst G;exact⟨a,rfl,h.1⟩
 |a::r,b::q,h,k+1,_,G=>by
  rw[Xx]at G⊢;exact j1f h.2 G
 |[],_::_,h,_,_,_=>h.elim
 |_::_,[],h,_,_,_=>h.elim
theorem Rel.bW{P:Program}{C:Ctx P}{s:St}{a:Act}{w:World}{β:aI}(h:Rel C s a w β){id id2:Nat}{G:TypeId}{I:List Value}{R R':List (List AV)}{i:Nat}{r:List AV}(r':List AV)(hg:q0i s.hp id=some (.con (p9 P G 0 I R (some i)) [.ptr id2 0]))(W:q0i s.hp id2=some (.box r))(hp:r.all qf9=true)(hn:zs2 r r')(hR:R'=R.set i r'):
 ∃β',Rel C {s with hp:=q0u (q4l s.hp id2) id (.con (p9 P G 0 I R' none) [])} a w β':=by
 obtain⟨β',h'⟩:=h.dh hg W hp rfl;subst hR;have Z:q0i (q0u (q4l s.hp id2) id (.con (p9 P G 0 I (R.set i r) none) [])) id=some (.con (p9 P G 0 I (R.set i r) none) []):=by
  have hm:=q0k hg;have ao:=ze4 hg W rfl rfl;have a6:(id,bj.con (p9 P G 0 I (R.set i r) none) [])∈q0u (q4l s.hp id2) id (.con (p9 P G 0 I (R.set i r) none) []):=by
   have hk:id∈(q0u (q4l s.hp id2) id (.con (p9 P G 0 I (R.set i r) none) [])).map (·.1):=by
    rw[qh8];exact Xq.2 ⟨_,z1r.2 ⟨hm,ao⟩,rfl⟩
   obtain⟨q,hq,he⟩:=Xq.1 hk;rcases qs7 ((bo.map _).nodup h.hp.nd) hq with aq|⟨_,hx⟩
   . rw[<-aq];exact hq
   exact absurd he hx
  exact j1i h'.hp.nd a6
 obtain⟨b,c,us,hb,ar,⟨es,clock,gs,h1,h2,h3,h4,h5,h6,h7,h8,h9⟩,b6⟩:=z5a h' Z;have aj:=h'.one (o':=.con (p9 P G 0 I (R.set i r') none) []) (L:=β'.inn id) Z (fun _ h=>h) (fun hc=>by cases hc) fun bi ow' hA b1 b3 _=>by
  refine .inl ⟨b,c,[],(b1 id).trans hb,ar,⟨es,clock,gs,h1,h2,h3,h4,by rw[Xh]at h5⊢;exact h5,h6,fun x g T=>by rw[b3];have:=h7 x g T;rw[Xh]at this⊢;exact this,fun x q e T q2 _=>?_,.inl ⟨rfl,rfl⟩⟩,by simp only[y9]⟩
  by_cases hx:x=i
  .
   subst hx;have ak:x<R.length:=by have:=(Xb.1 T).1;rw[Xh]at this;exact this
   rw[Xi ak]at T;simp only[Xa]at T;subst T;obtain⟨b2,cs,e',g1,g2,g3,g4,g5⟩:=h8 x r e (by rw[Xi ak]) q2 (by simp);refine⟨b2,cs,e',g1,g2,g3,by rw[g4];exact j1e hn,fun k av v k1 k2=>?_⟩;obtain⟨a0,k3,k4⟩:=j1f hn k1;have k5:=z0a (β':=noG) hA (g5 k a0 v k3 k2);rcases k4 with rfl|⟨rfl,sz,rfl⟩
   . exact k5
   simp only[rep]at k5⊢;exact .inl ⟨trivial,none,0,k5⟩
  rw[Xk (fun e=>hx e.symm)]at T;exact q6b hA (fun _ _=>rfl) (h8 x q e (by rw[Xk (fun e=>hx e.symm)];exact T) q2 (by simp))
 obtain⟨b4,an⟩:=aj;refine⟨b4,?_⟩;have b5:∀(hp:Hp) (i:Nat) (o o':bj),q0u (q0u hp i o) i o'=q0u hp i o':=fun hp i o o'=>by
  induction hp with
  |nil=>rfl
  |cons q r ih=>obtain⟨k,v⟩:=q;simp only[q0u];split<;>simp_all [q0u]
 rw[b5]at an;exact an
attribute [go_sem] zn5 z5c ze3 jy5 jf4 jy6 jy4 z5o z5p j77 j9n
end
section
open Go Go.RowKit
def j25(P:Program):Nat->TypeId->Bool
 |0,_=>false
 |d+1,t=>match P.underlying t with
  |some (.int .i64)=>P.cellsOf t==1
  |some (.array n e)=>j25 P d e&&(P.cellsOf t==n*P.cellsOf e)
  |some (.struct G)=>G.all (·.name !="_")&&G.toList.all fun f=>j25 P d f.type&&decide (f.offset+P.cellsOf f.type<=P.cellsOf t)
  |_=>false
theorem zs3{α β:Type}{f:α->Option β}:∀(l:List α),(∀x∈l,∃y,f x=some y)->∃ys,l.mapM f=some ys
 |[],_=>⟨[],rfl⟩
 |a::r,h=>by
  obtain⟨y,I⟩:=h a (Yb ..);obtain⟨ys,G⟩:=zs3 r fun x T=>h x (List.mem_cons_of_mem _ T);exact⟨y::ys,by rw[List.mapM_cons,I,G];rfl⟩
theorem zs5{P:Program}:∀(d:Nat) (t:TypeId) (cs:List Value),j25 P d t=true->cs.length=P.cellsOf t->(∀c∈cs,∃n,c=.int .i64 n/\(Lit.int .i64 n).wf=true)->∃ls,P.keyLits d t cs=some ls
 |0,_,_,h,_,_=>by cases h
 |d+1,t,cs,h,I,W=>by
  unfold j25 at h
  split at h
  .
   rename_i T
   rw[eq_of_beq h]at I;obtain⟨c,rfl⟩:∃c,cs=[c]:=List.length_eq_one_iff.1 I;obtain⟨n,rfl,hw⟩:=W c (Yb ..);refine⟨[.int .i64 n],?_⟩;unfold Program.keyLits;rw[T];simp only[hw,and_self,if_true]
  .
   rename_i n e T
   simp only[Xw,beq_iff_eq]at h;obtain⟨ys,G⟩:=zs3 (f:=fun i=>P.keyLits d e ((cs.drop (i*P.cellsOf e)).take (P.cellsOf e))) (List.range n) fun i hi=>by
    refine zs5 d e _ h.1 ?_ fun c Z=>W c (X5 (X6 Z));have hi:=List.mem_range.1 hi;have:(i+1)*P.cellsOf e<=n*P.cellsOf e:=Nat.mul_le_mul_right _ hi;rw[Nat.add_mul,Nat.one_mul]at this;rw[Yg,Yh,I,h.2];omega
   refine⟨ys.flatten,?_⟩;unfold Program.keyLits;rw[T];simp only[I,if_true,G,Xo]
  .
   rename_i fs T
   simp only[Xw,Yf,decide_eq_true_eq]at h;obtain⟨ys,G⟩:=zs3 (f:=fun f=>P.keyLits d f.type ((cs.drop f.offset).take (P.cellsOf f.type))) fs.toList fun f hf=>by
    obtain⟨h1,h2⟩:=h.2 f hf;refine zs5 d f.type _ h1 ?_ fun c Z=>W c (X5 (X6 Z));rw[Yg,Yh,I];omega
   refine⟨ys.flatten,?_⟩;unfold Program.keyLits;rw[T];simp only[I,h.1,and_self,if_true,G,Xo]
  cases h
theorem j6r{P:Program}{t:TypeId}{cs:List Value}(I:(match P.underlying t with|some (.array _ _)|some (.struct _)=>true|_=>false)=true)(T:P.keyType t=true)(W:(Value.agg ⟨cs⟩).formed P t=true)(h:j25 P (P.types.size+1) t=true)(Z:cs.length=P.cellsOf t)(hc:∀c∈cs,∃n,c=.int .i64 n/\(Lit.int .i64 n).wf=true):∃l,keyOf P t (.agg ⟨cs⟩)=some l:=by
 obtain⟨ls,G⟩:=zs5 _ t cs h Z hc;refine⟨.string (keyBytes ls),?_⟩;unfold keyOf
 split at I<;>first|(cases I;done)|(rename_i hx;rw[hx];simp only[T,W,Bool.and_self,if_true,Value.cells,G,Xo])
theorem zw1{w:World}{β:aI}{nx:Nat}{ow:Nat->Prop}:∀{r q:List AV} {us:List Value},zs2 r q->y9 w β nx ow r us->y9 w β nx ow q us
 |[],[],_,_,h=>h
 |a::r,b::q,[],G,h=>by simp only[y9]at h
 |a::r,b::q,u::us,G,h=>by
  simp only[y9]at h⊢;refine⟨?_,zw1 G.2 h.2⟩;rcases G.1 with rfl|⟨rfl,sz,rfl⟩
  . exact h.1
  have:=h.1;simp only[rep]at this⊢;exact .inl ⟨trivial,none,0,this⟩
 |[],_::_,_,h,_=>h.elim
 |_::_,[],_,h,_=>h.elim
theorem Rel.dw{P:Program}{C:Ctx P}{s:St}{a:Act}{w:World}{β:aI}(h:Rel C s a w β){id:Nat}{r:List AV}(I:List AV)(T:q0i s.hp id=some (.box r))(W:zs2 r I):
 ∃β',Rel C {s with hp:=q0u s.hp id (.box I)} a w β':=
 h.one (o':=.box I) (L:=[]) T (fun _ h=>by cases h) (fun _=>rfl) fun β' ow' Z G a6 _=>by
  obtain⟨b,cc,cur,e,h1,h2,h3⟩:=h.hp.obj _ (q0k T);exact⟨b,cc,cur,e,(G id).trans h1,h2,zw1 W (q1r Z _ _ (Xe _) (fun x _=>G x) _ _ h3)⟩
attribute [go_sem] List.headD_cons
theorem z4i{n:Int}(h:Key.okb n=true):∃m,Value.int .i64 n=.int .i64 m/\(Lit.int .i64 m).wf=true:=⟨n,rfl,wfK (by simpa [Key.okb]using h)⟩
end
end Go.Proofs.YtomicnbiniapfaaGreat

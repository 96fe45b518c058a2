/-
  The states and values that the verification conditions speak of, and that each operation of the model keeps to them. No condition beyond those that each theorem names.
-/
import Derived.WalkKit
import Derived.Laws.BytesArg
import Derived.Maps.Keyed
set_option linter.unusedSimpArgs false
set_option linter.unusedVariables false
set_option linter.unusedSectionVars false
open Option renaming some.injEq->Xa,map_eq_some_iff->Xd,bind_eq_some_iff->Xu,isSome_iff_exists->Yn,map_some->Y4
open Prod renaming mk.injEq->Xb
open List renaming mem_cons->Xc,length_append->Xg,eq_nil_of_length_eq_zero->Xh,map_cons->Xi,mem_cons_of_mem->Xj,mem_map_of_mem->Xk,getElem?_append_left->Xm,getElem?_eq_getElem->Xo,getD_eq_getElem?_getD->Xr,mem_cons_self->Xv,getElem?_take->Xw,getElem?_append_right->Xx,flatten_cons->Xy,getElem?_eq_some_iff->Xz,length_take->X5,mem_map->X6,mem_of_getElem?->X9,nil_append->Yb,getElem?_drop->Yc,append_assoc->Ye,getElem?_map->Yf,all_cons->Yg,getElem?_toArray->Yh,nodup_cons->Yk,length_drop->Yo,length_cons->Yp,append_nil->Yr,mem_append->Ys,getElem?_eq_none->Yt,mem_of_mem_take->Yu,mem_of_mem_drop->Yv,take_succ_cons->Yw,getD_cons_succ->Yx,range->Y3
open Nat renaming le_refl->Xe,lt_of_lt_of_le->Xf,lt_succ_self->Xp,zero_add->Xq,add_mul->Xt,mul_le_mul_right->X0,le_succ->X3,le_trans->Yd,not_lt_zero->Yi,lt_or_ge->Yj,add_assoc->Ym,add_sub_cancel_left->Yq,add_zero->Yy,lt_succ_of_lt->Yz,zero_le->Y0
open Array renaming getElem?_eq_some_iff->Xl,ext'->Xs,length_toList->Ya
open Bool renaming and_eq_true->X4,false_eq_true->X7
open Int renaming natCast_zero->X8,toNat_of_nonneg->Yl
namespace Go.Proofs.YtomicnbiniapfaaGreat
section
open Go Go.RowKit
inductive AV where
 |v(x:Value)
 |ptr(id off:Nat)
 |apt(id sz i off:Nat)
 |sl(sz:Nat)(xs:List (List AV))
 |osl(id sz off len:Nat)
 |bsl(id off len:Nat)
 |el(sz:Nat)(xs:List (List AV))(i off:Nat)
 |agg(cs:List AV)
 |tup(xs:List AV)
 |clo(f:FuncId)(cap:List AV)
 |grd(g:Bool)(a:AV)
 |mp(id:Nat)
 |erb(g:Bool)
 |bk
structure aI where
 f:Nat->Option (Nat×Nat)
 inn:Nat->List Nat
def noG:aI:=⟨fun _=>none,fun _=>[]⟩
instance:CoeFun aI fun _=>Nat->Option (Nat×Nat):=⟨aI.f⟩
mutual
def rep(w:World)(β:aI)(nx:Nat)(ow:Nat->Prop):AV->Value->Prop
 |.v x,u=>u=x
 |.ptr id off,u=>id<nx/\∃b C,β id=some (b,C)/\u=.pointer (some ⟨b,off,none⟩)
 |.apt id sz i off,u=>id<nx/\∃b C,β id=some (b,C)/\u=.pointer (some ⟨b,i*sz+off,none⟩)
 |.sl sz xs,u=>(xs=[]/\∃a cap,u=.slice a 0 cap)\/∃b o cap,u=.slice (some ⟨b,o,none⟩) xs.length cap/\xs.length<=cap/\¬ow b/\b<w.heap.size/\q0p w β ow sz b xs o
 |.osl id sz off len,u=>id<nx/\((β id=none/\off=0/\len=0/\u=.slice none 0 0)\/
  ∃b C cap a,β id=some (b,C)/\u=.slice (some a) len cap/\len<=cap/\off+cap<=C/\(a=⟨b,off*sz,none⟩\/cap=0/\off≠0))
 |.bsl id off len,u=>id<nx/\∃b C cap a,β id=some (b,C)/\u=.slice (some a) len cap/\len<=cap/\(a=⟨b,off,none⟩\/len=0)
 |.el sz xs i off,u=>∃b o,u=.pointer (some ⟨b,o+i*sz+off,none⟩)/\¬ow b/\b<w.heap.size/\q0p w β ow sz b xs o
 |.agg cs,u=>∃l,u=.agg ⟨l⟩/\y9 w β nx ow cs l
 |.tup cs,u=>∃l,u=.tuple ⟨l⟩/\y9 w β nx ow cs l
 |.clo f cs,u=>∃l,u=.func (.func f) #[] ⟨l⟩/\y9 w β nx ow cs l
 |.grd g a,u=>(g=true->rep w β nx ow a u)/\(g=false->u=undef)
 |.mp id,u=>id<nx/\∃b C,β id=some (b,C)/\u=.map (some b)
 |.erb g,u=>(g=true->u=.nilIface)/\(g=false->∃t p,u=.iface t p)
 |.bk,_=>True
def y9(w:World)(β:aI)(nx:Nat)(ow:Nat->Prop):List AV->List Value->Prop
 |[],[]=>True
 |a::as,u::us=>rep w β nx ow a u/\y9 w β nx ow as us
 |_,_=>False
def q4c(w:World)(β:aI)(ow:Nat->Prop)(b:Nat):List AV->Nat->Prop
 |[],_=>True
 |a::as,o=>(∃u,w.cell? ⟨b,o,none⟩=some u/\u.oneCell'=true/\rep w β 0 ow a u)/\q4c w β ow b as (o+1)
def q0p(w:World)(β:aI)(ow:Nat->Prop)(sz b:Nat):List (List AV)->Nat->Prop
 |[],_=>True
 |r::G,o=>r.length=sz/\q4c w β ow b r o/\q0p w β ow sz b G (o+sz)
end
def aW(w w':World)(ow ow':Nat->Prop):Prop:=w.heap.size<=w'.heap.size/\∀b,¬ow b->b<w.heap.size->w'.heap[b]?=w.heap[b]?/\¬ow' b
section mono
variable {w w':World} {β β':aI} {nx nx':Nat} {ow ow':Nat->Prop}
mutual
theorem q5w(W:aW w w' ow ow'):∀(nx nx':Nat),nx<=nx'->(∀id,id<nx->β' id=β id)->∀(a:AV) (u:Value),rep w β nx ow a u->rep w' β' nx' ow' a u
 |nx,nx',G,hb,.v x,u,h=>by simpa only[rep]using h
 |nx,nx',G,hb,.ptr id off,u,h=>by
  simp only[rep]at h⊢;obtain⟨I,b,C,T,Z⟩:=h;exact⟨Xf I G,b,C,(hb id I).trans T,Z⟩
 |nx,nx',G,hb,.apt id sz i off,u,h=>by
  simp only[rep]at h⊢;obtain⟨I,b,C,T,Z⟩:=h;exact⟨Xf I G,b,C,(hb id I).trans T,Z⟩
 |nx,nx',G,hb,.sl sz xs,u,h=>by
  simp only[rep]at h⊢;rcases h with h|⟨b,o,cap,I,T,Z,h4,h5⟩
  . exact .inl h
  exact .inr ⟨b,o,cap,I,T,(W.2 b Z h4).2,Xf h4 W.1,q26 W sz b (fun o u hu=>(World.cell?_of_block (w:=w) (a:=⟨b,o,none⟩) (W.2 b Z h4).1).trans hu) xs o h5⟩
 |nx,nx',G,hb,.osl id sz off len,u,h=>by
  simp only[rep]at h⊢;obtain⟨I,T⟩:=h;refine⟨Xf I G,?_⟩;rcases T with⟨T,Z⟩|⟨b,C,cap,a,T,Z⟩
  . exact .inl ⟨(hb id I).trans T,Z⟩
  exact .inr ⟨b,C,cap,a,(hb id I).trans T,Z⟩
 |nx,nx',G,hb,.bsl id off len,u,h=>by
  simp only[rep]at h⊢;obtain⟨I,b,C,cap,a,T,Z⟩:=h;exact⟨Xf I G,b,C,cap,a,(hb id I).trans T,Z⟩
 |nx,nx',G,hb,.el sz xs i off,u,h=>by
  simp only[rep]at h⊢;obtain⟨b,o,I,Z,h4,h5⟩:=h;exact⟨b,o,I,(W.2 b Z h4).2,Xf h4 W.1,q26 W sz b (fun o u hu=>(World.cell?_of_block (w:=w) (a:=⟨b,o,none⟩) (W.2 b Z h4).1).trans hu) xs o h5⟩
 |nx,nx',G,hb,.agg cs,u,h=>by
  simp only[rep]at h⊢;obtain⟨l,I,T⟩:=h;exact⟨l,I,q1r W nx nx' G hb cs l T⟩
 |nx,nx',G,hb,.tup cs,u,h=>by
  simp only[rep]at h⊢;obtain⟨l,I,T⟩:=h;exact⟨l,I,q1r W nx nx' G hb cs l T⟩
 |nx,nx',G,hb,.clo f cs,u,h=>by
  simp only[rep]at h⊢;obtain⟨l,I,T⟩:=h;exact⟨l,I,q1r W nx nx' G hb cs l T⟩
 |nx,nx',G,hb,.grd g a,u,h=>by
  simp only[rep]at h⊢;exact⟨fun hg=>q5w W nx nx' G hb a u (h.1 hg),h.2⟩
 |nx,nx',G,hb,.mp id,u,h=>by
  simp only[rep]at h⊢;obtain⟨I,b,C,T,Z⟩:=h;exact⟨Xf I G,b,C,(hb id I).trans T,Z⟩
 |nx,nx',G,hb,.erb g,u,h=>by simpa only[rep]using h
 |nx,nx',G,hb,.bk,u,h=>by simp only[rep]
theorem q1r(W:aW w w' ow ow'):∀(nx nx':Nat),nx<=nx'->(∀id,id<nx->β' id=β id)->∀(as:List AV) (us:List Value),y9 w β nx ow as us->y9 w' β' nx' ow' as us
 |nx,nx',G,hb,[],[],h=>by simp only[y9]
 |nx,nx',G,hb,a::as,u::us,h=>by
  simp only[y9]at h⊢;exact⟨q5w W nx nx' G hb a u h.1,q1r W nx nx' G hb as us h.2⟩
 |nx,nx',G,hb,[],u::us,h=>by simp only[y9]at h
 |nx,nx',G,hb,a::as,[],h=>by simp only[y9]at h
theorem zf8(W:aW w w' ow ow')(b:Nat)(hb:∀o u,w.cell? ⟨b,o,none⟩=some u->w'.cell? ⟨b,o,none⟩=some u):∀(as:List AV) (o:Nat),q4c w β ow b as o->q4c w' β' ow' b as o
 |[],o,h=>by simp only[q4c]
 |a::as,o,h=>by
  simp only[q4c]at h⊢;obtain⟨⟨u,I,h0,T⟩,Z⟩:=h;exact⟨⟨u,hb o u I,h0,q5w W 0 0 (Xe _) (fun _ hi=>absurd hi (Yi _)) a u T⟩,zf8 W b hb as (o+1) Z⟩
theorem q26(W:aW w w' ow ow')(sz b:Nat)(hb:∀o u,w.cell? ⟨b,o,none⟩=some u->w'.cell? ⟨b,o,none⟩=some u):∀(rs:List (List AV)) (o:Nat),q0p w β ow sz b rs o->q0p w' β' ow' sz b rs o
 |[],o,h=>by simp only[q0p]
 |r::rs,o,h=>by
  simp only[q0p]at h⊢;exact⟨h.1,zf8 W b hb r o h.2.1,q26 W sz b hb rs (o+sz) h.2.2⟩
end
end mono
def jm8(w:World)(b:Nat)(ok:Value->Prop)(G:List Value)(I:Option Nat)(us:List Value):Prop:=
 ∃T clock,w.heap[b]?=some (.map T clock)/\T.toList.map (·.key)=G/\G.Nodup/\(∀x∈G,ok x)/\∀i,I=some i->∃u,us=[u]/\(T.toList[i]?).map (·.val)=some u
structure Con where
 k:Option Nat
 P:World->Nat->Nat->List Nat->(Nat->Prop)->List Value->Prop
 N:Prop
 raw:Bool:=false
 mpk:Option ((Value->Prop)×List Value×Option Nat):=none
 mpl:∀{w:World} {b C:Nat} {L:List Nat} {ow:Nat->Prop} {us:List Value} {ok:Value->Prop} {ks:List Value} {foc:Option Nat},mpk=some (ok,ks,foc)->P w b C L ow us->jm8 w b ok ks foc us:=by intros;contradiction
 mono:∀{w w':World} {b C:Nat} {L:List Nat} {ow ow':Nat->Prop} {us:List Value},aW w w' ow ow'->(∀b',b'=b\/b'∈L->w'.heap[b']?=w.heap[b']?)->P w b C L ow us->P w' b C L ow' us
 cells:∀{w:World} {b C:Nat} {L:List Nat} {ow:Nat->Prop} {us:List Value} {n:Nat},k=some n->P w b C L ow us->∃hd tl T,hd.length=n/\w.heap[b]?=some (.cells ⟨hd++us++tl⟩ T (0,0))
 wr:∀{w w':World} {b C:Nat} {L:List Nat} {ow ow':Nat->Prop} {us us' hd tl:List Value} {T:TypeId} {n:Nat},k=some n->hd.length=n->P w b C L ow us->w.heap[b]?=some (.cells ⟨hd++us++tl⟩ T (0,0))->us'.length=us.length->
  w'.heap[b]?=some (.cells ⟨hd++us'++tl⟩ T (0,0))->(∀b'∈L,w'.heap[b']?=w.heap[b']?)->aW w w' ow ow'->P w' b C L ow' us'
def z7n(e:TypeId):Con where
 k:=some 0
 P w b _ _ _ us:=w.heap[b]?=some (.cells ⟨us⟩ e (0,0))
 N:=False
 mono _ W h:=(W _ (.inl rfl)).trans h
 cells G h:=⟨[],[],e,by simpa using G,by rw[Yb,Yr];exact h⟩
 wr {w w' b C L ow ow' us Z hd tl T n} G hl h I h2 h3 _ _:=by
  simp only[Xa]at G;subst G;obtain rfl:=Xh hl;rw[h]at I;simp only[Yb,Xa,Obj.cells.injEq,Array.mk.injEq,and_true]at I;obtain⟨h4,rfl⟩:=I;have:tl=[]:=Xh (by have:=congrArg List.length h4;simp at this;simpa using this);subst this
  simpa using h3
theorem k0a{e:TypeId}:(z7n e).k=some 0:=rfl
theorem ji3{e:TypeId}:(z7n e).raw=false:=rfl
theorem k0b{e:TypeId}:(z7n e).N=False:=rfl
def j7c(T E:TypeId)(l:List UInt8):Con where
 k:=some 2
 P w b _ L _ us:=∃p v,w.heap[b]?=some (.cells ⟨p::v::us⟩ T (0,0))/\(p=.pointer none\/p=.pointer (some ⟨b,0,none⟩))/\
  ((v=.slice none 0 0/\l=[])\/∃g cap cur,0<cap/\g∈L/\g≠b/\v=.slice (some ⟨g,0,none⟩) l.length cap/\w.heap[g]?=some (.cells cur E (0,0))/\l.length<=cap/\cap<=maxLen/\cur.size=cap/\∀(j:Nat) x,l[j]?=some x->cur[j]?=some (.int .u8 x.toNat))
 N:=False
 mono:=fun _ hk ⟨p,v,G,W,Z⟩=>⟨p,v,(hk _ (.inl rfl)).trans G,W,Z.imp id fun⟨g,cap,cur,g0,g1,g2,g3,g4,g5⟩=>⟨g,cap,cur,g0,g1,g2,g3,(hk _ (.inr g1)).trans g4,g5⟩⟩
 cells:=fun I ⟨p,v,G,_⟩=>⟨[p,v],[],T,by simpa using I,by rw[Yr];exact G⟩
 wr:=fun {w w' b C L ow ow' us a6 hd tl T' n} I hl ⟨p,v,G,W,Z⟩ h4 h5 h6 h7 _=>by
  simp only[Xa]at I;subst I;rw[G]at h4;simp only[Xa,Obj.cells.injEq,and_true]at h4;obtain⟨e1,e2⟩:=h4;have e3:[p,v]++us=hd++(us++tl):=by simpa using e1
  obtain⟨e4,e5⟩:=List.append_inj e3 (by simpa using hl.symm);have:tl=[]:=Xh (by have:=congrArg List.length e5;simp at this;simpa using this);subst e4 e2 this;rw[Yr]at h6;exact⟨p,v,h6,W,Z.imp id fun⟨g,cap,cur,g0,g1,g2,g3,g4,g5⟩=>⟨g,cap,cur,g0,g1,g2,g3,(h7 _ g1).trans g4,g5⟩⟩
theorem k0c{T E:TypeId}{l:List UInt8}:(j7c T E l).k=some 2:=rfl
theorem ji8{T E:TypeId}{l:List UInt8}:(j7c T E l).raw=false:=rfl
theorem k0d{T E:TypeId}{l:List UInt8}:(j7c T E l).N=False:=rfl
def dB:Con where
 k:=none
 P _ _ _ _ _ _:=False
 N:=True
 raw:=true
 mono _ _ h:=h.elim
 cells G _:=by cases G
 wr G _ _ _ _ _ _ _:=by cases G
theorem j9d:dB.raw=true:=rfl
inductive bj where
 |box(cs:List AV)
 |arr(sz:Nat)(xs:List (List AV))
 |con(K:Con)(ex:List AV)
def qh9:bj->Bool|.con .. =>true|_=>false
abbrev Hp:=List (Nat×bj)
def bof(β:aI)(id b:Nat):Prop:=(∃C,β id=some (b,C))\/b∈β.inn id
def bu(β:aI)(hp:Hp)(b:Nat):Prop:=∃q∈hp,bof β q.1 b
def own(β:aI)(hp:Hp)(A:Nat->Prop)(b:Nat):Prop:=A b\/bu β hp b
def q6f(w:World)(β:aI)(nx:Nat)(ow:Nat->Prop)(id:Nat):bj->Prop
 |.box cs=>∃b C cur e,β id=some (b,C)/\w.heap[b]?=some (.cells cur e (0,0))/\y9 w β nx ow cs cur.toList
 |.arr sz xs=>(β id=none/\xs=[])\/∃b C cur e,β id=some (b,C)/\w.heap[b]?=some (.cells cur e (0,0))/\cur.size=C*sz/\xs.length<=C/\C<=maxLen/\q0p w β ow sz b xs 0
 |.con K G=>(∃b C us,β id=some (b,C)/\b<w.heap.size/\K.P w b C (β.inn id) ow us/\y9 w β nx ow G us)\/(β id=none/\K.N/\G=[])
structure aV(w:World)(β:aI)(nx:Nat)(A:Nat->Prop)(hp:Hp):Prop where
 obj:∀p∈hp,q6f w β nx (own β hp A) p.1 p.2
 lt:∀p∈hp,p.1<nx
 nd:(hp.map (·.1)).Nodup
 inj:∀p∈hp,∀q∈hp,∀b C C',β p.1=some (b,C)->β q.1=some (b,C')->p.1=q.1
 av:∀p∈hp,∀b C,β p.1=some (b,C)->¬A b
 i0:∀p∈hp,qh9 p.2=false->β.inn p.1=[]
 ib:∀p∈hp,∀b∈β.inn p.1,b<w.heap.size/\¬A b/\(∀q∈hp,∀C,β q.1≠some (b,C))/\∀q∈hp,b∈β.inn q.1->q.1=p.1
def dkF:Bool:=true
structure Ext(w0:World)(β0:aI)(nx0:Nat)(hp0:Hp)(w:World)(β:aI)(nx:Nat)(hp:Hp):Prop where
 nx:nx0<=nx
 gh:∀id,id<nx0->β id=β0 id
 gi:∀id,id<nx0->id∉hp0.map (·.1)->β.inn id=β0.inn id
 ids:∀p∈hp,p.1∈hp0.map (·.1)\/nx0<=p.1
 blk:∀p∈hp,∀b,bof β p.1 b->bu β0 hp0 b\/w0.heap.size<=b
 os:w.os=w0.os
 tape:w.tape=w0.tape
 output:w.output=w0.output/\(dkF=true->w0.drawn<=w.drawn)
 size:w0.heap.size<=w.heap.size
 keep:∀b,b<w0.heap.size->¬bu β0 hp0 b->w.heap[b]?=w0.heap[b]?
structure St where
 nb:Nat
 env:List (Nat×AV)
 hp:Hp
 nx:Nat
 nt:Nat
def q0x:List (Nat×AV)->Nat->AV
 |[],_=> .bk
 |(k,a)::r,t=>if k=t then a else q0x r t
def cS:List (String×(List Value->Prop)):=
 [("internal/strconv.uint64pow10",fun cs=>cs=(Y3 20).map fun k=> .int .u64 ((10^k:Nat):Int)),
  ("strconv.ErrSyntax",fun cs=>∃t p,cs=[.iface t p]),
  ("strconv.ErrRange",fun cs=>∃t p,cs=[.iface t p]),
  ("internal/bytealg.MaxLen",fun cs=>∃m,cs=[.int .i64 m]),
  ("strings.asciiSpace",fun cs=>cs=(Y3 256).map fun k=> .int .u8 (if k=9\/k=10\/k=11\/k=12\/k=13\/k=32 then 1 else 0))]
def GLW(P:Program)(w:World):Prop:=∀q∈cS,∀g,P.globalNamed q.1=some g->∃cs e z,w.heap[g]?=some (.cells cs e z)/\q.2 cs.toList
structure GS(P:Program)(w:World)(β:aI)(hp:Hp):Prop where
 gl:GLW P w
 off:∀q∈cS,∀g,P.globalNamed q.1=some g->¬bu β hp g
theorem GLW.lt{P:Program}{w:World}(h:GLW P w){q}(G:q∈cS){g:Nat}(I:P.globalNamed q.1=some g):g<w.heap.size:=
 let ⟨_,_,_,T,_⟩:=h q G g I
 (Xl.1 T).1
theorem GLW.none{P:Program}{w:World}(h:cS.all (fun q=>(P.globalNamed q.1).isNone)=true):GLW P w:=fun q G g I=>by
 have:=List.all_eq_true.1 h q G;rw[I]at this;cases this
theorem GS.ext{P:Program}{w0 w:World}{β0 β:aI}{nx0 nx:Nat}{hp0 hp:Hp}(h:GS P w0 β0 hp0)(T:Ext w0 β0 nx0 hp0 w β nx hp):GS P w β hp where
 gl:=fun q G g I=>
  let ⟨cs,e,z,W,Z⟩:=h.gl q G g I
  ⟨cs,e,z,(T.keep g (h.gl.lt G I) (h.off q G g I)).trans W,Z⟩
 off:=fun q G g I ⟨p,hp,hb⟩=>(T.blk p hp g hb).elim (h.off q G g I) fun hs=>absurd (h.gl.lt G I) (Nat.not_lt.2 hs)
theorem GS.sub{P:Program}{w:World}{β β':aI}{hp hp':Hp}(h:GS P w β hp)(G:∀b,bu β' hp' b->bu β hp b):GS P w β' hp':=⟨h.gl,fun q I g T hb=>h.off q I g T (G g hb)⟩
structure Ctx(P:Program) where
 w0:World
 β0:aI
 nx0:Nat
 hp0:Hp
 A:Nat->Prop
 nt:Nat
structure Rel{P:Program}(C:Ctx P)(s:St)(a:Act)(w:World)(β:aI):Prop where
 df:a.defers=[]
 nt:a.tmps.size=s.nt
 env:∀t,rep w β s.nx (own β s.hp C.A) (q0x s.env t) (a.tmps.getD t undef)
 hp:aV w β s.nx C.A s.hp
 ext:Ext C.w0 C.β0 C.nx0 C.hp0 w β s.nx s.hp
 alt:∀b,C.A b->b<w.heap.size
 gs:GS P C.w0 C.β0 C.hp0
 nb:C.nx0=s.nb
 ntc:s.nt=C.nt
def q02(P:Program)(f:FuncId):Bool:=match P.funcs[f]? with
 |some fn=>!(fn.name=="runtime.NumGoroutine")&&fn.body.isSome
 |none=>false
def bx(P:Program)(f:FuncId)(args:Array Value)(w:World)(Q:Ending->World->Prop):Prop:=
 (q02 P f=true->Calls P f args w Q)/\(q02 P f=false->∃v w',(callFunc f args).run P w=.ok (.value v) w'/\Q (.returned v) w')
theorem bx.mono{P:Program}{f:FuncId}{args:Array Value}{w:World}{Q G:Ending->World->Prop}(h:bx P f args w Q)(I:∀e w',Q e w'->G e w'):bx P f args w G:=
 ⟨fun hb=>(h.1 hb).mono I,fun hb=>let ⟨v,w',T,W⟩:=h.2 hb;⟨v,w',T,I _ _ W⟩⟩
theorem bx.of{P:Program}{f:FuncId}{args:Array Value}{w:World}{Q:Ending->World->Prop}(hb:q02 P f=true)(h:Calls P f args w Q):bx P f args w Q:=
 ⟨fun _=>h,fun G=>by rw[hb]at G;cases G⟩
def Spec(P:Program)(f:FuncId)(args:List AV)(hp:Hp)(nx:Nat)(Q:AV->Hp->Nat->Prop):Prop:=
 ∀(w:World) (β:aI) (A:Nat->Prop) (vs:List Value),(∀b,A b->b<w.heap.size)->y9 w β nx (own β hp A) args vs->aV w β nx A hp->GS P w β hp->
  bx P f ⟨vs⟩ w fun e w'=>∃v r hp' nx' β',e=.returned v/\Q r hp' nx'/\rep w' β' nx' (own β' hp' A) r v/\aV w' β' nx' A hp'/\Ext w β nx hp w' β' nx' hp'
theorem Spec.mono{P:Program}{f:FuncId}{args:List AV}{hp:Hp}{nx:Nat}{Q I:AV->Hp->Nat->Prop}(h:Spec P f args hp nx Q)(T:∀r hp' nx',Q r hp' nx'->I r hp' nx'):Spec P f args hp nx I:=
 fun w β A vs W Z h3 h4=>(h w β A vs W Z h3 h4).mono fun _ _ ⟨v,r,hp',nx',β',e,q,G⟩=>⟨v,r,hp',nx',β',e,T _ _ _ q,G⟩
theorem aV.blt{w:World}{β:aI}{nx:Nat}{A:Nat->Prop}{hp:Hp}(h:aV w β nx A hp):∀p∈hp,∀b C,β p.1=some (b,C)->b<w.heap.size:=by
 intro p hp' b C hb;have:=h.obj p hp'
 cases T:p.2 with
 |box cs=>
  rw[T]at this;obtain⟨W,Z,cur,e,G,I,_⟩:=this;rw[hb]at G;simp only[Xa,Xb]at G;rw[<-G.1]at I;exact (Xl.1 I).1
 |arr sz xs=>
  rw[T]at this;rcases this with⟨G,_⟩|⟨W,Z,cur,e,G,I,_⟩
  . rw[hb]at G;cases G
  rw[hb]at G;simp only[Xa,Xb]at G;rw[<-G.1]at I;exact (Xl.1 I).1
 |con K ex=>
  rw[T]at this;rcases this with⟨W,Z,us,G,I,_⟩|⟨G,_⟩
  . rw[hb]at G;simp only[Xa,Xb]at G;rw[G.1];exact I
  rw[hb]at G;cases G
theorem aV.bB{w:World}{β:aI}{nx:Nat}{A:Nat->Prop}{hp:Hp}(h:aV w β nx A hp):∀p∈hp,∀b,bof β p.1 b->b<w.heap.size:=fun p hp b hb=>hb.elim (fun⟨C,G⟩=>h.blt p hp b C G) (fun hi=>(h.ib p hp b hi).1)
theorem aV.ca{w:World}{β:aI}{nx:Nat}{A:Nat->Prop}{hp:Hp}(h:aV w β nx A hp):∀p∈hp,∀b,bof β p.1 b->¬A b:=fun p hp b hb=>hb.elim (fun⟨C,G⟩=>h.av p hp b C G) (fun hi=>(h.ib p hp b hi).2.1)
theorem aV.bf{w:World}{β:aI}{nx:Nat}{A:Nat->Prop}{hp:Hp}(h:aV w β nx A hp):∀p∈hp,∀q∈hp,∀b,bof β p.1 b->bof β q.1 b->p.1=q.1:=fun p hp q I b T W=>by
 rcases T with⟨C,Z⟩|T<;>rcases W with⟨C',G⟩|W
 . exact h.inj p hp q I b C C' Z G
 . exact absurd Z ((h.ib q I b W).2.2.1 p hp C)
 . exact absurd G ((h.ib p hp b T).2.2.1 q I C')
 exact ((h.ib p hp b T).2.2.2 q I W).symm
theorem q9f{β:aI}{hp:Hp}{p:Nat×bj}{b C:Nat}(hp1:p∈hp)(h:β p.1=some (b,C)):bu β hp b:=⟨p,hp1,.inl ⟨C,h⟩⟩
theorem q47{w w':World}{β β':aI}{nx nx':Nat}{ow ow':Nat->Prop}(W:aW w w' ow ow')(hn:nx<=nx')(hb:∀id,id<nx->β' id=β id)
 {id:Nat}(hid:id<nx){o:bj}(Z:∀b,bof β id b->w'.heap[b]?=w.heap[b]?)(hi:qh9 o=true->β'.inn id=β.inn id)(h:q6f w β nx ow id o):q6f w' β' nx' ow' id o:=by
 cases o with
 |box cs=>
  obtain⟨b,C,cur,e,G,I,T⟩:=h;exact⟨b,C,cur,e,(hb id hid).trans G,(Z b (.inl ⟨C,G⟩)).trans I,q1r W nx nx' hn hb _ _ T⟩
 |arr sz xs=>
  rcases h with⟨G,I⟩|⟨b,C,cur,e,G,I,T,h4,h5,h6⟩
  . exact .inl ⟨(hb id hid).trans G,I⟩
  exact .inr ⟨b,C,cur,e,(hb id hid).trans G,(Z b (.inl ⟨C,G⟩)).trans I,T,h4,h5,q26 W sz b (fun o u hu=>(World.cell?_of_block (w:=w) (a:=⟨b,o,none⟩) (Z b (.inl ⟨C,G⟩))).trans hu) xs 0 h6⟩
 |con K ex=>
  rcases h with⟨b,C,us,G,I,T,h4⟩|⟨G,I,T⟩
  . refine .inl ⟨b,C,us,(hb id hid).trans G,Xf I W.1,?_,q1r W nx nx' hn hb _ _ h4⟩;rw[hi rfl];exact K.mono W (fun b' a6=>Z b' (a6.elim (fun e=> .inl ⟨C,by rw[e];exact G⟩) .inr)) T
  exact .inr ⟨(hb id hid).trans G,I,T⟩
end
section
open Go Go.RowKit
def AV.st:AV->AV|.grd _ a=>a|a=>a
def AV.aU:AV->Prop|.grd g _=>g=true|_=>True
theorem q1j{w:World}{β:aI}{nx:Nat}{ow:Nat->Prop}{a:AV}{u:Value}(h:rep w β nx ow a u)(G:a.aU):rep w β nx ow a.st u:=by
 cases a<;>first|exact h|(simp only[rep]at h;exact h.1 G)
def x8(env:List (Nat×AV)):Operand->AV
 |.tmp t=>q0x env t
 |.const v=> .v v
 |.global g=> .v (.pointer (some ⟨g,0,none⟩))
 |.func f=> .clo f []
def szT(P:Program)(t:TypeId):Nat:=((P.info? t).map (·.size)).getD 0
def q19(P:Program)(t:TypeId):Bool:=(P.info? t).isSome&&(P.underlying t).isSome
def q6s(P:Program)(t:TypeId):Bool:=match P.underlying t with|some (.struct _)|some (.array _ _)=>true|_=>false
def qz0(P:Program)(t:TypeId):Option IntKind:=match P.underlying t with|some (.int k)=>some k|_=>none
def aO(P:Program)(t:TypeId):Option TypeId:=match P.underlying t with|some (.slice e)=>some e|_=>none
def qu7(P:Program)(t:TypeId):Option (Nat×TypeId):=match P.underlying t with|some (.array n e)=>some (n,e)|_=>none
def q0t(P:Program)(t:TypeId)(f:Nat):Option (Nat×TypeId):=match P.underlying t with|some (.struct G)=>(G[f]?).map fun f=>(f.offset,f.type)|_=>none
def qu8(k:IntKind)(a b:Int):Int:=k.wrap (BitVec.ofInt k.bits a &&& BitVec.ofInt k.bits b).toNat
def orI(k:IntKind)(a b:Int):Int:=k.wrap (BitVec.ofInt k.bits a ||| BitVec.ofInt k.bits b).toNat
def jb1(k:IntKind)(a b:Int):Int:=k.wrap (BitVec.ofInt k.bits a ^^^ BitVec.ofInt k.bits b).toNat
def j5d(k:IntKind)(a b:Int):Int:=k.wrap (BitVec.ofInt k.bits a &&& ~~~ BitVec.ofInt k.bits b).toNat
def jw8(k:IntKind)(a b:Int):Int:=k.wrap (a*2^(min b.toNat k.bits))
def q2e(k:IntKind)(a b:Int):Int:=a.fdiv (2^(min b.toNat k.bits))
def j7e(op:BinOp):AV->AV->Option (Prop×AV)
 |.v (.int k a),.v (.int G b)=>match op with
  |.add=>some (k=G,.v (.int k (k.wrap (a+b))))
  |.sub=>some (k=G,.v (.int k (k.wrap (a-b))))
  |.mul=>some (k=G,.v (.int k (k.wrap (a*b))))
  |.quo=>some (k=G/\b≠0,.v (.int k (k.wrap (a.tdiv b))))
  |.rem=>some (k=G/\b≠0,.v (.int k (a.tmod b)))
  |.and=>some (k=G,.v (.int k (qu8 k a b)))
  |.or=>some (k=G,.v (.int k (orI k a b)))
  |.xor=>some (k=G,.v (.int k (jb1 k a b)))
  |.andNot=>some (k=G,.v (.int k (j5d k a b)))
  |.shl=>some (0<=b,.v (.int k (jw8 k a b)))
  |.shr=>some (0<=b,.v (.int k (q2e k a b)))
  |.eql=>some (k=G,.v (.bool (a==b)))
  |.neq=>some (k=G,.v (.bool (a !=b)))
  |.lss=>some (k=G,.v (.bool (decide (a<b))))
  |.leq=>some (k=G,.v (.bool (decide (a<=b))))
  |.gtr=>some (k=G,.v (.bool (decide (a>b))))
  |.geq=>some (k=G,.v (.bool (decide (a ≥ b))))
 |_,_=>none
theorem j7d{P:Program}{w:World}{β:aI}{nx:Nat}{ow:Nat->Prop}{op:BinOp}{t:TypeId}{W Z:Operand}{x y r:AV}{c:Prop}{u v:Value}
 (h:j7e op x y=some (c,r))(G:c)(I:rep w β nx ow x u)(T:rep w β nx ow y v):
 ∃z,(do eqGuard op t W Z u v;binOp op t u v:Sem Value).run P w=.ok z w/\rep w β nx ow r z:=by
 unfold j7e at h
 split at h
 . rename_i k a k' b
   simp only[rep]at I T;subst I T
   cases op<;>simp only[Xa,Xb]at h<;>obtain⟨rfl,rfl⟩:=h<;>
    first
    |(refine⟨_,?_,by simp only[rep];rfl⟩;subst G;simp[eqGuard,binOp,Op.intArith,Op.intCmp,Op.intBits,qu8,orI,jb1,j5d];done)
    |(obtain⟨rfl,hb⟩:=G;refine⟨_,?_,by simp only[rep];rfl⟩;simp[eqGuard,binOp,Op.intDiv,hb];done)
    |(refine⟨_,?_,by simp only[rep];rfl⟩;have hb:¬b<0:=by omega
      simp[eqGuard,binOp,Op.shift,hb,jw8,q2e];done)
 cases h
end
section
open Go Go.RowKit
def q0i:Hp->Nat->Option bj
 |[],_=>none
 |(k,o)::r,id=>if k=id then some o else q0i r id
theorem q0k:∀{hp:Hp} {id:Nat} {o:bj},q0i hp id=some o->(id,o)∈hp
 |[],_,_,h=>by simp[q0i]at h
 |(k,o')::r,id,o,h=>by
  unfold q0i at h
  split at h
  . rename_i G;subst G;simp only[Xa]at h;subst h;exact Xv
  exact Xj _ (q0k h)
section
variable {w:World} {β:aI} {nx:Nat} {ow:Nat->Prop}
theorem aW.refl(w:World)(ow:Nat->Prop):aW w w ow ow:=⟨Xe _,fun _ h _=>⟨rfl,h⟩⟩
theorem q1p:∀{as:List AV} {us:List Value},y9 w β nx ow as us->as.length=us.length
 |[],[],_=>rfl
 |_::_,_::_,h=>by simp only[y9]at h;simp[q1p h.2]
 |[],_::_,h=>by simp only[y9]at h
 |_::_,[],h=>by simp only[y9]at h
theorem z00:∀{as:List AV} {us:List Value},y9 w β nx ow as us->∀(j:Nat),j<as.length->rep w β nx ow (as.getD j .bk) (us.getD j undef)
 |a::as,u::us,h,0,_=>by simp only[y9]at h;exact h.1
 |a::as,u::us,h,j+1,G=>by simp only[y9]at h;simpa using z00 h.2 j (by simpa using G)
 |[],_,_,_,G=>by simp at G
 |_::_,[],h,_,_=>by simp only[y9]at h
theorem q9v:∀{as:List AV} {us:List Value},y9 w β nx ow as us->∀(k:Nat),y9 w β nx ow (as.drop k) (us.drop k)
 |[],[],_,k=>by simp[y9]
 |a::as,u::us,h,0=>h
 |a::as,u::us,h,k+1=>by simp only[y9]at h;simpa using q9v h.2 k
 |[],_::_,h,_=>by simp only[y9]at h
 |_::_,[],h,_=>by simp only[y9]at h
theorem q7o:∀{as:List AV} {us:List Value},y9 w β nx ow as us->∀(k:Nat),y9 w β nx ow (as.take k) (us.take k)
 |[],[],_,k=>by simp[y9]
 |a::as,u::us,h,0=>by simp[y9]
 |a::as,u::us,h,k+1=>by simp only[y9]at h;simp only[Yw,y9];exact⟨h.1,q7o h.2 k⟩
 |[],_::_,h,_=>by simp only[y9]at h
 |_::_,[],h,_=>by simp only[y9]at h
theorem q6m:∀{as G:List AV} {us vs:List Value},y9 w β nx ow as us->y9 w β nx ow G vs->y9 w β nx ow (as++G) (us++vs)
 |[],_,[],_,_,h=>h
 |a::as,G,u::us,vs,h,I=>by simp only[y9]at h;simp only[List.cons_append,y9];exact⟨h.1,q6m h.2 I⟩
 |[],_,_::_,_,h,_=>by simp only[y9]at h
 |_::_,_,[],_,h,_=>by simp only[y9]at h
theorem qq5{b:Nat}:∀{as:List AV} {o:Nat},q4c w β ow b as o->∃us,y9 w β 0 ow as us/\(∀u∈us,u.oneCell'=true)/\∀(j:Nat) (u:Value),us[j]?=some u->w.cell? ⟨b,o+j,none⟩=some u
 |[],o,_=>⟨[],by simp[y9],by simp,by simp⟩
 |a::as,o,h=>by
  simp only[q4c]at h;obtain⟨⟨u,T,W,Z⟩,h3⟩:=h;obtain⟨us,h4,h6,h5⟩:=qq5 h3;refine⟨u::us,by simp only[y9];exact⟨Z,h4⟩,fun x I=>by
   rcases Xc.1 I with rfl|I
   . exact W
   exact h6 x I,?_⟩
  intro j v G
  cases j with
  |zero=>simp at G;subst G;simpa using T
  |succ j=>
   simp at G;have:=h5 j v G
   rwa [show o+1+j=o+(j+1) by omega]at this
theorem zw2{as:List AV}{us:List Value}(h:y9 w β 0 ow as us):y9 w β nx ow as us:=
 q1r (aW.refl w ow) 0 nx (Y0 _) (fun _ hi=>absurd hi (Yi _)) as us h
def q3l(xs:List (List AV))(i:Nat):List AV:=xs.getD i []
theorem qy2{sz b:Nat}:∀{xs:List (List AV)} {o:Nat},q0p w β ow sz b xs o->∀(i:Nat),i<xs.length->(q3l xs i).length=sz/\q4c w β ow b (q3l xs i) (o+i*sz)
 |r::G,o,h,0,_=>by simp only[q0p]at h;simpa [q3l]using ⟨h.1,h.2.1⟩
 |r::G,o,h,i+1,hi=>by
  simp only[q0p]at h;have:=qy2 h.2.2 i (by simpa using hi);simp only[q3l,Yx]at this⊢;rw[show o+(i+1)*sz=o+sz+i*sz by rw[Xt];omega];exact this
 |[],_,_,_,hi=>by simp at hi
end
section
variable {P:Program} {w:World} {β:aI} {nx:Nat} {ow:Nat->Prop}
theorem z0e{t:TypeId}(h:q19 P t=true):∃i d,P.info? t=some i/\P.underlying t=some d/\i.size=szT P t:=by
 simp only[q19,X4,Yn]at h;obtain⟨⟨i,hi⟩,⟨d,hd⟩⟩:=h;exact⟨i,d,hi,hd,by simp[szT,hi]⟩
theorem ql7{t:TypeId}(h:q19 P t=true):(isAgg t).run P w=.ok (q6s P t) w:=by
 obtain⟨i,d,hi,hd,G⟩:=z0e h;unfold isAgg q6s;simp only[Sem.run_bind,run_underlying hd,Result.andThen_ok,hd]
 cases d<;>rfl
theorem run_sizeOf{t:TypeId}(h:q19 P t=true):(sizeOf t).run P w=.ok (szT P t) w:=by
 obtain⟨i,d,hi,hd,G⟩:=z0e h;simp[sizeOf,typeInfo,hi,G]
def qc7(P:Program)(t:TypeId)(cs:List AV)(off:Nat):Prop×AV:=
 if q6s P t=true then (q19 P t=true/\off+szT P t<=cs.length,.agg ((cs.drop off).take (szT P t)))else (q19 P t=true/\off<cs.length,cs.getD off .bk)
theorem qo5{t:TypeId}{cs:List AV}{us:List Value}{b o off:Nat}(hr:y9 w β nx ow cs us)(hu:∀(j:Nat) (u:Value),us[j]?=some u->w.cell? ⟨b,o+j,none⟩=some u)
 (I:(qc7 P t cs off).1):∃z,(loadVar t ⟨b,o+off,none⟩).run P w=.ok z w/\rep w β nx ow (qc7 P t cs off).2 z:=by
 have hl:=q1p hr;unfold qc7 at I⊢
 by_cases W:q6s P t=true
 .
  simp only[W,if_true]at I⊢;obtain⟨Z,G⟩:=I;have h1:((us.drop off).take (szT P t)).length=szT P t:=by simp;omega
  have h2:=run_loadCells_list (P:=P) w ⟨b,o+off,none⟩ ((us.drop off).take (szT P t)) (by
   intro j u T;rw[Xw]at T
   split at T
   .
    rw[Yc]at T;have:=hu _ _ T;unfold Addr.add
    split
    . rename_i h0;subst h0;simpa using this
    simpa [Ym]using this
   cases T)
  rw[h1]at h2;refine⟨.agg ⟨(us.drop off).take (szT P t)⟩,?_,?_⟩
  . unfold loadVar;simp[ql7 Z,W,run_sizeOf Z,h2]
  simp only[rep];exact⟨_,rfl,q7o (q9v hr off) _⟩
 simp only[W]at I⊢;obtain⟨Z,G⟩:=I;have hx:us[off]?=some (us.getD off undef):=by
  rw[Xr,Xo (by omega)];rfl
 refine⟨us.getD off undef,?_,by simpa using z00 hr off G⟩;unfold loadVar;simp[ql7 Z,W,hu _ _ hx]
end
def ze2(P:Program)(hp:Hp)(t:TypeId):AV->Option (Prop×AV)
 |.ptr id off=>match q0i hp id with
  |some (.box cs)=>some (qc7 P t cs off)
  |some (.con K cs)=>match K.k with
   |some n=>some (n<=off/\(qc7 P t cs (off-n)).1,(qc7 P t cs (off-n)).2)
   |none=>none
  |_=>none
 |.apt id sz i off=>match q0i hp id with
  |some (.arr G xs)=>some ((G=sz/\i<xs.length)/\(qc7 P t (q3l xs i) off).1,(qc7 P t (q3l xs i) off).2)
  |some (.con K cs)=>match K.k with
   |some n=>some (n=i*sz/\(qc7 P t cs off).1,(qc7 P t cs off).2)
   |none=>none
  |_=>none
 |.el _ xs i off=>some (i<xs.length/\(qc7 P t (q3l xs i) off).1,(qc7 P t (q3l xs i) off).2)
 |_=>none
theorem j2n{w:World}{β:aI}{nx:Nat}{A:Nat->Prop}{hp:Hp}(I:aV w β nx A hp){id n b C:Nat}{K:Con}{cs:List AV}(hg:q0i hp id=some (.con K cs))(hk:K.k=some n)(hb:β id=some (b,C)):
 ∃us,y9 w β nx (own β hp A) cs us/\∀(j:Nat) v,us[j]?=some v->w.cell? ⟨b,n+j,none⟩=some v:=by
 rcases I.obj _ (q0k hg)with⟨b',C',cur,G,_,h2,h3⟩|⟨G,_⟩
 .
  rw[hb]at G;simp only[Xa,Xb]at G;obtain⟨rfl,rfl⟩:=G;obtain⟨hd,tl,T,hl,W⟩:=K.cells hk h2;refine⟨cur,h3,fun j v hj=>?_⟩;have Z:=(Xz.1 hj).1;rw[cell_of_row w b (n+j) ⟨hd++cur++tl⟩ T (0,0) W]
  show (hd++cur++tl).toArray[n+j]?=_
  rw[Yh,Ye,Xx (by omega),hl,Yq,Xm Z];exact hj
 rw[hb]at G;cases G
theorem zf9{P:Program}{w:World}{β:aI}{nx:Nat}{A:Nat->Prop}{hp:Hp}(Z:aV w β nx A hp){t:TypeId}{a r:AV}{c:Prop}{u:Value}
 (h:ze2 P hp t a=some (c,r))(hc:c)(W:rep w β nx (own β hp A) a u):∃z,(Instr.loadAt t u).run P w=.ok z w/\rep w β nx (own β hp A) r z:=by
 unfold ze2 at h
 split at h
 .
  rename_i id off
  split at h
  .
   rename_i cs hg
   simp only[Xa]at h;simp only[rep]at W;obtain⟨a6,b,C,hb,rfl⟩:=W;have ho:=Z.obj _ (q0k hg);obtain⟨b',C',cur,e,T,h2,h3⟩:=ho;rw[hb]at T;simp only[Xa,Xb]at T;obtain⟨rfl,rfl⟩:=T;have:=qo5 (P:=P) (t:=t) (b:=b) (o:=0) (off:=off) h3 (fun j v hj=>by
    rw[Xq,cell_of_row w b j cur e (0,0) h2];simpa using hj) (by rw[h];exact hc)
   obtain⟨z,G,I⟩:=this;refine⟨z,?_,by rw[h]at I;exact I⟩;simp only[Xq]at G;simp[Instr.loadAt,Instr.sureAddr,G]
  .
   rename_i K cs hg
   split at h
   .
    rename_i n hk
    simp only[Xa,Xb]at h;obtain⟨rfl,rfl⟩:=h;obtain⟨ak,hc⟩:=hc;simp only[rep]at W;obtain⟨a6,b,C,hb,rfl⟩:=W;have key:=j2n Z hg hk hb;obtain⟨cur,h3,aj⟩:=key;obtain⟨z,G,I⟩:=qo5 (P:=P) (t:=t) (b:=b) (o:=n) (off:=off-n) h3 aj hc;refine⟨z,?_,I⟩;rw[show n+(off-n)=off by omega]at G;simp[Instr.loadAt,Instr.sureAddr,G]
   cases h
  cases h
 .
  rename_i id sz i off
  split at h
  .
   rename_i an xs hg
   simp only[Xa,Xb]at h;obtain⟨rfl,rfl⟩:=h;obtain⟨⟨rfl,hi⟩,hp1⟩:=hc;simp only[rep]at W;obtain⟨a6,b,C,hb,rfl⟩:=W;have ho:=Z.obj _ (q0k hg);rcases ho with⟨T,h2⟩|⟨b',C',cur,e,T,h2,_,_,_,h3⟩
   . simp only at T;rw[hb]at T;cases T
   simp only at T;rw[hb]at T;simp only[Xa,Xb]at T;obtain⟨rfl,rfl⟩:=T;obtain⟨us,h4,_,h5⟩:=qq5 (qy2 h3 i hi).2;obtain⟨z,G,I⟩:=qo5 (P:=P) (t:=t) (off:=off) (zw2 (nx:=nx) h4) h5 hp1;refine⟨z,?_,I⟩;simp only[Xq]at G;simp[Instr.loadAt,Instr.sureAddr,G]
  .
   rename_i K cs hg
   split at h
   .
    rename_i n hk
    simp only[Xa,Xb]at h;obtain⟨rfl,rfl⟩:=h;obtain⟨ak,hc⟩:=hc;simp only[rep]at W;obtain⟨a6,b,C,hb,rfl⟩:=W;obtain⟨cur,h3,aj⟩:=j2n Z hg hk hb;obtain⟨z,G,I⟩:=qo5 (P:=P) (t:=t) (b:=b) (o:=n) (off:=off) h3 aj hc;refine⟨z,?_,I⟩;rw[ak]at G;simp[Instr.loadAt,Instr.sureAddr,G]
   cases h
  cases h
 .
  rename_i sz xs i off
  simp only[Xa,Xb]at h;obtain⟨rfl,rfl⟩:=h;obtain⟨hi,hp1⟩:=hc;simp only[rep]at W;obtain⟨b,o,rfl,_,_,h3⟩:=W;obtain⟨us,h4,_,h5⟩:=qq5 (qy2 h3 i hi).2;obtain⟨z,G,I⟩:=qo5 (P:=P) (t:=t) (off:=off) (zw2 (nx:=nx) h4) h5 hp1;refine⟨z,?_,I⟩;simp[Instr.loadAt,Instr.sureAddr,G]
 cases h
end
section
open Go Go.RowKit
section
variable {P:Program} {w:World} {β:aI} {nx:Nat} {ow:Nat->Prop}
def j2x(k:Nat):AV->Option AV
 |.ptr id off=>some (.ptr id (off+k))
 |.apt id sz i off=>some (.apt id sz i (off+k))
 |.el sz xs i off=>some (.el sz xs i (off+k))
 |_=>none
theorem zq2{k:Nat}{a r:AV}{u:Value}(h:j2x k a=some r)(G:rep w β nx ow a u):∃b o,u=.pointer (some ⟨b,o,none⟩)/\rep w β nx ow r (.pointer (some ⟨b,o+k,none⟩)):=by
 unfold j2x at h
 split at h
 . simp only[Xa]at h;subst h;simp only[rep]at G⊢;obtain⟨W,b,C,I,T⟩:=G;exact⟨b,_,T,W,b,C,I,rfl⟩
 . simp only[Xa]at h;subst h;simp only[rep]at G⊢;obtain⟨W,b,C,I,T⟩:=G;exact⟨b,_,T,W,b,C,I,by simp[Ym]⟩
 . simp only[Xa]at h;subst h;simp only[rep]at G⊢;obtain⟨b,o,I,T⟩:=G;exact⟨b,_,I,b,o,by simp[Ym],T⟩
 cases h
theorem q9g(b o k:Nat):(⟨b,o,none⟩:Addr).add k=⟨b,o+k,none⟩:=by unfold Addr.add;split<;>simp_all
def j07(P:Program)(t:TypeId)(f:Nat)(a:AV):Option (Prop×AV):=
 match q0t P t f with
 |some (I,G)=>(j2x I a).map fun r=>(q19 P G=true/\szT P G≠0,r)
 |none=>none
theorem j3u{t:TypeId}{f:Nat}{a r:AV}{c:Prop}{u:Value}(h:j07 P t f a=some (c,r))(T:c)(W:rep w β nx ow a u):
 ∃z,(Instr.fieldAt t u f).run P w=.ok z w/\rep w β nx ow r z:=by
 unfold j07 at h
 split at h
 .
  rename_i fo ft G
  simp only[Xd,Xb]at h;obtain⟨r',Z,rfl,rfl⟩:=h;obtain⟨b,o,rfl,h2⟩:=zq2 Z W;refine⟨_,?_,h2⟩;unfold q0t at G
  split at G
  .
   rename_i fs hd
   simp only[Xd,Xb]at G;obtain⟨fl,I,rfl,rfl⟩:=G;simp[Instr.fieldAt,run_underlying hd,I,Instr.sureAddr,fieldPlace,run_sizeOf T.1,T.2,q9g]
  cases G
 cases h
def j06(P:Program)(t:TypeId):AV->AV->Option (Prop×AV)
 |.sl sz xs,.v (.int _ n)=>match aO P t with
  |some e=>some (q19 P e=true/\szT P e=sz/\0<=n/\n<xs.length,.el sz xs n.toNat 0)
  |none=>none
 |.osl id sz off len,.v (.int _ n)=>match aO P t with
  |some e=>some (q19 P e=true/\szT P e=sz/\0<=n/\n<len,.apt id sz (off+n.toNat) 0)
  |none=>none
 |.bsl id off len,.v (.int _ n)=>match aO P t with
  |some e=>some (q19 P e=true/\szT P e=1/\0<=n/\n<len,.ptr id (off+n.toNat))
  |none=>none
 |a,.v (.int _ n)=>match qu7 P t with
  |some (m,e)=>(j2x (n.toNat*szT P e) a).map fun r=>(q19 P e=true/\0<=n/\n<m,r)
  |none=>none
 |_,_=>none
theorem q0l{t e:TypeId}(h:aO P t=some e):P.underlying t=some (.slice e):=by
 unfold aO at h;split at h
 . simp only[Xa]at h;subst h;assumption
 cases h
theorem z7o{t e:TypeId}{m:Nat}(h:qu7 P t=some (m,e)):P.underlying t=some (.array m e):=by
 unfold qu7 at h;split at h
 . simp only[Xa,Xb]at h;obtain⟨rfl,rfl⟩:=h;assumption
 cases h
theorem z0v{t:TypeId}{k:IntKind}(h:qz0 P t=some k):P.underlying t=some (.int k):=by
 unfold qz0 at h;split at h
 . simp only[Xa]at h;subst h;assumption
 cases h
theorem z1n{t e:TypeId}(G:P.underlying t=some (.slice e))(I:q19 P e=true)(a:Addr)(len cap:Nat)(k:IntKind)(n:Int)(T:0<=n)(W:n<len):
 (Instr.indexAt t (.slice (some a) len cap) (.int k n)).run P w=.ok (.pointer (some (a.add (n.toNat*szT P e)))) w:=by
 simp[Instr.indexAt,run_underlying G,asIntOf,T,W,run_sizeOf I]
theorem zl2{t e:TypeId}{m:Nat}(G:P.underlying t=some (.array m e))(I:q19 P e=true)(a:Addr)(k:IntKind)(n:Int)(T:0<=n)(W:n<m):
 (Instr.indexAt t (.pointer (some a)) (.int k n)).run P w=.ok (.pointer (some (a.add (n.toNat*szT P e)))) w:=by
 simp[Instr.indexAt,run_underlying G,asIntOf,Instr.sureAddr,T,W,run_sizeOf I]
theorem j3s{t:TypeId}{a i r:AV}{c:Prop}{u v:Value}(h:j06 P t a i=some (c,r))(Z:c)(T:rep w β nx ow a u)(hi:rep w β nx ow i v):
 ∃z,(Instr.indexAt t u v).run P w=.ok z w/\rep w β nx ow r z:=by
 unfold j06 at h
 split at h
 .
  rename_i sz xs k n
  split at h
  .
   rename_i e W
   simp only[Xa,Xb]at h;obtain⟨rfl,rfl⟩:=h;obtain⟨c1,c2,c3,G⟩:=Z;simp only[rep]at hi T⊢;subst hi;rcases T with⟨rfl,_⟩|⟨b,o,cap,rfl,I,h3,h4,h5⟩
   . simp only[List.length_nil,X8]at G;omega
   refine⟨_,z1n (q0l W) c1 _ _ _ _ _ c3 G,b,o,?_,h3,h4,h5⟩;rw[c2,q9g];simp
  cases h
 .
  rename_i id sz off len k n
  split at h
  .
   rename_i e W
   simp only[Xa,Xb]at h;obtain⟨rfl,rfl⟩:=h;obtain⟨c1,c2,c3,G⟩:=Z;simp only[rep]at hi T⊢;subst hi;obtain⟨h1,I⟩:=T;rcases I with⟨_,_,rfl,_⟩|⟨b,C,cap,a,I,rfl,h3,h4,h5⟩
   . simp only[X8]at G;omega
   have a6:a=⟨b,off*sz,none⟩:=by
    rcases h5 with h5|h5
    . exact h5
    omega
   subst a6;refine⟨_,z1n (q0l W) c1 _ _ _ _ _ c3 G,h1,b,C,I,?_⟩;rw[c2,q9g];simp[Xt]
  cases h
 .
  rename_i id off len k n
  split at h
  .
   rename_i e W
   simp only[Xa,Xb]at h;obtain⟨rfl,rfl⟩:=h;obtain⟨c1,c2,c3,G⟩:=Z;simp only[rep]at hi T⊢;subst hi;obtain⟨h1,b,C,cap,a,I,rfl,h3,h4⟩:=T;rcases h4 with rfl|h4
   . refine⟨_,z1n (q0l W) c1 _ _ _ _ _ c3 G,h1,b,C,I,?_⟩;rw[c2,q9g];simp
   subst h4;simp only[X8]at G;omega
  cases h
 .
  rename_i k n _ _
  split at h
  .
   rename_i m e W
   simp only[Xd,Xb]at h;obtain⟨r',h1,rfl,rfl⟩:=h;obtain⟨b,o,rfl,I⟩:=zq2 h1 T;simp only[rep]at hi;subst hi;exact⟨_,zl2 (z7o W) Z.1 _ _ _ Z.2.1 Z.2.2,by rw[q9g];exact I⟩
  cases h
 cases h
def j6p(P:Program)(t:TypeId):AV->Option (Prop×AV)
 |.sl _ xs=>some ((aO P t).isSome=true,.v (.int .i64 xs.length))
 |.osl _ _ _ len=>some ((aO P t).isSome=true,.v (.int .i64 len))
 |.bsl _ _ len=>some ((aO P t).isSome=true,.v (.int .i64 len))
 |.v (.slice _ n _)=>some ((aO P t).isSome=true,.v (.int .i64 n))
 |.v (.string s)=>some (P.underlying t=some .string,.v (.int .i64 s.size))
 |_=>none
theorem qv6{t ty:TypeId}(h:(aO P t).isSome=true)(a:Option Addr)(n c:Nat):(Builtin.len_ #[t] ty #[.slice a n c]).run P w=.ok (.int .i64 n) w:=by
 obtain⟨e,G⟩:=Yn.1 h;simp[Builtin.len_,run_underlying (q0l G),goInt]
theorem j6o{t ty:TypeId}{a r:AV}{c:Prop}{u:Value}(h:j6p P t a=some (c,r))(I:c)(G:rep w β nx ow a u):
 ∃z,(Builtin.len_ #[t] ty #[u]).run P w=.ok z w/\rep w β nx ow r z:=by
 unfold j6p at h
 split at h
 .
  simp only[Xa,Xb]at h;obtain⟨rfl,rfl⟩:=h;simp only[rep]at G⊢;rcases G with⟨rfl,a,cap,rfl⟩|⟨b,o,cap,rfl,_⟩
  . exact⟨_,qv6 I _ _ _,rfl⟩
  exact⟨_,qv6 I _ _ _,rfl⟩
 .
  simp only[Xa,Xb]at h;obtain⟨rfl,rfl⟩:=h;simp only[rep]at G⊢;rcases G.2 with⟨_,_,rfl,rfl⟩|⟨b,C,cap,a,_,rfl,_⟩
  . exact⟨_,qv6 I _ _ _,rfl⟩
  exact⟨_,qv6 I _ _ _,rfl⟩
 . simp only[Xa,Xb]at h;obtain⟨rfl,rfl⟩:=h;simp only[rep]at G⊢;obtain⟨_,b,C,cap,a,_,rfl,_⟩:=G;exact⟨_,qv6 I _ _ _,rfl⟩
 . simp only[Xa,Xb]at h;obtain⟨rfl,rfl⟩:=h;simp only[rep]at G⊢;subst G;exact⟨_,qv6 I _ _ _,rfl⟩
 . simp only[Xa,Xb]at h;obtain⟨rfl,rfl⟩:=h;simp only[rep]at G⊢;subst G;exact⟨_,by simp[Builtin.len_,run_underlying I,goInt],rfl⟩
 cases h
theorem zm3{t:TypeId}{cs:List AV}{us:List Value}{off:Nat}(Z:y9 w β nx ow cs us)(I:(qc7 P t cs off).1):
 ∃z,(part t ⟨us⟩ off).run P w=.ok z w/\rep w β nx ow (qc7 P t cs off).2 z:=by
 have hl:=q1p Z;unfold qc7 at I⊢
 by_cases T:q6s P t=true
 .
  simp only[T,if_true]at I⊢;obtain⟨W,G⟩:=I;refine⟨.agg ⟨(us.drop off).take (szT P t)⟩,?_,?_⟩
  .
   unfold part;simp only[Sem.run_bind,ql7 W,T,Result.andThen_ok,if_true,run_sizeOf W,Sem.run_pure]
   congr 2
   apply Xs;simp[List.extract_eq_take_drop]
  simp only[rep];exact⟨_,rfl,q7o (q9v Z off) _⟩
 simp only[T]at I⊢;obtain⟨W,G⟩:=I;have hx:us[off]?=some (us.getD off undef):=by
  rw[Xr,Xo (by omega)];rfl
 refine⟨us.getD off undef,?_,by simpa using z00 Z off G⟩;unfold part;have a6:q6s P t=false:=by simpa using T
 have aj:(⟨us⟩:Array Value)[off]?=some (us.getD off undef):=by simpa using hx
 simp only[Sem.run_bind,ql7 W,a6,Result.andThen_ok,X7,if_false,aj,Sem.run_pure]
def zo4(P:Program)(t:TypeId)(f:Nat):AV->Option (Prop×AV)
 |.agg cs=>match q0t P t f with
  |some (G,I)=>some (qc7 P I cs G)
  |none=>none
 |_=>none
theorem j27{t:TypeId}{f:Nat}{a r:AV}{c:Prop}{u:Value}(h:zo4 P t f a=some (c,r))(Z:c)(T:rep w β nx ow a u):
 ∃z,(Instr.field t u f).run P w=.ok z w/\rep w β nx ow r z:=by
 unfold zo4 at h
 split at h
 .
  rename_i cs
  split at h
  .
   rename_i fo ft G
   simp only[Xa]at h;simp only[rep]at T;obtain⟨l,rfl,hl⟩:=T;obtain⟨z,h1,W⟩:=zm3 (P:=P) (t:=ft) (off:=fo) hl (by rw[h];exact Z);refine⟨z,?_,by rw[h]at W;exact W⟩;unfold q0t at G
   split at G
   .
    rename_i fs hd
    simp only[Xd,Xb]at G;obtain⟨fl,I,rfl,rfl⟩:=G;simp[Instr.field,run_underlying hd,I,asAgg,h1]
   cases G
  cases h
 cases h
def zn8(P:Program)(t:TypeId):AV->AV->Option (Prop×AV)
 |.agg cs,.v (.int _ n)=>match qu7 P t with
  |some (m,e)=>some (q19 P e=true/\0<=n/\n<m/\(qc7 P e cs (n.toNat*szT P e)).1,(qc7 P e cs (n.toNat*szT P e)).2)
  |none=>none
 |.v (.string s),.v (.int _ n)=>some (P.underlying t=some .string/\0<=n/\n<s.size,.v (.int .u8 (s.data.toList.getD n.toNat 0).toNat))
 |_,_=>none
theorem j1z{t:TypeId}{a i r:AV}{c:Prop}{u v:Value}(h:zn8 P t a i=some (c,r))(W:c)(G:rep w β nx ow a u)(hi:rep w β nx ow i v):
 ∃z,(Instr.index t u v).run P w=.ok z w/\rep w β nx ow r z:=by
 unfold zn8 at h
 split at h
 .
  rename_i cs k n
  split at h
  .
   rename_i m e he
   simp only[Xa,Xb]at h;obtain⟨rfl,rfl⟩:=h;obtain⟨I,T,Z,c4⟩:=W;simp only[rep]at G hi;obtain⟨l,rfl,hl⟩:=G;subst hi;obtain⟨z,h1,h2⟩:=zm3 (P:=P) hl c4;refine⟨z,?_,h2⟩;simp[Instr.index,asIntOf,run_underlying (z7o he),T,Z,run_sizeOf I,h1]
  cases h
 .
  rename_i s k n
  simp only[Xa,Xb]at h;obtain⟨rfl,rfl⟩:=h;obtain⟨I,T,Z⟩:=W;simp only[rep]at G hi⊢;subst G hi;have hn:n.toNat<s.size:=by omega
  refine⟨_,?_,rfl⟩;have hd:n.toNat<s.data.toList.length:=by simpa using hn
  have hg:(s.data.toList.getD n.toNat 0)=s[n.toNat]:=by
   rw[Xr,Xo hd];rfl
  rw[hg];simp[Instr.index,asIntOf,run_underlying I,T,hn]
 cases h
end
end
section
open Go Go.RowKit
section
variable {P:Program} {w:World} {β:aI} {nx:Nat} {ow:Nat->Prop}
theorem qs1{sz b:Nat}:∀{xs:List (List AV)} {o:Nat},q0p w β ow sz b xs o->∀(k:Nat),q0p w β ow sz b (xs.drop k) (o+k*sz)
 |[],o,h,k=>by simp[q0p]
 |r::G,o,h,0=>by simpa using h
 |r::G,o,h,k+1=>by
  simp only[q0p]at h;have:=qs1 h.2.2 k;rw[List.drop_succ_cons,show o+(k+1)*sz=o+sz+k*sz by rw[Xt];omega];exact this
theorem qk9{sz b:Nat}:∀{xs:List (List AV)} {o:Nat},q0p w β ow sz b xs o->∀(k:Nat),q0p w β ow sz b (xs.take k) o
 |[],o,h,k=>by simp[q0p]
 |r::G,o,h,0=>by simp[q0p]
 |r::G,o,h,k+1=>by
  simp only[q0p]at h;simp only[Yw,q0p];exact⟨h.1,h.2.1,qk9 h.2.2 k⟩
def qf6:Option AV->Int->Option Int
 |none,d=>some d
 |some (.v (.int _ n)),_=>some n
 |_,_=>none
theorem qr9{t e:TypeId}(ht:P.underlying t=some (.slice e))(he:q19 P e=true)(a:Option Addr)(len cap:Nat)(lo hi:Option AV)(lo' hi':Option Value)
 (a6:∀x,lo=some x->∃u,lo'=some u/\rep w β nx ow x u)(T:lo=none->lo'=none)(aj:∀x,hi=some x->∃u,hi'=some u/\rep w β nx ow x u)(W:hi=none->hi'=none)
 (l h:Int)(G:qf6 lo 0=some l)(I:qf6 hi len=some h)(c0:0<=l)(c1:l<=h)(c2:h<=len)(c3:len<=cap):
 (Instr.sliceAt t (.slice a len cap) lo' hi' none).run P w=.ok (.slice (if cap=l.toNat then a else a.map (·.add (l.toNat*szT P e))) (h.toNat-l.toNat) (cap-l.toNat)) w:=by
 have ak:lo=none/\lo'=none/\l=0\/∃k,lo'=some (.int k l):=by
  unfold qf6 at G
  split at G
  . simp only[Xa]at G;exact .inl ⟨rfl,T rfl,G.symm⟩
  . simp only[Xa]at G;obtain⟨u,h1,Z⟩:=a6 _ rfl;simp only[rep]at Z;subst G Z;exact .inr ⟨_,h1⟩
  cases G
 have an:hi=none/\hi'=none/\h=len\/∃k,hi'=some (.int k h):=by
  unfold qf6 at I
  split at I
  . simp only[Xa]at I;exact .inl ⟨rfl,W rfl,I.symm⟩
  . simp only[Xa]at I;obtain⟨u,h1,Z⟩:=aj _ rfl;simp only[rep]at Z;subst I Z;exact .inr ⟨_,h1⟩
  cases I
 have e0:(0:Int)<=h:=by omega
 have e1:h<=(cap:Int):=by omega
 have e2:(h.toNat:Int)=h:=Yl e0;have key:(Instr.sliceBounds true len cap lo' hi' none).run P w=.ok (l.toNat,h.toNat,cap) w:=by
  rcases ak with⟨_,rfl,rfl⟩|⟨k,rfl⟩<;>rcases an with⟨_,rfl,rfl⟩|⟨k',rfl⟩
  . simp[Instr.sliceBounds]
  . simp[Instr.sliceBounds,run_sliceBound w k' h cap _ e0 e1]
  . simp[Instr.sliceBounds,run_sliceBound w k l len _ c0 (by omega)]
  simp[Instr.sliceBounds,run_sliceBound w k' h cap _ e0 e1,run_sliceBound w k l h.toNat _ c0 (by omega)]
 simp only[Instr.sliceAt,Instr.slice,Sem.run_bind,run_underlying ht,Result.andThen_ok,key,run_sizeOf he,Sem.run_pure]
def zl0(P:Program)(t:TypeId)(lo hi:Option AV):AV->Option (Prop×AV)
 |.sl sz xs=>match aO P t,qf6 lo 0,qf6 hi xs.length with
  |some e,some l,some h=>some (q19 P e=true/\szT P e=sz/\0<=l/\l<=h/\h<=xs.length,.sl sz ((xs.take h.toNat).drop l.toNat))
  |_,_,_=>none
 |.osl id sz off len=>match aO P t,qf6 lo 0,qf6 hi len with
  |some e,some l,some h=>some (q19 P e=true/\szT P e=sz/\0<=l/\l<=h/\h<=len,.osl id sz (off+l.toNat) (h.toNat-l.toNat))
  |_,_,_=>none
 |.bsl id off len=>match aO P t,qf6 lo 0,qf6 hi len with
  |some e,some l,some h=>some (q19 P e=true/\szT P e=1/\0<=l/\l<=h/\h<=len,.bsl id (off+l.toNat) (h.toNat-l.toNat))
  |_,_,_=>none
 |.ptr id o=>match qu7 P t with
  |some (m,e)=>match qf6 lo 0,qf6 hi m with
   |some l,some h=>some (q19 P e=true/\szT P e=1/\0<=l/\l<=h/\h<=m,.bsl id (o+l.toNat) (h.toNat-l.toNat))
   |_,_=>none
  |none=>none
 |.v (.string x)=>match qf6 lo 0,qf6 hi x.data.toList.length with
  |some l,some h=>some (P.underlying t=some .string/\0<=l/\l<=h/\h<=x.data.toList.length,.v (.string ⟨⟨(x.data.toList.take h.toNat).drop l.toNat⟩⟩))
  |_,_=>none
 |_=>none
theorem zy9{t:TypeId}(ht:P.underlying t=some .string)(x:ByteArray)(lo hi:Option AV)(lo' hi':Option Value)
 (a6:∀x,lo=some x->∃u,lo'=some u/\rep w β nx ow x u)(T:lo=none->lo'=none)(aj:∀x,hi=some x->∃u,hi'=some u/\rep w β nx ow x u)(W:hi=none->hi'=none)
 (l h:Int)(G:qf6 lo 0=some l)(I:qf6 hi x.data.toList.length=some h)(c0:0<=l)(c1:l<=h)(c2:h<=x.data.toList.length):
 (Instr.sliceAt t (.string x) lo' hi' none).run P w=.ok (.string ⟨⟨(x.data.toList.take h.toNat).drop l.toNat⟩⟩) w:=by
 have aq:x.data.toList.length=x.size:=rfl;have ak:lo=none/\lo'=none/\l=0\/∃k,lo'=some (.int k l):=by
  unfold qf6 at G
  split at G
  . simp only[Xa]at G;exact .inl ⟨rfl,T rfl,G.symm⟩
  . simp only[Xa]at G;obtain⟨u,h1,Z⟩:=a6 _ rfl;simp only[rep]at Z;subst G Z;exact .inr ⟨_,h1⟩
  cases G
 have an:hi=none/\hi'=none/\h=x.data.toList.length\/∃k,hi'=some (.int k h):=by
  unfold qf6 at I
  split at I
  . simp only[Xa]at I;exact .inl ⟨rfl,W rfl,I.symm⟩
  . simp only[Xa]at I;obtain⟨u,h1,Z⟩:=aj _ rfl;simp only[rep]at Z;subst I Z;exact .inr ⟨_,h1⟩
  cases I
 have e0:(0:Int)<=h:=by omega
 have e1:h<=(x.size:Int):=by omega
 have e2:(h.toNat:Int)=h:=Yl e0;have key:(Instr.sliceBounds false x.size x.size lo' hi' none).run P w=.ok (l.toNat,h.toNat,x.size) w:=by
  rcases ak with⟨_,rfl,rfl⟩|⟨k,rfl⟩<;>rcases an with⟨_,rfl,rfl⟩|⟨k',rfl⟩
  . simp[Instr.sliceBounds]
  . simp[Instr.sliceBounds,run_sliceBound w k' h x.size _ e0 e1]
  . simp[Instr.sliceBounds,run_sliceBound w k l x.size _ c0 (by omega)]
  simp[Instr.sliceBounds,run_sliceBound w k' h x.size _ e0 e1,run_sliceBound w k l h.toNat _ c0 (by omega)]
 have ao:x.extract l.toNat h.toNat=⟨⟨(x.data.toList.take h.toNat).drop l.toNat⟩⟩:=by
  apply ByteArray.ext;apply Xs;rw[ByteArray.data_extract,Array.toList_extract];simp[List.drop_take]
 simp only[Instr.sliceAt,Instr.slice,Sem.run_bind,run_underlying ht,Result.andThen_ok,key,Sem.run_pure,ao,Option.isSome_none,X7,if_false]
theorem zz0{t e:TypeId}{m:Nat}(ht:P.underlying t=some (.array m e))(he:q19 P e=true)(a:Addr)(lo hi:Option AV)(lo' hi':Option Value)
 (a6:∀x,lo=some x->∃u,lo'=some u/\rep w β nx ow x u)(T:lo=none->lo'=none)(aj:∀x,hi=some x->∃u,hi'=some u/\rep w β nx ow x u)(W:hi=none->hi'=none)
 (l h:Int)(G:qf6 lo 0=some l)(I:qf6 hi m=some h)(c0:0<=l)(c1:l<=h)(c2:h<=m):
 (Instr.sliceAt t (.pointer (some a)) lo' hi' none).run P w=.ok (.slice (some (if m=l.toNat then a else a.add (l.toNat*szT P e))) (h.toNat-l.toNat) (m-l.toNat)) w:=by
 have ak:lo=none/\lo'=none/\l=0\/∃k,lo'=some (.int k l):=by
  unfold qf6 at G
  split at G
  . simp only[Xa]at G;exact .inl ⟨rfl,T rfl,G.symm⟩
  . simp only[Xa]at G;obtain⟨u,h1,Z⟩:=a6 _ rfl;simp only[rep]at Z;subst G Z;exact .inr ⟨_,h1⟩
  cases G
 have an:hi=none/\hi'=none/\h=m\/∃k,hi'=some (.int k h):=by
  unfold qf6 at I
  split at I
  . simp only[Xa]at I;exact .inl ⟨rfl,W rfl,I.symm⟩
  . simp only[Xa]at I;obtain⟨u,h1,Z⟩:=aj _ rfl;simp only[rep]at Z;subst I Z;exact .inr ⟨_,h1⟩
  cases I
 have e0:(0:Int)<=h:=by omega
 have e1:h<=(m:Int):=by omega
 have e2:(h.toNat:Int)=h:=Yl e0;have key:(Instr.sliceBounds false m m lo' hi' none).run P w=.ok (l.toNat,h.toNat,m) w:=by
  rcases ak with⟨_,rfl,rfl⟩|⟨k,rfl⟩<;>rcases an with⟨_,rfl,rfl⟩|⟨k',rfl⟩
  . simp[Instr.sliceBounds]
  . simp[Instr.sliceBounds,run_sliceBound w k' h m _ e0 e1]
  . simp[Instr.sliceBounds,run_sliceBound w k l m _ c0 (by omega)]
  simp[Instr.sliceBounds,run_sliceBound w k' h m _ e0 e1,run_sliceBound w k l h.toNat _ c0 (by omega)]
 simp only[Instr.sliceAt,Sem.run_bind,run_underlying ht,Result.andThen_ok,Instr.sureAddr,key,run_sizeOf he,Sem.run_pure]
theorem j0r{t:TypeId}{lo hi:Option AV}{lo' hi':Option Value}{a r:AV}{c:Prop}{u:Value}(h:zl0 P t lo hi a=some (c,r))(hc:c)(ha:rep w β nx ow a u)
 (Z:∀x,lo=some x->∃u,lo'=some u/\rep w β nx ow x u)(G:lo=none->lo'=none)(a6:∀x,hi=some x->∃u,hi'=some u/\rep w β nx ow x u)(I:hi=none->hi'=none):
 ∃z,(Instr.sliceAt t u lo' hi' none).run P w=.ok z w/\rep w β nx ow r z:=by
 unfold zl0 at h
 split at h
 .
  rename_i sz xs
  split at h
  .
   rename_i e l W he hl T
   simp only[Xa,Xb]at h;obtain⟨rfl,rfl⟩:=h;obtain⟨c1,c2,c3,c4,c5⟩:=hc;simp only[rep]at ha⊢;rcases ha with⟨rfl,a,cap,rfl⟩|⟨b,o,cap,rfl,h2,h3,h4,h5⟩
   .
    have h0:W.toNat-l.toNat=0:=by simp only[List.length_nil,X8]at c5;omega
    refine⟨_,qr9 (q0l he) c1 a 0 cap lo hi lo' hi' Z G a6 I l W hl T c3 c4 c5 (Y0 _),.inl ⟨by simp,if cap=l.toNat then a else a.map (·.add (l.toNat*szT P e)),cap-l.toNat,?_⟩⟩;rw[h0]
   refine⟨_,qr9 (q0l he) c1 _ xs.length cap lo hi lo' hi' Z G a6 I l W hl T c3 c4 c5 h2,?_⟩;have aj:((xs.take W.toNat).drop l.toNat).length=W.toNat-l.toNat:=by
    rw[Yo,X5];omega
   by_cases hz:(xs.take W.toNat).drop l.toNat=[]
   . refine .inl ⟨hz,?_⟩;rw[<-aj,hz];exact⟨_,_,rfl⟩
   have an:0<W.toNat-l.toNat:=by
    rw[<-aj];exact List.length_pos_iff.2 hz
   refine .inr ⟨b,o+l.toNat*sz,cap-l.toNat,?_,by rw[aj];omega,h3,h4,qs1 (qk9 h5 _) _⟩;rw[if_neg (by omega),aj,c2];simp[q9g]
  cases h
 .
  rename_i id sz off len
  split at h
  .
   rename_i e l W he hl T
   simp only[Xa,Xb]at h;obtain⟨rfl,rfl⟩:=h;obtain⟨c1,c2,c3,c4,c5⟩:=hc;simp only[rep]at ha⊢;obtain⟨h1,ha⟩:=ha;rcases ha with⟨h2,rfl,rfl,rfl⟩|⟨b,C,cap,a,h2,rfl,h3,h4,h5⟩
   .
    have e1:W=0:=by simp only[X8]at c5;omega
    have e2:l=0:=by omega
    subst e1 e2;exact⟨_,qr9 (q0l he) c1 none 0 0 lo hi lo' hi' Z G a6 I 0 0 hl T c3 c4 c5 (Y0 _),h1,.inl ⟨h2,by simp,by simp,by simp⟩⟩
   refine⟨_,qr9 (q0l he) c1 _ len cap lo hi lo' hi' Z G a6 I l W hl T c3 c4 c5 h3,h1,.inr ⟨b,C,cap-l.toNat,if cap=l.toNat then a else a.add (l.toNat*szT P e),h2,?_,by omega,by omega,?_⟩⟩
   . split<;>simp
   by_cases ao:cap=l.toNat/\off+l.toNat≠0
   . exact .inr (by omega)
   left
   have ak:cap=l.toNat->l.toNat=0/\off=0/\a=⟨b,off*sz,none⟩:=fun h0=>by
    have h1:l.toNat=0/\off=0:=by omega
    refine⟨h1.1,h1.2,?_⟩;rcases h5 with h5|h5
    . exact h5
    exact absurd h1.2 h5.2
   split
   .
    rename_i h0
    obtain⟨e1,e2,e3⟩:=ak h0;rw[e3,e1];simp
   rcases h5 with rfl|h5
   . rw[q9g,c2];simp[Xt]
   omega
  cases h
 .
  rename_i id off len
  split at h
  .
   rename_i e l W he hl T
   simp only[Xa,Xb]at h;obtain⟨rfl,rfl⟩:=h;obtain⟨c1,c2,c3,c4,c5⟩:=hc;simp only[rep]at ha⊢;obtain⟨h1,b,C,cap,a,h2,rfl,h3,h5⟩:=ha;refine⟨_,qr9 (q0l he) c1 _ len cap lo hi lo' hi' Z G a6 I l W hl T c3 c4 c5 h3,h1,b,C,cap-l.toNat,if cap=l.toNat then a else a.add (l.toNat*szT P e),h2,?_,by omega,?_⟩
   . split<;>simp
   by_cases hz:W.toNat-l.toNat=0
   . exact .inr hz
   left
   rw[if_neg (by omega)];rcases h5 with rfl|h5
   . rw[q9g,c2];simp
   omega
  cases h
 .
  rename_i id o
  split at h
  .
   rename_i m e he
   split at h
   .
    rename_i l W hl T
    simp only[Xa,Xb]at h;obtain⟨rfl,rfl⟩:=h;obtain⟨c1,c2,c3,c4,c5⟩:=hc;simp only[rep]at ha⊢;obtain⟨h1,b,C,h2,rfl⟩:=ha;refine⟨_,zz0 (z7o he) c1 _ lo hi lo' hi' Z G a6 I l W hl T c3 c4 c5,h1,b,C,_,_,h2,rfl,by omega,?_⟩
    by_cases hm:m=l.toNat
    . exact .inr (by omega)
    left;rw[if_neg hm,c2,q9g];simp
   cases h
  cases h
 .
  rename_i x
  split at h
  .
   rename_i l W hl T
   simp only[Xa,Xb]at h;obtain⟨rfl,rfl⟩:=h;obtain⟨c1,c2,c3,c4⟩:=hc;simp only[rep]at ha⊢;subst ha;exact⟨_,zy9 c1 x lo hi lo' hi' Z G a6 I l W hl T c2 c3 c4,rfl⟩
  cases h
 cases h
def z9a(i:Nat):AV->Option (Prop×AV)
 |.tup xs=>some (i<xs.length,xs.getD i .bk)
 |_=>none
theorem zt7{i:Nat}{a r:AV}{c:Prop}{u:Value}(h:z9a i a=some (c,r))(W:c)(G:rep w β nx ow a u):
 ∃z,(Instr.extract u i).run P w=.ok z w/\rep w β nx ow r z:=by
 unfold z9a at h
 split at h
 .
  simp only[Xa,Xb]at h;obtain⟨rfl,rfl⟩:=h;simp only[rep]at G;obtain⟨l,rfl,I⟩:=G;have T:=q1p I;refine⟨l.getD i undef,?_,z00 I i W⟩;have Z:(⟨l⟩:Array Value)[i]?=some (l.getD i undef):=by
   rw[Xr];simp[show i<l.length by omega]
  simp[Instr.extract,Z]
 cases h
def z4f:List AV->UInt8
 |[.v (.int _ n)]=>UInt8.ofNat n.toNat
 |_=>0
def z8g:List AV->Bool
 |[.v (.int .u8 _)]=>true
 |_=>false
def z7u:List AV->Int
 |[.v (.int _ n)]=>n
 |_=>0
def k0m(n:Int):List UInt8:=(Utf8.encode n).data.toList
def zp5(P:Program)(src dst:TypeId):AV->Option (Prop×AV)
 |.v (.int _ n)=>match qz0 P dst with
  |some k=>some (q19 P src=true,.v (.int k (k.wrap n)))
  |none=>match P.underlying dst with
   |some .string=>some (q19 P src=true,.v (.string ⟨⟨k0m n⟩⟩))
   |_=>none
 |.sl sz xs=>match P.underlying dst,aO P src with
  |some .string,some e=>some (sz=1/\qz0 P e=some .u8/\xs.all z8g=true,.v (.string ⟨⟨xs.map z4f⟩⟩))
  |_,_=>none
 |_=>none
theorem z9t{b:Nat}:∀{xs:List (List AV)} {o:Nat},xs.all z8g=true->q0p w β ow 1 b xs o->∀i,i<xs.length->w.cell? ⟨b,o+i,none⟩=some (.int .u8 ((xs.map z7u).getD i 0))
 |[],_,_,_,i,hi=>by simp at hi
 |r::W,o,hb,h,i,hi=>by
  simp only[Yg,X4]at hb;simp only[q0p]at h
  cases i with
  |zero=>
   have G:=hb.1;unfold z8g at G
   split at G
   .
    rename_i n
    obtain⟨u,T,_,I⟩:=(by simpa only[q4c]using h.2.1:(∃u,w.cell? ⟨b,o,none⟩=some u/\u.oneCell'=true/\rep w β 0 ow (.v (.int .u8 n)) u)/\True).1;simp only[rep]at I;subst I
    simpa [z7u]using T
   cases G
  |succ i=>
   have:=z9t hb.2 h.2.2 i (by simpa using hi);rw[show o+(i+1)=o+1+i by omega]
   simpa using this
theorem j3w{src dst:TypeId}{a r:AV}{c:Prop}{u:Value}(h:zp5 P src dst a=some (c,r))(T:c)(G:rep w β nx ow a u):
 ∃z,(convert src dst u).run P w=.ok z w/\rep w β nx ow r z:=by
 unfold zp5 at h
 split at h
 .
  split at h
  .
   rename_i k I
   simp only[Xa,Xb]at h;obtain⟨rfl,rfl⟩:=h;simp only[rep]at G⊢;subst G;obtain⟨i,d,hi,hd,hs⟩:=z0e T;exact⟨_,by simp[convert,run_underlying hd,run_underlying (z0v I),Conv.intToInt],rfl⟩
  split at h
  .
   rename_i hs
   simp only[Xa,Xb]at h;obtain⟨rfl,rfl⟩:=h;simp only[rep]at G⊢;subst G;obtain⟨i,d,hi,hd,_⟩:=z0e T;exact⟨_,by simp[convert,run_underlying hd,run_underlying hs,Conv.intToString];rfl,rfl⟩
  cases h
 .
  rename_i sz xs
  split at h
  .
   rename_i e hd W
   simp only[Xa,Xb]at h;obtain⟨rfl,rfl⟩:=h;obtain⟨rfl,I,hb⟩:=T;simp only[rep]at G⊢;have Z:∀r:List AV,UInt8.ofNat (z7u r).toNat=z4f r:=fun r=>by unfold z7u z4f;split<;>rfl
   rcases G with⟨rfl,a,cap,rfl⟩|⟨b,o,cap,rfl,_,_,_,h5⟩
   .
    refine⟨_,?_,rfl⟩
    cases a with
    |none=>rw[run_convert_bytes_nil w src e (q0l W) (z0v I) 0 cap dst hd];rfl
    |some a=>
     rw[run_convert_bytes_string w src dst e _ 0 cap (q0l W) (z0v I) hd,run_bytesToString w a 0 cap [] (by simpa using run_loadCells_list (P:=P) (w:=w) a [] (by simp))];rfl
   refine⟨_,run_convert_bytes_arg w src e (q0l W) (z0v I) b o xs.length cap (xs.map z7u) (by simp) (z9t hb h5) dst hd,?_⟩;unfold strOfNums;simp only[List.map_map];rw[show ((fun n:Int=>UInt8.ofNat n.toNat)∘z7u)=z4f from funext Z]
  cases h
 cases h
def unR(op:UnOp):AV->Option (Prop×AV)
 |.v (.int k n)=>match op with
  |.neg=>some (True,.v (.int k (k.wrap (0-n))))
  |.xor=>some (True,.v (.int k (jb1 k (if k.signed then -1 else k.max) n)))
  |_=>none
 |.v (.bool b)=>match op with
  |.not=>some (True,.v (.bool !b))
  |_=>none
 |_=>none
theorem j7y{op:UnOp}{a r:AV}{c:Prop}{u:Value}(h:unR op a=some (c,r))(G:rep w β nx ow a u):
 ∃z,(Op.unary op u).run P w=.ok z w/\rep w β nx ow r z:=by
 unfold unR at h
 split at h
 .
  simp only[rep]at G;subst G
  cases op<;>simp only[Xa,Xb,reduceCtorEq]at h<;>obtain⟨rfl,rfl⟩:=h
  . exact⟨_,rfl,by simp only[rep]⟩
  exact⟨_,rfl,by simp only[rep];rfl⟩
 .
  simp only[rep]at G;subst G
  cases op<;>simp only[Xa,Xb,reduceCtorEq]at h<;>obtain⟨rfl,rfl⟩:=h
  exact⟨_,rfl,by simp only[rep]⟩
 cases h
def j6h:AV->AV->Option (Prop×AV)
 |.v (.int k x),.v (.int _ y)=>some (True,.v (.int k (min x y)))
 |_,_=>none
def j6j:AV->AV->Option (Prop×AV)
 |.v (.int k x),.v (.int _ y)=>some (True,.v (.int k (max x y)))
 |_,_=>none
theorem j6g{ts:Array TypeId}{t:TypeId}{a b r:AV}{c:Prop}{u v:Value}(h:j6h a b=some (c,r))(G:rep w β nx ow a u)(hb:rep w β nx ow b v):
 ∃z,(Builtin.min_ ts t #[u,v]).run P w=.ok z w/\rep w β nx ow r z:=by
 unfold j6h at h
 split at h
 .
  simp only[Xa,Xb]at h;obtain⟨rfl,rfl⟩:=h;simp only[rep]at G hb⊢;subst G hb;refine⟨_,run_min_int2 w _ _ _ _ _ _,?_⟩
  congr 1
  split<;>omega
 cases h
theorem j6i{ts:Array TypeId}{t:TypeId}{a b r:AV}{c:Prop}{u v:Value}(h:j6j a b=some (c,r))(G:rep w β nx ow a u)(hb:rep w β nx ow b v):
 ∃z,(Builtin.max_ ts t #[u,v]).run P w=.ok z w/\rep w β nx ow r z:=by
 unfold j6j at h
 split at h
 .
  simp only[Xa,Xb]at h;obtain⟨rfl,rfl⟩:=h;simp only[rep]at G hb⊢;subst G hb;refine⟨_,run_max_int2 w _ _ _ _ _ _,?_⟩
  congr 1
  split<;>omega
 cases h
def j6t:AV->Bool|.ptr .. |.apt .. |.el .. |.clo .. =>true|_=>false
def j01(c a b:AV):Option (Prop×AV):=match c.st with
 |.v (.bool G)=>match a.st,b.st with
  |.v (.bool x),.v (.bool y)=>some (c.aU/\(G=true->a.aU)/\(G=false->b.aU),.v (.bool ((G&&x)||(!G&&y))))
  |.v (.bool x),_=>some (c.aU/\G=true/\a.aU,.v (.bool x))
  |_,.v (.bool y)=>some (c.aU/\G=false/\b.aU,.v (.bool y))
  |_,_=>none
 |_=>none
end
end
section
open Go Go.RowKit
def n1(a:AV)(r:Option (Prop×AV)):Option (Prop×AV):=r.map fun p=>(a.aU/\p.1,p.2)
def bm:List AV->Prop|[]=>True|a::r=>a.aU/\bm r
def cz:Option AV->Prop|none=>True|some a=>a.aU
def ze3:List AV->Option (List Value)
 |[]=>some []
 |.v x::r=>(ze3 r).map (x::·)
 |_=>none
def z5c:AV->Option Value
 |.v x=>some x
 |.agg cs=>(ze3 cs).map fun l=> .agg ⟨l⟩
 |_=>none
def zn5(P:Program)(hp:Hp)(t:TypeId)(m k:AV):Option (Prop×AV):=match m,z5c k,P.underlying t with
 |.mp id,some kv,some (.map G e)=>match q0i hp id with
  |some (.con K T)=>match K.mpk with
   |some (ok,I,some i)=>some (Go.Maps.Keyed P G/\(∀v,ok v->∃l,keyOf P G v=some l)/\I[i]?=some kv,T.headD .bk)
   |some (ok,I,none)=>match (P.info? e).bind (·.zero)with
    |some z=>some (Go.Maps.Keyed P G/\(∀v,ok v->∃l,keyOf P G v=some l)/\(∃l,keyOf P G kv=some l)/\kv∉I,.v z)
    |none=>none
   |none=>none
  |_=>none
 |_,_,_=>none
def fop(P:Program)(hp:Hp)(ev:Operand->AV):Op->Option (Prop×AV)
 |.move x=>some (True,ev x)
 |.assign x=>some (True,ev x)
 |.pick c a b=>j01 (ev c) (ev a) (ev b)
 |.load t x=>n1 (ev x) (ze2 P hp t (ev x).st)
 |.lookup t m k false=>n1 (ev m) (n1 (ev k) (zn5 P hp t (ev m).st (ev k).st))
 |.nilCheck x=>if j6t (ev x).st=true then some ((ev x).aU,(ev x).st)else none
 |.binOp op _ x y _=>n1 (ev x) (n1 (ev y) (j7e op (ev x).st (ev y).st))
 |.unOp op _ x=>n1 (ev x) (unR op (ev x).st)
 |.convert s d x=>n1 (ev x) (zp5 P s d (ev x).st)
 |.slice t x lo hi none=>n1 (ev x) ((zl0 P t (lo.map fun x=>(ev x).st) (hi.map fun x=>(ev x).st) (ev x).st).map fun p=>((cz (lo.map ev)/\cz (hi.map ev))/\p.1,p.2))
 |.fieldAddr t x f=>n1 (ev x) (j07 P t f (ev x).st)
 |.field t x f=>n1 (ev x) (zo4 P t f (ev x).st)
 |.indexAddr t x i=>n1 (ev x) (n1 (ev i) (j06 P t (ev x).st (ev i).st))
 |.index t x i=>n1 (ev x) (n1 (ev i) (zn8 P t (ev x).st (ev i).st))
 |.extract x i=>n1 (ev x) (z9a i (ev x).st)
 |.makeFunc (.func f) first G=>if first.toList.length=0 then some (bm (G.toList.map ev),.clo f (G.toList.map fun x=>(ev x).st))else none
 |.call c=>match c.callee,c.args.toList,c.argTypes.toList with
  |.builtin .len,[x],[t]=>n1 (ev x) (j6p P t (ev x).st)
  |.builtin .min,[x,y],_=>n1 (ev x) (n1 (ev y) (j6h (ev x).st (ev y).st))
  |.builtin .max,[x,y],_=>n1 (ev x) (n1 (ev y) (j6j (ev x).st (ev y).st))
  |_,_,_=>none
 |_=>none
theorem q4g{a:AV}{r:Option (Prop×AV)}{c:Prop}{x:AV}(h:n1 a r=some (c,x)):∃G,r=some (G,x)/\c=(a.aU/\G):=by
 simp only[n1,Xd,Xb]at h;obtain⟨⟨G,Z⟩,T,W,I⟩:=h;exact⟨G,by rw[T];simp at I⊢;exact I,W.symm⟩
section
variable {P:Program} {w:World} {β:aI} {nx:Nat} {A:Nat->Prop} {hp:Hp} {ev:Operand->AV} {ρ:Operand->Value}
theorem z8u{ow:Nat->Prop}(G:∀x,rep w β nx ow (ev x) (ρ x)):∀(xs:List Operand),bm (xs.map ev)->y9 w β nx ow (xs.map fun x=>(ev x).st) (xs.map ρ)
 |[],_=>by simp[y9]
 |x::xs,h=>by
  simp only[Xi,bm]at h;simp only[Xi,y9];exact⟨q1j (G x) h.1,z8u G xs h.2⟩
theorem j3j{ow:Nat->Prop}{c a b r:AV}{cd:Prop}{uc ua ub:Value}(h:j01 c a b=some (cd,r))(W:cd)(Z:rep w β nx ow c uc)(h2:rep w β nx ow a ua)(h3:rep w β nx ow b ub):
 ∃z,(do pure (.value (if <-asBool uc then ua else ub)):Sem Next).run P w=.ok (.value z) w/\rep w β nx ow r z:=by
 unfold j01 at h
 split at h
 .
  rename_i cb e1
  split at h
  .
   rename_i x y G e3
   simp only[Xa,Xb]at h;obtain⟨rfl,rfl⟩:=h;obtain⟨n1,I,T⟩:=W;have:=q1j Z n1;rw[e1]at this;simp only[rep]at this⊢;subst this
   cases cb
   . have:=q1j h3 (T rfl);rw[e3]at this;simp only[rep]at this;subst this;exact⟨.bool y,rfl,by simp⟩
   have:=q1j h2 (I rfl);rw[G]at this;simp only[rep]at this;subst this;exact⟨.bool x,rfl,by simp⟩
  .
   rename_i x G _
   simp only[Xa,Xb]at h;obtain⟨rfl,rfl⟩:=h;obtain⟨n1,I,T⟩:=W;subst I;have:=q1j Z n1;rw[e1]at this;simp only[rep]at this⊢;subst this;have:=q1j h2 T;rw[G]at this;simp only[rep]at this;subst this;exact⟨.bool x,rfl,by simp⟩
  .
   rename_i y G _
   simp only[Xa,Xb]at h;obtain⟨rfl,rfl⟩:=h;obtain⟨n1,I,T⟩:=W;subst I;have:=q1j Z n1;rw[e1]at this;simp only[rep]at this⊢;subst this;have:=q1j h3 T;rw[G]at this;simp only[rep]at this;subst this;exact⟨.bool y,rfl,by simp⟩
  cases h
 cases h
theorem zg0{ow:Nat->Prop}:∀{cs:List AV} {vs us:List Value},ze3 cs=some vs->y9 w β nx ow cs us->us=vs
 |[],vs,[],h,_=>by simp only[ze3,Xa]at h;exact h
 |[],_,_::_,_,G=>by simp only[y9]at G
 |c::cs,vs,[],h,G=>by simp only[y9]at G
 |c::cs,vs,u::us,h,G=>by
  simp only[y9]at G
  cases c<;>simp only[ze3,reduceCtorEq,Xd]at h
  obtain⟨l,T,rfl⟩:=h;have I:=G.1;simp only[rep]at I;rw[I,zg0 T G.2]
theorem z3t{ow:Nat->Prop}{k:AV}{kv u:Value}(h:z5c k=some kv)(G:rep w β nx ow k u):u=kv:=by
 cases k<;>simp only[z5c,reduceCtorEq,Xa,Xd]at h
 . subst h;simpa only[rep]using G
 obtain⟨l,I,rfl⟩:=h;simp only[rep]at G;obtain⟨l',rfl,T⟩:=G;rw[zg0 I T]
theorem j3o(b4:aV w β nx A hp){t:TypeId}{m k r:AV}{c:Prop}{um W:Value}(h:zn5 P hp t m k=some (c,r))(hc:c)(hm:rep w β nx (own β hp A) m um)(hk:rep w β nx (own β hp A) k W):
 ∃z,(Instr.lookup t um W false).run P w=.ok z w/\rep w β nx (own β hp A) r z:=by
 unfold zn5 at h
 split at h
 rotate_left
 . cases h
 rename_i m' k' id kv kt e b5 ht
 have hu:=z3t b5 hk;subst hu;simp only[rep]at hm;obtain⟨_,b,C',hb,rfl⟩:=hm
 split at h
 rotate_left
 . cases h
 rename_i K ex hg
 have ar:=b4.obj _ (q0k hg);simp only[q6f]at ar;have key:∀{ok ks aj},K.mpk=some (ok,ks,aj)->Go.Maps.Keyed P kt->(∀v,ok v->∃l,keyOf P kt v=some l)->(∃l,keyOf P kt W=some l)->
  ∃us G clock,jm8 w b ok ks aj us/\y9 w β nx (own β hp A) ex us/\w.heap[b]?=some (.map G clock)/\G.toList.map (·.key)=ks/\(∀i,aj=some i->∃u,us=[u]/\(G.toList[i]?).map (·.val)=some u)/\
  (((Instr.findKey kt W G.toList).run P w=.ok none w/\∀e∈G.toList,e.key≠W)\/∃j e,(Instr.findKey kt W G.toList).run P w=.ok (some (j,e.val)) w/\G.toList[j]?=some e/\e.key=W):=by
  intro ok ks aj Z hK a6 T;rcases ar with⟨b',C2,us,I,_,h2,h3⟩|⟨I,_⟩
  rotate_left
  . rw[hb]at I;cases I
  rw[hb]at I;simp only[Xa,Xb]at I;obtain⟨rfl,rfl⟩:=I;have ak:=K.mpl Z h2;obtain⟨G,clock,q1,q2,q3,q4,q5⟩:=ak;obtain⟨lx,b6⟩:=T;refine⟨us,G,clock,⟨G,clock,q1,q2,q3,q4,q5⟩,h3,q1,q2,q5,hK.find w b6 G.toList fun e he=>a6 _ (q4 _ ?_)⟩;rw[<-q2];exact Xk he
 have b2:Go.Maps.Keyed P kt->∀{G:Array MapEntry} {clock:Nat} {v:Value},w.heap[b]?=some (.map G clock)->(∃l,keyOf P kt W=some l)->∀{j:Nat},(Instr.findKey kt W G.toList).run P w=.ok (some (j,v)) w->(Instr.lookup t (.map (some b)) W false).run P w=.ok v w:=fun hK {G clock v} q1 ⟨l,hl⟩ {j} I=>by
  simp[Instr.lookup,run_underlying ht,MapKept.run_getObj_map q1,hK.check w _ hl,I,Result.andThen]
 split at h
 .
  rename_i ok ks i Z
  simp only[Xa,Xb]at h;obtain⟨rfl,rfl⟩:=h;obtain⟨hK,a6,b1⟩:=hc;have b3:=ar;have T:∃l,keyOf P kt W=some l:=by
   rcases b3 with⟨b',C2,us,I,_,h2,_⟩|⟨I,_⟩
   rotate_left
   . rw[hb]at I;cases I
   obtain⟨G,clock,q1,q2,q3,q4,q5⟩:=K.mpl Z h2;exact a6 _ (q4 _ (X9 b1))
  obtain⟨us,G,clock,ak,an,q1,q2,q5,hf⟩:=key Z hK a6 T;obtain⟨u,bi,bs⟩:=q5 i rfl;subst bi;obtain⟨ei,ao,bv⟩:=Xd.1 bs;have aq:ei.key=W:=by
   rw[<-q2,Yf,ao]at b1
   simpa using b1
  obtain⟨_,_,r1,r2,r3,_,_⟩:=ak;rcases hf with⟨_,h2⟩|⟨j,e0,I,h2,h3⟩
  . exact absurd aq (h2 ei (X9 ao))
  have c0:j=i:=by
   have c1:(G.toList.map (·.key)).Nodup:=by rw[q2];exact r3
   have e1:(G.toList.map (·.key))[j]?=some W:=by rw[Yf,h2];simp[h3]
   have e2:(G.toList.map (·.key))[i]?=some W:=by rw[Yf,ao];simp[aq]
   exact (List.getElem?_inj (Xz.1 e1).1 c1).1 (e1.trans e2.symm)
  subst c0;rw[ao]at h2
  cases h2
  refine⟨_,b2 hK q1 T I,?_⟩;rw[bv]
  cases ex with
  |nil=>simp only[y9]at an
  |cons x ex=>simp only[y9]at an;exact an.1
 .
  rename_i ok ks Z
  split at h
  rotate_left
  . cases h
  rename_i z hz
  simp only[Xa,Xb]at h;obtain⟨rfl,rfl⟩:=h;obtain⟨hK,a6,T,c2⟩:=hc;obtain⟨us,G,clock,ak,an,q1,q2,q5,hf⟩:=key Z hK a6 T;obtain⟨l,hl⟩:=T;rcases hf with⟨I,_⟩|⟨j,e0,I,h2,h3⟩
  .
   obtain⟨i,hi,hz⟩:=Xu.1 hz;have c3:(zeroValue e).run P w=.ok z w:=by simp[zeroValue,typeInfo,hi,hz]
   exact⟨z,by simp[Instr.lookup,run_underlying ht,MapKept.run_getObj_map q1,hK.check w _ hl,I,c3,Result.andThen],by simp only[rep]⟩
  refine absurd ?_ c2;rw[<-q2,<-h3];exact Xk (X9 h2)
 cases h
theorem zx5(an:aV w β nx A hp)(G:∀x,rep w β nx (own β hp A) (ev x) (ρ x)){o:Oper}{c:Prop}{r:AV}(h:fop P hp ev o.op=some (c,r))(I:c):
 ∃z,(execOp ρ o).run P w=.ok (.value z) w/\rep w β nx (own β hp A) r z:=by
 unfold fop at h;unfold execOp
 split at h<;>rename_i heq<;>simp only[heq]
 . simp only[Xa,Xb]at h;obtain⟨rfl,rfl⟩:=h;exact⟨_,rfl,G _⟩
 . simp only[Xa,Xb]at h;obtain⟨rfl,rfl⟩:=h;exact⟨_,rfl,G _⟩
 . exact j3j h I (G _) (G _) (G _)
 . obtain⟨c',T,rfl⟩:=q4g h;obtain⟨z,W,Z⟩:=zf9 an T I.2 (q1j (G _) I.1);exact⟨z,by simp[W],Z⟩
 . obtain⟨c',T,rfl⟩:=q4g h;obtain⟨a6,h2,rfl⟩:=q4g T;obtain⟨z,W,Z⟩:=j3o an h2 I.2.2 (q1j (G _) I.1) (q1j (G _) I.2.1);exact⟨z,by simp[W],Z⟩
 .
  rename_i x
  split at h
  .
   rename_i hp'
   simp only[Xa,Xb]at h;obtain⟨rfl,rfl⟩:=h;have:=q1j (G x) I;refine⟨ρ x,?_,this⟩
   cases hx:(ev x).st<;>rw[hx]at this hp'<;>simp only[j6t,X7]at hp'<;>simp only[rep]at this
   . obtain⟨_,b,C,_,e⟩:=this;rw[e];rfl
   . obtain⟨_,b,C,_,e⟩:=this;rw[e];rfl
   . obtain⟨b,o,e,_⟩:=this;rw[e];rfl
   obtain⟨l,e,_⟩:=this;rw[e];rfl
  cases h
 . obtain⟨c',T,rfl⟩:=q4g h;obtain⟨a6,h2,rfl⟩:=q4g T;obtain⟨z,W,Z⟩:=j7d (P:=P) h2 I.2.2 (q1j (G _) I.1) (q1j (G _) I.2.1);exact⟨z,by simp only[Sem.run_bind,Sem.run_pure]at W⊢;rw[W];rfl,Z⟩
 . obtain⟨c',T,rfl⟩:=q4g h;obtain⟨z,W,Z⟩:=j7y (P:=P) T (q1j (G _) I.1);exact⟨z,by simp[W],Z⟩
 . obtain⟨c',T,rfl⟩:=q4g h;obtain⟨z,W,Z⟩:=j3w T I.2 (q1j (G _) I.1);exact⟨z,by simp[W],Z⟩
 .
  rename_i t x lo hi
  obtain⟨c',T,rfl⟩:=q4g h;simp only[Xd,Xb]at T;obtain⟨⟨a6,r'⟩,h2,rfl,rfl⟩:=T;obtain⟨hx,⟨ao,aq⟩,ar⟩:=I;obtain⟨z,W,Z⟩:=j0r (P:=P) (lo':=lo.map ρ) (hi':=hi.map ρ) h2 ar (q1j (G _) hx)
   (fun y hy=>by
    cases lo with
    |none=>cases hy
    |some l=>simp only[Y4,Xa,cz]at hy ao⊢;subst hy;exact⟨_,rfl,q1j (G l) ao⟩)
   (fun hn=>by cases lo<;>simp_all)
   (fun y hy=>by
    cases hi with
    |none=>cases hy
    |some l=>simp only[Y4,Xa,cz]at hy aq⊢;subst hy;exact⟨_,rfl,q1j (G l) aq⟩)
   (fun hn=>by cases hi<;>simp_all)
  exact⟨z,by simp[W],Z⟩
 . obtain⟨c',T,rfl⟩:=q4g h;obtain⟨z,W,Z⟩:=j3u T I.2 (q1j (G _) I.1);exact⟨z,by simp[W],Z⟩
 . obtain⟨c',T,rfl⟩:=q4g h;obtain⟨z,W,Z⟩:=j27 T I.2 (q1j (G _) I.1);exact⟨z,by simp[W],Z⟩
 . obtain⟨c',T,rfl⟩:=q4g h;obtain⟨a6,h2,rfl⟩:=q4g T;obtain⟨z,W,Z⟩:=j3s h2 I.2.2 (q1j (G _) I.1) (q1j (G _) I.2.1);exact⟨z,by simp[W],Z⟩
 . obtain⟨c',T,rfl⟩:=q4g h;obtain⟨a6,h2,rfl⟩:=q4g T;obtain⟨z,W,Z⟩:=j1z h2 I.2.2 (q1j (G _) I.1) (q1j (G _) I.2.1);exact⟨z,by simp[W],Z⟩
 . obtain⟨c',T,rfl⟩:=q4g h;obtain⟨z,W,Z⟩:=zt7 (P:=P) T I.2 (q1j (G _) I.1);exact⟨z,by simp[W],Z⟩
 .
  rename_i f first aj
  split at h
  .
   rename_i hf
   simp only[Xa,Xb]at h;obtain⟨rfl,rfl⟩:=h;have b1:first=#[]:=by
    apply Xs;simpa using hf
   subst b1;refine⟨.func (.func f) #[] ⟨aj.toList.map ρ⟩,?_,?_⟩
   . have e:aj.map ρ=⟨aj.toList.map ρ⟩:=Xs (by simp);simp[Instr.makeFunc,e]
   simp only[rep];exact⟨_,rfl,z8u G _ I⟩
  cases h
 .
  rename_i cl
  split at h
  .
   rename_i x t e1 e2 e3
   obtain⟨c',T,rfl⟩:=q4g h;obtain⟨z,W,Z⟩:=j6o (ty:=o.type) T I.2 (q1j (G _) I.1);have ak:cl.args=#[x]:=Xs e2;have b2:cl.argTypes=#[t]:=Xs e3;refine⟨z,?_,Z⟩;simp[resolve,e1,ak,b2,invoke,builtin,W]
  .
   rename_i _ x y e1 e2
   obtain⟨c',T,rfl⟩:=q4g h;obtain⟨a6,h2,rfl⟩:=q4g T;obtain⟨z,W,Z⟩:=j6g (P:=P) (ts:=cl.argTypes) (t:=o.type) h2 (q1j (G _) I.1) (q1j (G _) I.2.1);have ak:cl.args=#[x,y]:=Xs e2;refine⟨z,?_,Z⟩;simp[resolve,e1,ak,invoke,builtin,W]
  .
   rename_i _ x y e1 e2
   obtain⟨c',T,rfl⟩:=q4g h;obtain⟨a6,h2,rfl⟩:=q4g T;obtain⟨z,W,Z⟩:=j6i (P:=P) (ts:=cl.argTypes) (t:=o.type) h2 (q1j (G _) I.1) (q1j (G _) I.2.1);have ak:cl.args=#[x,y]:=Xs e2;refine⟨z,?_,Z⟩;simp[resolve,e1,ak,invoke,builtin,W]
  cases h
 cases h
end
end
section
open Go Go.RowKit
def St.put(s:St)(d:Option Nat)(x:AV):St:=match d with
 |some d=>{s with env:=(d,x)::s.env}
 |none=>s
def dok(n:Nat):Option Nat->Bool|none=>true|some d=>decide (d<n)
section
variable {P:Program} {C:Ctx P} {s:St} {a:Act} {w:World} {β:aI}
theorem z5e(t:Array Value)(d i:Nat)(u v:Value)(hd:d<t.size):(t.setIfInBounds d u).getD i v=if d=i then u else t.getD i v:=by
 simp only[Array.getD_eq_getD_getElem?,Array.getElem?_setIfInBounds,hd,if_true]
 split
 . rfl
 rfl
theorem Rel.put(h:Rel C s a w β){d:Option Nat}{x:AV}{u:Value}(I:rep w β s.nx (own β s.hp C.A) x u)(hd:dok s.nt d=true):Rel C (s.put d x) (a.put d u) w β:=by
 cases d with
 |none=>exact h
 |some d=>
  simp only[dok,decide_eq_true_eq]at hd;have G:d<a.tmps.size:=by rw[h.nt];exact hd
  exact {df:=h.df,nt:=by simp only[Act.put,St.put,Array.size_setIfInBounds];exact h.nt,hp:=h.hp,ext:=h.ext,alt:=h.alt,gs:=h.gs,nb:=h.nb,ntc:=h.ntc,
         env:=by
          intro t;simp only[St.put,Act.put,q0x,z5e _ _ _ _ _ G]
          split
          . exact I
          exact h.env t}
theorem Rel.ev(h:Rel C s a w β)(x:Operand):rep w β s.nx (own β s.hp C.A) (x8 s.env x) (a.eval x):=by
 cases x with
 |tmp t=>exact h.env t
 |const v=>simp only[x8,rep,Act.eval]
 |global g=>simp only[x8,rep,Act.eval]
 |func f=>simp only[x8,rep,Act.eval];exact⟨[],rfl,by simp[y9]⟩
def upd(β:aI)(n:Nat)(x:Option (Nat×Nat)):aI:=⟨fun i=>if i=n then x else β i,fun i=>if i=n then []else β.inn i⟩
theorem qg6(β:aI)(n:Nat)(x:Option (Nat×Nat)):(upd β n x).inn n=[]:=by simp[upd]
theorem q6c(β:aI)(n:Nat)(x:Option (Nat×Nat))(i:Nat)(h:i<n):(upd β n x).inn i=β.inn i:=by simp[upd];omega
theorem z4d{β:aI}{n:Nat}{x:Option (Nat×Nat)}{i b:Nat}(h:i<n):bof (upd β n x) i b↔bof β i b:=by unfold bof;rw[show (upd β n x).f i=β.f i by simp[upd];omega,q6c _ _ _ _ h]
theorem z4p{β:aI}{n:Nat}{x:Option (Nat×Nat)}{b:Nat}(h:bof (upd β n x) n b):∃c,x=some (b,c):=by
 rcases h with⟨C,G⟩|h
 . exact⟨C,by simpa [upd]using G⟩
 rw[qg6]at h;cases h
theorem q1i(β:aI)(n:Nat)(x:Option (Nat×Nat)):upd β n x n=x:=by simp[upd]
theorem q35(β:aI)(n:Nat)(x:Option (Nat×Nat))(i:Nat)(h:i<n):upd β n x i=β i:=by simp[upd];omega
theorem Rel.step(h:Rel C s a w β){w':World}{β':aI}{hp':Hp}{nx':Nat}(hn:s.nx<=nx')(hb:∀id,id<s.nx->β' id=β id)(Z:w.heap.size<=w'.heap.size)
 (hK:∀b,b<w.heap.size->¬bu β s.hp b->w'.heap[b]?=w.heap[b]?)(hO:∀b,b<w.heap.size->bu β' hp' b->bu β s.hp b)
 (ak:aV w' β' nx' C.A hp')(a6:∀p∈hp',p.1∈s.hp.map (·.1)\/s.nx<=p.1)(ho:w'.os=w.os)(ht:w'.tape=w.tape)(W:w'.output=w.output/\(dkF=true->w.drawn<=w'.drawn))(an:∀id,id<s.nx->id∉s.hp.map (·.1)->β'.inn id=β.inn id:=by first|exact fun _ _ _=>rfl|exact fun id hid _=>q6c _ _ _ _ hid):
 Rel C {s with hp:=hp',nx:=nx'} a w' β':=by
 have hA:aW w w' (own β s.hp C.A) (own β' hp' C.A):=⟨Z,fun b I G=>⟨hK b G (fun hx=>I (.inr hx)),fun ao=>by
  rcases ao with T|T
  . exact I (.inl T)
  exact I (.inr (hO b G T))⟩⟩
 exact {df:=h.df,nt:=h.nt,hp:=ak,alt:=fun b hb=>Xf (h.alt b hb) Z,gs:=h.gs,nb:=h.nb,ntc:=h.ntc,
        env:=fun t=>q5w hA s.nx nx' hn hb _ _ (h.env t),
        ext:={nx:=Yd h.ext.nx hn,
              gh:=fun id hid=>(hb id (Xf hid h.ext.nx)).trans (h.ext.gh id hid),
              gi:=fun id hid aj=>(an id (Xf hid h.ext.nx) fun hm=>by
               obtain⟨p,hp,rfl⟩:=X6.1 hm;rcases h.ext.ids p hp with T|T
               . exact aj T
               omega).trans (h.ext.gi id hid aj)
              ids:=fun p hp=>by
               rcases a6 p hp with T|T
               . obtain⟨q,hq,he⟩:=X6.1 T
                 rw[<-he];exact h.ext.ids q hq
               exact .inr (Yd h.ext.nx T),
              blk:=fun p hp b aq=>by
               rcases Yj b w.heap.size with G|ar
               . obtain⟨q,hq,b1⟩:=hO b G ⟨p,hp,aq⟩
                 exact h.ext.blk q hq b b1
               exact .inr (Yd h.ext.size ar),
              os:=ho.trans h.ext.os,tape:=ht.trans h.ext.tape,output:=⟨W.1.trans h.ext.output.1,fun k=>Yd (h.ext.output.2 k) (W.2 k)⟩,size:=Yd h.ext.size Z,
              keep:=fun b G I=>by
               refine (hK b (Xf G h.ext.size) ?_).trans (h.ext.keep b G I);rintro⟨q,hq,hc⟩;rcases h.ext.blk q hq b hc with T|T
               . exact I T
               omega}}
theorem aV.cons{nx:Nat}{A:Nat->Prop}{hp:Hp}{w':World}(h:aV w β nx A hp){b c:Nat}{o:bj}
 (hA:aW w w' (own β hp A) (own (upd β nx (some (b,c))) ((nx,o)::hp) A))
 (hk:∀T,bu β hp T->w'.heap[T]?=w.heap[T]?)
 (Z:¬bu β hp b)(a6:¬A b)
 (ho:q6f w' (upd β nx (some (b,c))) (nx+1) (own (upd β nx (some (b,c))) ((nx,o)::hp) A) nx o):
 aV w' (upd β nx (some (b,c))) (nx+1) A ((nx,o)::hp):=by
 have aj:∀p∈hp,p.1≠nx:=fun p hp'=>Nat.ne_of_lt (h.lt p hp');refine⟨?_,?_,?_,?_,?_,?_,?_⟩
 .
  intro p hp';rcases Xc.1 hp' with rfl|hp'
  . exact ho
  exact q47 hA (X3 _) (fun id hid=>q35 _ _ _ _ hid) (h.lt p hp') (fun T ak=>hk T ⟨p,hp',ak⟩) (fun _=>q6c _ _ _ _ (h.lt p hp')) (h.obj p hp')
 .
  intro p hp';rcases Xc.1 hp' with rfl|hp'
  . exact Xp _
  exact Yz (h.lt p hp')
 . simp only[Xi,Yk];refine⟨?_,h.nd⟩;intro hm;obtain⟨q,hq,he⟩:=X6.1 hm;exact aj q hq he
 .
  intro p hp1 q G T c1 c2 I h2;rcases Xc.1 hp1 with rfl|hp1<;>rcases Xc.1 G with rfl|G
  . rfl
  . rw[q1i]at I;rw[q35 _ _ _ _ (h.lt q G)]at h2;simp only[Xa,Xb]at I;exact absurd (q9f G (by rw[I.1];exact h2)) Z
  . rw[q1i]at h2;rw[q35 _ _ _ _ (h.lt p hp1)]at I;simp only[Xa,Xb]at h2;exact absurd (q9f hp1 (by rw[h2.1];exact I)) Z
  rw[q35 _ _ _ _ (h.lt p hp1)]at I;rw[q35 _ _ _ _ (h.lt q G)]at h2;exact h.inj p hp1 q G T c1 c2 I h2
 .
  intro p hp1 T c1 I;rcases Xc.1 hp1 with rfl|hp1
  . rw[q1i]at I;simp only[Xa,Xb]at I;rw[<-I.1];exact a6
  rw[q35 _ _ _ _ (h.lt p hp1)]at I;exact h.av p hp1 T c1 I
 .
  intro p hp1 hc;rcases Xc.1 hp1 with rfl|hp1
  . exact qg6 _ _ _
  rw[q6c _ _ _ _ (h.lt p hp1)];exact h.i0 p hp1 hc
 intro p hp1 T hb;rcases Xc.1 hp1 with rfl|hp1
 . rw[qg6]at hb;cases hb
 rw[q6c _ _ _ _ (h.lt p hp1)]at hb;obtain⟨i1,i2,i3,i4⟩:=h.ib p hp1 T hb;refine⟨Xf i1 hA.1,i2,fun q G C hc=>?_,fun q G W=>?_⟩
 .
  rcases Xc.1 G with rfl|G
  . rw[q1i]at hc;simp only[Xa,Xb]at hc;exact Z ⟨p,hp1,.inr (by rw[hc.1];exact hb)⟩
  rw[q35 _ _ _ _ (h.lt q G)]at hc;exact i3 q G C hc
 rcases Xc.1 G with rfl|G
 . rw[qg6]at W;cases W
 rw[q6c _ _ _ _ (h.lt q G)]at W;exact i4 q G W
theorem Rel.alloc(h:Rel C s a w β){cs:List Value}{e:TypeId}{o:bj}{c:Nat}
 (ho:∀(w':World) (ow':Nat->Prop),aW w w' (own β s.hp C.A) ow'->w'.heap[w.heap.size]?=some (.cells ⟨cs⟩ e (0,0))->q6f w' (upd β s.nx (some (w.heap.size,c))) (s.nx+1) ow' s.nx o):
 Rel C {s with hp:=(s.nx,o)::s.hp,nx:=s.nx+1} a (w.alloc (.cells ⟨cs⟩ e)) (upd β s.nx (some (w.heap.size,c))):=by
 have G:∀b,b<w.heap.size->(w.alloc (.cells ⟨cs⟩ e)).heap[b]?=w.heap[b]?:=fun b hb=>Below.heap_alloc w _ b hb;have W:w.heap.size<=(w.alloc (.cells ⟨cs⟩ e)).heap.size:=by simp
 have Z:∀b,bu β s.hp b->b<w.heap.size:=fun b ⟨q,I,T⟩=>h.hp.bB q I b T;have hO:∀b,b<w.heap.size->bu (upd β s.nx (some (w.heap.size,c))) ((s.nx,o)::s.hp) b->bu β s.hp b:=by
  rintro b hb ⟨q,I,T⟩;rcases Xc.1 I with rfl|I
  . obtain⟨c',T⟩:=z4p T;simp only[Xa,Xb]at T;omega
  exact⟨q,I,(z4d (h.hp.lt q I)).1 T⟩
 have hA:aW w (w.alloc (.cells ⟨cs⟩ e)) (own β s.hp C.A) (own (upd β s.nx (some (w.heap.size,c))) ((s.nx,o)::s.hp) C.A):=
  ⟨W,fun b a6 hb=>⟨G b hb,fun aj=>by
   rcases aj with h1|h1
   . exact a6 (.inl h1)
   exact a6 (.inr (hO b hb h1))⟩⟩
 refine h.step (X3 _) (fun id hid=>q35 _ _ _ _ hid) W (fun b hb _=>G b hb) hO ?_ ?_ rfl rfl ⟨rfl,fun _=>Xe _⟩
 . refine h.hp.cons hA (fun b hb=>G b (Z b hb)) (fun hx=>Nat.lt_irrefl _ (Z _ hx)) (fun hx=>?_) (ho _ _ hA (heap_alloc_new w _));have:=h.alt _ hx;have:=h.ext.size;omega
 intro p hp;rcases Xc.1 hp with rfl|hp
 . exact .inr (Xe _)
 exact .inl (Xk hp)
end
end
section
open Go Go.RowKit
def qg3:AV->Bool
 |.v x=>x.oneCell'
 |.ptr .. |.apt .. |.sl .. |.osl .. |.el .. |.clo .. |.mp .. =>true
 |_=>false
def qf9:AV->Bool
 |.v _|.sl .. |.el .. =>true
 |_=>false
section
variable {P:Program} {C:Ctx P} {s:St} {a:Act} {w:World} {β:aI} {nx:Nat} {ow:Nat->Prop}
theorem j66{x:AV}{u:Value}(h:qg3 x=true)(G:rep w β nx ow x u):u.oneCell'=true:=by
 cases x<;>simp only[qg3,X7]at h<;>simp only[rep]at G
 . rw[G];exact h
 . obtain⟨_,b,c,_,rfl⟩:=G;rfl
 . obtain⟨_,b,c,_,rfl⟩:=G;rfl
 . rcases G with⟨_,a,c,rfl⟩|⟨b,o,cap,rfl,_⟩<;>rfl
 . rcases G.2 with⟨_,_,_,rfl⟩|⟨b,c,cap,ad,_,rfl,_⟩<;>rfl
 . obtain⟨b,o,rfl,_⟩:=G;rfl
 . obtain⟨l,rfl,I⟩:=G;rfl
 obtain⟨_,b,c,_,rfl⟩:=G;rfl
theorem q9i:∀{xs:List AV} {us:List Value},xs.all qg3=true->y9 w β nx ow xs us->∀u∈us,u.oneCell'=true
 |[],[],_,_,u,G=>by simp at G
 |x::xs,v::us,h,I,u,G=>by
  simp only[Yg,X4]at h;simp only[y9]at I;rcases Xc.1 G with rfl|G
  . exact j66 h.1 I.1
  exact q9i h.2 I.2 u G
 |[],_::_,_,h,_,_=>by simp only[y9]at h
 |_::_,[],_,h,_,_=>by simp only[y9]at h
theorem z7b{x:AV}{u:Value}(h:qf9 x=true)(G:rep w β nx ow x u):rep w β 0 ow x u:=by
 cases x<;>simp only[qf9,X7]at h<;>simpa only[rep]using G
theorem qi8:∀{xs:List AV} {us:List Value},xs.all qf9=true->y9 w β nx ow xs us->y9 w β 0 ow xs us
 |[],[],_,_=>by simp only[y9]
 |x::xs,v::us,h,G=>by
  simp only[Yg,X4]at h;simp only[y9]at G⊢;exact⟨z7b h.1 G.1,qi8 h.2 G.2⟩
 |[],_::_,_,h=>by simp only[y9]at h
 |_::_,[],_,h=>by simp only[y9]at h
theorem qv7{b:Nat}:∀{as:List AV} {us:List Value} {o:Nat},y9 w β 0 ow as us->(∀u∈us,u.oneCell'=true)->(∀(j:Nat) (u:Value),us[j]?=some u->w.cell? ⟨b,o+j,none⟩=some u)->q4c w β ow b as o
 |[],[],_,_,_,_=>by simp only[q4c]
 |x::xs,u::us,o,h,G,I=>by
  simp only[y9]at h;simp only[q4c];refine⟨⟨u,by simpa using I 0 u rfl,G u Xv,h.1⟩,qv7 h.2 (fun y T=>G y (Xj _ T)) fun j v W=>?_⟩;rw[show o+1+j=o+(j+1) by omega];exact I (j+1) v (by simpa using W)
 |[],_::_,_,h,_,_=>by simp only[y9]at h
 |_::_,[],_,h,_,_=>by simp only[y9]at h
end
end
section
open Go Go.RowKit
def z8h(cs:List AV)(off len:Nat):List (List AV):=((cs.drop off).take len).map fun c=>[c]
def zm8(G:List (List AV)):Bool:=G.all fun r=>r.all fun c=>qg3 c&&qf9 c
theorem zm7:∀{as:List AV},zm8 (as.map fun c=>[c])=true->as.all qg3=true/\as.all qf9=true
 |[],_=>⟨rfl,rfl⟩
 |a::as,h=>by
  simp only[zm8,Xi,Yg,List.all_nil,Bool.and_true,X4]at h;have:=zm7 (as:=as) (by simpa only[zm8]using h.2);simp only[Yg,X4];exact⟨⟨h.1.1,this.1⟩,h.1.2,this.2⟩
theorem za3{w:World}{β:aI}{ow:Nat->Prop}{b:Nat}:∀{as:List AV} {us:List Value} {o:Nat},y9 w β 0 ow as us->(∀u∈us,u.oneCell'=true)->(∀(j:Nat) (u:Value),us[j]?=some u->w.cell? ⟨b,o+j,none⟩=some u)->q0p w β ow 1 b (as.map fun c=>[c]) o
 |[],[],_,_,_,_=>by simp only[List.map_nil,q0p]
 |x::xs,u::us,o,h,G,I=>by
  simp only[y9]at h;simp only[Xi,q0p,q4c];refine⟨rfl,⟨⟨u,by simpa using I 0 u rfl,G u Xv,h.1⟩,trivial⟩,za3 h.2 (fun y T=>G y (Xj _ T)) fun j v W=>?_⟩;rw[show o+1+j=o+(j+1) by omega];exact I (j+1) v (by simpa using W)
 |[],_::_,_,h,_,_=>by simp only[y9]at h
 |_::_,[],_,h,_,_=>by simp only[y9]at h
def be(rn:Nat->Option Nat)(hp:Hp)(gone:Nat->Prop)(nx:Nat):AV->AV->Prop
 |_,.bk=>True
 |.v x,.v y=>x=y
 |.v x,.sl _ ys=>x=.slice none 0 0/\ys=[]
 |.v x,.osl id _ off len=>x=.slice none 0 0/\off=0/\len=0/\rn id=none/\id<nx
 |.ptr j off,.ptr id G=>rn id=some j/\off=G/\id<nx
 |.apt j sz i off,.apt id I W G=>rn id=some j/\sz=I/\i=W/\off=G/\id<nx
 |.osl j sz off len,.osl id I G T=>rn id=some j/\sz=I/\off=G/\len=T/\id<nx
 |.bsl j off len,.bsl id G T=>rn id=some j/\off=G/\len=T/\id<nx
 |.osl j sz off len,.sl I ys=>sz=I/\gone j/\∃xs,q0i hp j=some (.arr sz xs)/\off+len<=xs.length/\ys=(xs.drop off).take len
 |.sl sz xs,.sl I ys=>xs=ys/\(sz=I\/xs=[])
 |.bsl j off len,.sl sz ys=>sz=1/\gone j/\∃cs,q0i hp j=some (.box cs)/\off+len<=cs.length/\zm8 (z8h cs off len)=true/\ys=z8h cs off len
 |.el sz xs i off,.el I ys W G=>sz=I/\xs=ys/\i=W/\off=G
 |.ptr j off,.el sz ys i G=>i=0/\off=G/\gone j/\∃cs,q0i hp j=some (.box cs)/\cs.all qg3=true/\cs.all qf9=true/\sz=cs.length/\ys=[cs]
 |.agg xs,.agg ys=>xs.length=ys.length/\AvLeL rn hp gone nx xs ys
 |.tup xs,.tup ys=>xs.length=ys.length/\AvLeL rn hp gone nx xs ys
 |.clo f xs,.clo g ys=>f=g/\xs.length=ys.length/\AvLeL rn hp gone nx xs ys
 |.mp j,.mp id=>rn id=some j/\id<nx
 |.erb g,.erb Z=>g=Z
 |.v x,.erb g=>x=.nilIface/\g=true
 |.grd g a,.grd Z b=>g=Z/\be rn hp gone nx a b
 |.grd g a,b=>g=true/\be rn hp gone nx a b
 |_,_=>False
  where
 AvLeL (rn:Nat->Option Nat) (hp:Hp) (gone:Nat->Prop) (nx:Nat):List AV->List AV->Prop
 |a::as,b::bs=>be rn hp gone nx a b/\AvLeL rn hp gone nx as bs
 |[],[]=>True
 |_,_=>False
section
variable {w:World} {β β':aI} {nx nx':Nat} {A:Nat->Prop} {hp:Hp} {ow':Nat->Prop} {rn:Nat->Option Nat} {gone:Nat->Prop}
mutual
theorem q38(W:aW w w (own β hp A) ow')(I:aV w β nx A hp)(hb:∀id,id<nx'->β' id=(rn id).bind β)
 (hg:∀j,gone j->∀o,(j,o)∈hp->∀b C,β j=some (b,C)->¬ow' b):
 ∀(a a':AV) (u:Value),be rn hp gone nx' a a'->rep w β nx (own β hp A) a u->rep w β' nx' ow' a' u:=by
 intro a a' u h G
 cases a' with
 |bk=>simp only[rep]
 |erb y=>cases a<;>simp only[be]at h<;>first
  |(simp only[rep]at G⊢;rw[<-h];exact G)
  |(simp only[rep]at G⊢;rw[G,h.1,h.2];simp)
  |(simp only[rep]at G;exact q38 W I hb hg _ _ u h.2 (G.1 h.1))
 |v y=>cases a<;>simp only[be]at h<;>first
  |(simp only[rep]at G⊢;rw[G];exact h)
  |(simp only[rep]at G;exact q38 W I hb hg _ _ u h.2 (G.1 h.1))
 |ptr id off=>cases a<;>simp only[be]at h<;>first
  |(simp only[rep]at G⊢
    obtain⟨h1,h2,Z⟩:=h;obtain⟨_,b,C,h4,T⟩:=G;exact⟨Z,b,C,by rw[hb id Z,h1];exact h4,by rw[T,h2]⟩)
  |(simp only[rep]at G;exact q38 W I hb hg _ _ u h.2 (G.1 h.1))
 |mp id=>cases a<;>simp only[be]at h<;>first
  |(simp only[rep]at G⊢
    obtain⟨h1,Z⟩:=h;obtain⟨_,b,C,h4,T⟩:=G;exact⟨Z,b,C,by rw[hb id Z,h1];exact h4,T⟩)
  |(simp only[rep]at G;exact q38 W I hb hg _ _ u h.2 (G.1 h.1))
 |apt id sz i off=>cases a<;>simp only[be]at h<;>first
  |(simp only[rep]at G⊢
    obtain⟨h1,h2,Z,h4,T⟩:=h;obtain⟨_,b,C,h6,h7⟩:=G;exact⟨T,b,C,by rw[hb id T,h1];exact h6,by rw[h7,h2,Z,h4]⟩)
  |(simp only[rep]at G;exact q38 W I hb hg _ _ u h.2 (G.1 h.1))
 |sl sz ys=>cases a<;>simp only[be]at h<;>first
  |(rename_i x
    simp only[rep]at G⊢;obtain⟨rfl,rfl⟩:=h;exact .inl ⟨rfl,none,0,G⟩)
  |(rename_i aq xs
    obtain⟨rfl,h2⟩:=h;simp only[rep]at G⊢;rcases G with G|⟨b,o,cap,Z,h4,T,h6,h7⟩
    . exact .inl G
    rcases h2 with rfl|rfl
    . exact .inr ⟨b,o,cap,Z,h4,(W.2 b T h6).2,h6,q26 W _ _ (fun _ _ hu=>hu) _ _ h7⟩
    exact .inl ⟨rfl,_,_,Z⟩)
  |(rename_i j aq off len
    obtain⟨rfl,h2,xs,Z,h4,rfl⟩:=h;simp only[rep]at G⊢;obtain⟨b2,G⟩:=G;have ho:=I.obj _ (q0k Z);rcases G with⟨T,rfl,rfl,rfl⟩|⟨b,C,cap,ad,T,rfl,h6,h7,h8⟩
    . exact .inl ⟨by simp,none,0,rfl⟩
    rcases ho with⟨h9,_⟩|⟨b',C',cur,e,h9,a6,ak,ar,an,ao⟩
    . simp only at h9;rw[T]at h9;cases h9
    simp only at h9
    rw[T]at h9;simp only[Xa,Xb]at h9;obtain⟨rfl,rfl⟩:=h9;have hl:((xs.drop off).take len).length=len:=by simp;omega
    rcases h8 with rfl|h8
    . refine .inr ⟨b,off*aq,cap,by rw[hl],by rw[hl];exact h6,hg j h2 _ (q0k Z) b C T,(Array.getElem?_eq_some_iff.1 a6).1,?_⟩
      have:=qk9 (qs1 ao off) len;rw[Nat.zero_add]at this;exact q26 W _ _ (fun _ _ hu=>hu) _ _ this
    have:len=0:=by omega
    subst this;exact .inl ⟨by simp,_,_,rfl⟩)
  |(rename_i j off len
    obtain⟨rfl,h2,cs,Z,h4,T,rfl⟩:=h;obtain⟨T,h6⟩:=zm7 T;simp only[rep]at G⊢;obtain⟨_,b,C,cap,ad,h7,rfl,h8,h9⟩:=G;obtain⟨b',C',cur,e,a6,ak,ar⟩:=I.obj _ (q0k Z);simp only at a6;rw[h7]at a6;simp only[Xa,Xb]at a6;obtain⟨rfl,rfl⟩:=a6;have hl:(z8h cs off len).length=len:=by simp[z8h];omega
    rcases h9 with rfl|rfl
    . refine .inr ⟨b,off,cap,by rw[hl],by rw[hl];exact h8,hg j h2 _ (q0k Z) b C h7,(Array.getElem?_eq_some_iff.1 ak).1,?_⟩
      have an:=q7o (q9v ar off) len;have ao:=q1r (w':=w) (β':=β') (ow':=ow') W 0 0 (Nat.le_refl _) (fun _ hi=>absurd hi (Nat.not_lt_zero _)) _ _ (qi8 h6 an);refine za3 ao (q9i T an) (fun k u hj=>?_);rw[cell_of_row w b (off+k) cur e (0,0) ak];rw[List.getElem?_take]at hj
      split at hj
      . simpa using hj
      cases hj
    exact .inl ⟨by simp[z8h],_,_,rfl⟩)
  |(simp only[rep]at G;exact q38 W I hb hg _ _ u h.2 (G.1 h.1))
 |osl id sz off len=>cases a<;>simp only[be]at h<;>first
  |(rename_i x
    obtain⟨h1,h2,Z,h4,T⟩:=h;simp only[rep]at G⊢;refine⟨T,.inl ⟨?_,h2,Z,G.trans h1⟩⟩;rw[hb id T,h4];rfl)
  |(obtain⟨h1,rfl,rfl,rfl,T⟩:=h
    simp only[rep]at G⊢;rw[hb id T,h1];exact⟨T,G.2⟩)
  |(simp only[rep]at G;exact q38 W I hb hg _ _ u h.2 (G.1 h.1))
 |bsl id off len=>cases a<;>simp only[be]at h<;>first
  |(obtain⟨h1,rfl,rfl,T⟩:=h
    simp only[rep]at G⊢;rw[hb id T,h1];exact⟨T,G.2⟩)
  |(simp only[rep]at G;exact q38 W I hb hg _ _ u h.2 (G.1 h.1))
 |el sz ys i off=>cases a<;>simp only[be]at h<;>first
  |(obtain⟨rfl,rfl,h2,cs,Z,h4,T,rfl,rfl⟩:=h
    simp only[rep]at G⊢;obtain⟨_,b,C,h6,rfl⟩:=G;obtain⟨b',C',cur,e,h7,h8,h9⟩:=I.obj _ (q0k Z);simp only at h7;rw[h6]at h7;simp only[Xa,Xb]at h7;obtain⟨rfl,rfl⟩:=h7;refine⟨b,0,by simp,hg _ h2 _ (q0k Z) b C h6,(Xl.1 h8).1,?_⟩;simp only[q0p];refine⟨trivial,?_,trivial⟩;have a6:=q1r (w':=w) (β':=β') (ow':=ow') W 0 0 (Xe _) (fun _ hi=>absurd hi (Yi _)) _ _ (qi8 T h9);refine qv7 a6 (q9i h4 h9) (fun j u hj=>?_);rw[Xq,cell_of_row w b j cur e (0,0) h8]
    simpa using hj)
  |(obtain⟨rfl,rfl,rfl,rfl⟩:=h
    simp only[rep]at G⊢;obtain⟨b,o,h1,h2,Z,h4⟩:=G;exact⟨b,o,h1,(W.2 b h2 Z).2,Z,q26 W _ _ (fun _ _ hu=>hu) _ _ h4⟩)
  |(simp only[rep]at G;exact q38 W I hb hg _ _ u h.2 (G.1 h.1))
 |agg ys=>cases a<;>simp only[be]at h<;>first
  |(simp only[rep]at G⊢
    obtain⟨l,h1,h2⟩:=G;exact⟨l,h1,qk0 W I hb hg _ _ l h.2 h2⟩)
  |(simp only[rep]at G;exact q38 W I hb hg _ _ u h.2 (G.1 h.1))
 |tup ys=>cases a<;>simp only[be]at h<;>first
  |(simp only[rep]at G⊢
    obtain⟨l,h1,h2⟩:=G;exact⟨l,h1,qk0 W I hb hg _ _ l h.2 h2⟩)
  |(simp only[rep]at G;exact q38 W I hb hg _ _ u h.2 (G.1 h.1))
 |clo f ys=>cases a<;>simp only[be]at h<;>first
  |(obtain⟨rfl,_,h⟩:=h
    simp only[rep]at G⊢;obtain⟨l,h1,h2⟩:=G;exact⟨l,h1,qk0 W I hb hg _ _ l h h2⟩)
  |(simp only[rep]at G;exact q38 W I hb hg _ _ u h.2 (G.1 h.1))
 |grd g b=>cases a<;>simp only[be]at h<;>first
  |(obtain⟨rfl,h⟩:=h
    simp only[rep]at G⊢;exact⟨fun b1=>q38 W I hb hg _ _ u h (G.1 b1),G.2⟩)
 termination_by structural a=>a
theorem qk0(W:aW w w (own β hp A) ow')(I:aV w β nx A hp)(hb:∀id,id<nx'->β' id=(rn id).bind β)
 (hg:∀j,gone j->∀o,(j,o)∈hp->∀b C,β j=some (b,C)->¬ow' b):
 ∀(as aj:List AV) (us:List Value),be.AvLeL rn hp gone nx' as aj->y9 w β nx (own β hp A) as us->y9 w β' nx' ow' aj us:=by
 intro as aj us h G
 cases as with
 |nil=>cases aj with
  |nil=>cases us<;>simp only[y9]at G⊢
  |cons b bs=>simp only[be.AvLeL]at h
 |cons a as=>cases aj with
  |nil=>simp only[be.AvLeL]at h
  |cons b bs=>
   simp only[be.AvLeL]at h
   cases us with
   |nil=>simp only[y9]at G
   |cons u us=>
    simp only[y9]at G⊢;exact⟨q38 W I hb hg a b u h.1 G.1,qk0 W I hb hg as bs us h.2 G.2⟩
 termination_by structural as=>as
end
end
end
section
open Go Go.RowKit
def q82(nb:Nat)(l:List (Option Nat))(id:Nat):Option Nat:=if id<nb then some id else l.getD (id-nb) none
def TL(xs ys:List (List AV)):Prop:=xs=ys\/∃k,ys=xs.take k
theorem ju1(xs:List (List AV)):TL xs xs=True:=by simp[TL]
theorem q04{xs ys:List (List AV)}(h:xs=ys):TL xs ys:=.inl h
theorem ju0(xs:List (List AV))(k:Nat):TL xs (xs.take k):=.inr ⟨k,rfl⟩
def jm6(rn:Nat->Option Nat)(hp:Hp)(gone:Nat->Prop)(nx:Nat):bj->bj->Prop
 |.box as,.box G=>be.AvLeL rn hp gone nx as G
 |.arr sz xs,.arr I ys=>sz=I/\TL xs ys
 |.con K as,.con K' G=>(K=K'/\be.AvLeL rn hp gone nx as G)\/∃T E r,K=z7n T/\K'=j7c T E []/\as=.v (.pointer none):: .v (.slice none 0 0)::r/\be.AvLeL rn hp gone nx r G
 |_,_=>False
def jy2:bj->Prop
 |.arr _ xs=>xs=[]
 |.con K G=>K.N/\G=[]
 |_=>False
def zd1(rn:Nat->Option Nat)(hp:Hp)(gone:Nat->Prop)(nx:Nat)(id:Nat)(o':bj):Prop:=
 match rn id with
 |some j=>∃o,q0i hp j=some o/\jm6 rn hp gone nx o o'
 |none=>jy2 o'
def j7j(rn:Nat->Option Nat)(hp:Hp)(gone:Nat->Prop)(nx:Nat):Hp->Prop
 |[]=>True
 |(id,o')::r=>id<nx/\zd1 rn hp gone nx id o'/\j7j rn hp gone nx r
def j0c(rn:Nat->Option Nat)(hp:Hp)(gone:Nat->Prop)(nx:Nat)(env:List (Nat×AV)):List (Nat×AV)->Prop
 |[]=>True
 |(k,a)::r=>be rn hp gone nx (q0x env k) a/\j0c rn hp gone nx env r
def qh5(rn:Nat->Option Nat)(j:Nat):Hp->Prop
 |[]=>True
 |(id,_)::r=>rn id≠some j/\qh5 rn j r
def j0b(rn:Nat->Option Nat):Hp->Prop
 |[]=>True
 |(id,_)::r=>(∀p∈r,p.1≠id)/\(∀j,rn id=some j->qh5 rn j r)/\j0b rn r
def Le(s s':St)(l:List (Option Nat)):Prop:=
 s'.nt=s.nt/\s'.nb=s.nb/\s.nb<=s'.nx/\j0c (q82 s.nb l) s.hp (fun j=>qh5 (q82 s.nb l) j s'.hp) s'.nx s.env s'.env/\
 j7j (q82 s.nb l) s.hp (fun j=>qh5 (q82 s.nb l) j s'.hp) s'.nx s'.hp/\j0b (q82 s.nb l) s'.hp
theorem z3q{rn:Nat->Option Nat}{j:Nat}:∀{hp:Hp},qh5 rn j hp->∀p∈hp,rn p.1≠some j
 |(id,o)::r,h,p,hp=>by
  rcases Xc.1 hp with rfl|hp
  . exact h.1
  exact z3q h.2 p hp
theorem zq5{rn:Nat->Option Nat}:∀{hp:Hp},j0b rn hp->(hp.map (·.1)).Nodup/\∀p∈hp,∀q∈hp,∀j,rn p.1=some j->rn q.1=some j->p.1=q.1
 |[],_=>by simp
 |(id,o)::r,h=>by
  obtain⟨Z,W,h3⟩:=h;obtain⟨i1,i2⟩:=zq5 h3;refine⟨by simp only[Xi,Yk];exact⟨fun hm=>by obtain⟨q,T,he⟩:=X6.1 hm;exact Z q T he,i1⟩,?_⟩;intro p hp q T j G I;rcases Xc.1 hp with rfl|hp<;>rcases Xc.1 T with rfl|T
  . rfl
  . exact absurd I (z3q (W j G) q T)
  . exact absurd G (z3q (W j I) p hp)
  exact i2 p hp q T j G I
theorem qv1{rn:Nat->Option Nat}{hp:Hp}{gone:Nat->Prop}{nx:Nat}:∀{hp':Hp},j7j rn hp gone nx hp'->∀p∈hp',p.1<nx/\zd1 rn hp gone nx p.1 p.2
 |(id,o)::r,h,p,hp=>by
  rcases Xc.1 hp with rfl|hp
  . exact⟨h.1,h.2.1⟩
  exact qv1 h.2.2 p hp
theorem zq6{rn:Nat->Option Nat}{hp:Hp}{gone:Nat->Prop}{nx:Nat}{env:List (Nat×AV)}:∀{G:List (Nat×AV)},j0c rn hp gone nx env G->∀t,be rn hp gone nx (q0x env t) (q0x G t)
 |[],_,t=>by simp only[q0x];cases q0x env t<;>simp only[be]
 |(k,a)::r,h,t=>by
  simp only[q0x]
  split
  . rename_i I;subst I;exact h.1
  exact zq6 h.2 t
theorem qv0{P:Program}{C:Ctx P}{s s':St}{a:Act}{w:World}{β:aI}{l:List (Option Nat)}(h:Rel C s a w β)(hl:Le s s' l):
 ∃β',Rel C s' a w β'/\∀r r' u,be (q82 s.nb l) s.hp (fun j=>qh5 (q82 s.nb l) j s'.hp) s'.nx r r'->rep w β s.nx (own β s.hp C.A) r u->rep w β' s'.nx (own β' s'.hp C.A) r' u:=by
 obtain⟨l1,l2,l3,l4,l5,l6⟩:=hl
 generalize b3:q82 s.nb l=rn at l4 l5 l6
 have ak:∀id,id<s.nb->rn id=some id:=fun id hid=>by rw[<-b3];simp[q82,hid]
 let β':aI:=⟨fun id=>(rn id).bind β,fun id=>(rn id).elim [] β.inn⟩
 have ar:=zq5 l6;have a6:∀p∈s'.hp,∀b c,β' p.1=some (b,c)->∃j o,rn p.1=some j/\(j,o)∈s.hp/\β j=some (b,c):=by
  intro p hp b c Z;have I:=(qv1 l5 p hp).2;unfold zd1 at I;simp only[β']at Z
  cases hr:rn p.1 with
  |none=>rw[hr]at Z;cases Z
  |some j=>
   rw[hr]at I Z;obtain⟨o,ho,_⟩:=I;exact⟨j,o,rfl,q0k ho,Z⟩
 have aj:∀p∈s'.hp,∀b,bof β' p.1 b->∃j o,rn p.1=some j/\(j,o)∈s.hp/\bof β j b:=by
  rintro p hp b (⟨c,Z⟩|hb)
  . obtain⟨j,o,I,G,h3⟩:=a6 p hp b c Z;exact⟨j,o,I,G,.inl ⟨c,h3⟩⟩
  have I:=(qv1 l5 p hp).2;unfold zd1 at I;simp only[β']at hb
  cases hr:rn p.1 with
  |none=>rw[hr]at hb;cases hb
  |some j=>
   rw[hr]at I hb;obtain⟨o,ho,_⟩:=I;exact⟨j,o,rfl,q0k ho,.inr hb⟩
 have b1:∀b,own β' s'.hp C.A b->own β s.hp C.A b:=by
  rintro b (hb|⟨p,hp,Z⟩)
  . exact .inl hb
  obtain⟨j,o,_,G,h3⟩:=aj p hp b Z;exact .inr ⟨(j,o),G,h3⟩
 have hA:aW w w (own β s.hp C.A) (own β' s'.hp C.A):=⟨Xe _,fun b hb _=>⟨rfl,fun hx=>hb (b1 b hx)⟩⟩;have an:∀id,id<s'.nx->β' id=(rn id).bind β:=fun _ _=>rfl;have hg:∀j,qh5 rn j s'.hp->∀o,(j,o)∈s.hp->∀b c,β j=some (b,c)->¬own β' s'.hp C.A b:=by
  rintro j hj o ho b c Z (hx|⟨p,hp,b2⟩)
  . exact h.hp.av _ ho b c Z hx
  obtain⟨j',o',G,h3,W⟩:=aj p hp b b2;have:=h.hp.bf _ ho _ h3 b (.inl ⟨c,Z⟩) W;simp only at this;subst this;exact z3q hj p hp G
 refine⟨β',?_,fun r r' u hr b4=>q38 hA h.hp an hg r r' u hr b4⟩;refine {df:=h.df,nt:=by rw[l1];exact h.nt,nb:=by rw[l2];exact h.nb,ntc:=by rw[l1];exact h.ntc,alt:=h.alt,gs:=h.gs,env:=fun t=>q38 hA h.hp an hg _ _ _ (zq6 l4 t) (h.env t),hp:=?_,ext:=?_}
 .
  refine⟨?_,fun p hp=>(qv1 l5 p hp).1,ar.1,?_,?_,?_,?_⟩
  .
   intro p hp;have I:=(qv1 l5 p hp).2;unfold zd1 at I
   cases hr:rn p.1 with
   |none=>
    rw[hr]at I;have hn:β' p.1=none:=by simp only[β',hr];rfl
    cases hp2:p.2 with
    |box as=>rw[hp2]at I;exact I.elim
    |arr sz xs=>rw[hp2]at I;exact .inl ⟨hn,I⟩
    |con K ex=>rw[hp2]at I;exact .inr ⟨hn,I⟩
   |some j=>
    rw[hr]at I;obtain⟨o,ho,G⟩:=I;have h3:=h.hp.obj _ (q0k ho);have he:β' p.1=β j:=by simp only[β',hr];rfl
    cases o with
    |box as=>
     cases hp2:p.2 with
     |arr sz ys=>rw[hp2]at G;exact G.elim
     |con K bs=>rw[hp2]at G;exact G.elim
     |box bs=>
      rw[hp2]at G;obtain⟨b,c,cur,e,W,h5,h6⟩:=h3;exact⟨b,c,cur,e,he.trans W,h5,qk0 hA h.hp an hg _ _ _ G h6⟩
    |arr sz xs=>
     cases hp2:p.2 with
     |box bs=>rw[hp2]at G;exact G.elim
     |con K bs=>rw[hp2]at G;exact G.elim
     |arr c1 ys=>
      rw[hp2]at G;obtain⟨rfl,G⟩:=G;rcases G with rfl|⟨k,rfl⟩
      .
       rcases h3 with⟨W,h5⟩|⟨b,c,cur,e,W,h5,h6,h7,h8,h9⟩
       . exact .inl ⟨he.trans W,h5⟩
       exact .inr ⟨b,c,cur,e,he.trans W,h5,h6,h7,h8,q26 hA _ _ (fun _ _ hu=>hu) _ _ h9⟩
      rcases h3 with⟨W,h5⟩|⟨b,c,cur,e,W,h5,h6,h7,h8,h9⟩
      . exact .inl ⟨he.trans W,by rw[h5,List.take_nil]⟩
      exact .inr ⟨b,c,cur,e,he.trans W,h5,h6,by rw[X5];omega,h8,q26 hA _ _ (fun _ _ hu=>hu) _ _ (qk9 h9 k)⟩
    |con K as=>
     cases hp2:p.2 with
     |box bs=>rw[hp2]at G;exact G.elim
     |arr sz ys=>rw[hp2]at G;exact G.elim
     |con K' bs=>
      rw[hp2]at G;rcases G with⟨rfl,G⟩|⟨T,E,r,rfl,rfl,rfl,G⟩
      .
       rcases h3 with⟨b,c,us,W,h5,h6,h7⟩|⟨W,h5,h6⟩
       .
        refine .inl ⟨b,c,us,he.trans W,h5,?_,qk0 hA h.hp an hg _ _ _ G h7⟩;have hi:β'.inn p.1=β.inn j:=by simp only[β',hr];rfl
        rw[hi];exact K.mono hA (fun _ _=>rfl) h6
       subst h6;refine .inr ⟨he.trans W,h5,?_⟩
       cases bs with
       |nil=>rfl
       |cons x r=>simp only[be.AvLeL]at G
      rcases h3 with⟨b,c,us,W,h5,h6,h7⟩|⟨_,h5,_⟩
      .
       match us,h6,h7 with
       |u1::u2::us,h6,h7=>
        simp only[y9,rep]at h7;obtain⟨rfl,rfl,h7⟩:=h7;exact .inl ⟨b,c,us,he.trans W,h5,⟨_,_,h6,.inl rfl,.inl ⟨rfl,rfl⟩⟩,qk0 hA h.hp an hg _ _ _ G h7⟩
      exact h5.elim
  . intro p hp q hq b c c' I G;obtain⟨j,o,h3,W,h5⟩:=a6 p hp b c I;obtain⟨j',o',h6,h7,h8⟩:=a6 q hq b c' G;have:=h.hp.inj _ W _ h7 b c c' h5 h8;simp only at this;subst this;exact ar.2 p hp q hq j h3 h6
  . intro p hp b c I;obtain⟨j,o,h3,W,h5⟩:=a6 p hp b c I;exact h.hp.av _ W b c h5
  .
   intro p hp hc;refine List.eq_nil_iff_forall_not_mem.2 fun b hb=>?_;have I:=(qv1 l5 p hp).2;unfold zd1 at I;simp only[β']at hb
   cases hr:rn p.1 with
   |none=>rw[hr]at hb;cases hb
   |some j=>
    rw[hr]at I hb;obtain⟨o,ho,G⟩:=I;have b5:qh9 o=false:=by
     cases o<;>cases hp2:p.2<;>rw[hp2]at G hc<;>first|rfl|exact G.elim|cases hc
    have:=h.hp.i0 _ (q0k ho) b5;simp only at this;rw[show (some j:Option Nat).elim [] β.inn=β.inn j from rfl,this]at hb
    cases hb
  intro p hp b hb;obtain⟨j,o,h3,W,h5⟩:=aj p hp b (.inr hb);have b6:b∈β.inn j:=by
   simp only[β']at hb;rw[h3]at hb;exact hb
  obtain⟨i1,i2,i3,i4⟩:=h.hp.ib _ W b b6;refine⟨i1,i2,fun q hq c hc=>?_,fun q hq hc=>?_⟩
  . obtain⟨j',o',_,h7,h8⟩:=a6 q hq b c hc;exact i3 _ h7 c h8
  obtain⟨j',o',h6,h7,h8⟩:=aj q hq b (.inr hc);have:=h.hp.bf _ h7 _ W b h8 h5;simp only at this;subst this;exact (ar.2 p hp q hq _ h3 h6).symm
 refine {nx:=by rw[h.nb];exact l3,gh:=?_,gi:=?_,ids:=?_,blk:=?_,os:=h.ext.os,tape:=h.ext.tape,output:=h.ext.output,size:=h.ext.size,keep:=h.ext.keep}
 . intro id hid;rw[h.nb]at hid;simp only[β',ak id hid];exact h.ext.gh id (by rw[h.nb];exact hid)
 . intro id hid bi;have ao:=hid;rw[h.nb]at ao;simp only[β',ak id ao];exact h.ext.gi id hid bi
 .
  intro p hp;rcases Yj p.1 C.nx0 with bv|c0
  . have aq:=bv;rw[h.nb]at aq;have I:=(qv1 l5 p hp).2;unfold zd1 at I;rw[ak _ aq]at I;obtain⟨o,ho,_⟩:=I;have:=h.ext.ids (p.1,o) (q0k ho);exact this
  exact .inr c0
 intro p hp b I;obtain⟨j,o,h3,W,h5⟩:=aj p hp b I;exact h.ext.blk _ W b h5
end
section
open Go Go.RowKit
def RK{P:Program}(C:Ctx P)(K:St->Prop)(a:Act)(w:World):Prop:=∃s β,Rel C s a w β/\K s
def q1w(P:Program)(t:TypeId):Option (List Value):=((P.info? t).bind (·.zero)).map (·.cells.toList)
def qi6:AV->Option (List AV)
 |.agg cs=>some cs
 |.v x=>if x.oneCell'=true then some [.v x]else none
 |.ptr id off=>some [.ptr id off]
 |.mp id=>some [.mp id]
 |.apt id sz i off=>some [.apt id sz i off]
 |.sl sz xs=>some [.sl sz xs]
 |.osl id sz off len=>some [.osl id sz off len]
 |.el sz xs i off=>some [.el sz xs i off]
 |.clo f xs=>some [.clo f xs]
 |_=>none
section
variable {P:Program} {C:Ctx P} {s:St} {a:Act} {w:World} {β:aI} {nx:Nat} {ow:Nat->Prop}
theorem qf5{x:AV}{u:Value}{cs:List AV}(h:qi6 x=some cs)(G:rep w β nx ow x u):y9 w β nx ow cs u.cells.toList:=by
 cases x<;>simp only[qi6,Xa,reduceCtorEq]at h
 .
  split at h
  .
   simp only[Xa]at h;subst h;simp only[rep]at G;subst G
   rename_i W
   cases u<;>simp[Value.oneCell']at W<;>simp[Value.cells,y9,rep]
  cases h
 all_goals subst h
 . have I:=G;simp only[rep]at G;obtain⟨_,b,c,_,rfl⟩:=G;simp only[Value.cells,y9];exact⟨I,trivial⟩
 . have I:=G;simp only[rep]at G;obtain⟨_,b,c,_,rfl⟩:=G;simp only[Value.cells,y9];exact⟨I,trivial⟩
 . have I:=G;simp only[rep]at G;rcases G with⟨_,a,c,rfl⟩|⟨b,o,cap,rfl,_⟩<;>simp only[Value.cells,y9]<;>exact⟨I,trivial⟩
 . have I:=G;simp only[rep]at G;rcases G.2 with⟨_,_,_,rfl⟩|⟨b,c,cap,ad,_,rfl,_⟩<;>simp only[Value.cells,y9]<;>exact⟨I,trivial⟩
 . have I:=G;simp only[rep]at G;obtain⟨b,o,rfl,_⟩:=G;simp only[Value.cells,y9];exact⟨I,trivial⟩
 . simp only[rep]at G;obtain⟨l,rfl,T⟩:=G;simpa only[Value.cells]using T
 . have I:=G;simp only[rep]at G;obtain⟨l,rfl,T⟩:=G;simp only[Value.cells,y9];exact⟨I,trivial⟩
 have I:=G;simp only[rep]at G;obtain⟨_,b,c,_,rfl⟩:=G;simp only[Value.cells,y9];exact⟨I,trivial⟩
theorem z08(w:World)(β:aI)(nx:Nat)(ow:Nat->Prop):∀(zs:List Value),y9 w β nx ow (zs.map AV.v) zs
 |[]=>by simp[y9]
 |z::zs=>by simp only[Xi,y9,rep];exact⟨trivial,z08 w β nx ow zs⟩
theorem q2c{x:Operand}(h:Rel C s a w β)(G:(x8 s.env x).aU):rep w β s.nx (own β s.hp C.A) (x8 s.env x).st (a.eval x):=q1j (h.ev x) G
theorem jb8(h:Rel C s a w β){o:Oper}{e:TypeId}{zs:List Value}{K:St->Prop}{Q:Exit->Act->World->Prop}(W:o.op=.alloc e)(G:q1w P e=some zs)(hd:dok s.nt o.dst=true)
 (Z:K (({s with hp:=(s.nx,.box (zs.map AV.v))::s.hp,nx:=s.nx+1}:St).put o.dst (.ptr s.nx 0))):o.wp P a w (RK C K) Q:=by
 unfold q1w at G;simp only[Xd,Xu]at G;obtain⟨z,⟨i,hi,G⟩,rfl⟩:=G;have I:(execOp a.eval o).run P w=.ok (.value (.pointer (some ⟨w.heap.size,0,none⟩))) (w.alloc (.cells ⟨z.cells.toList⟩ e)):=by
  unfold execOp;simp only[W];simp[Instr.alloc,zeroValue,typeInfo,hi,G,newVar,newRow]
 unfold Oper.wp;rw[I];have h2:=h.alloc (cs:=z.cells.toList) (e:=e) (o:=.box (z.cells.toList.map AV.v)) (c:=0) (fun w' ow' _ T=>⟨w.heap.size,0,_,e,q1i _ _ _,T,z08 _ _ _ _ _⟩);refine⟨_,_,h2.put ?_ hd,Z⟩;simp only[rep];exact⟨Xp _,w.heap.size,0,q1i _ _ _,rfl⟩
theorem j7t(h:Rel C s a w β){o:Oper}{e:TypeId}{zs:List Value}{K:St->Prop}{Q:Exit->Act->World->Prop}(W:o.op=.alloc e)(G:q1w P e=some zs)(hd:dok s.nt o.dst=true)
 (Z:K (({s with hp:=(s.nx,.con (z7n e) (zs.map AV.v))::s.hp,nx:=s.nx+1}:St).put o.dst (.ptr s.nx 0))):o.wp P a w (RK C K) Q:=by
 unfold q1w at G;simp only[Xd,Xu]at G;obtain⟨z,⟨i,hi,G⟩,rfl⟩:=G;have I:(execOp a.eval o).run P w=.ok (.value (.pointer (some ⟨w.heap.size,0,none⟩))) (w.alloc (.cells ⟨z.cells.toList⟩ e)):=by
  unfold execOp;simp only[W];simp[Instr.alloc,zeroValue,typeInfo,hi,G,newVar,newRow]
 unfold Oper.wp;rw[I];have h2:=h.alloc (cs:=z.cells.toList) (e:=e) (o:=.con (z7n e) (z.cells.toList.map AV.v)) (c:=0) (fun w' ow' _ T=> .inl ⟨w.heap.size,0,_,q1i _ _ _,(Xl.1 T).1,T,z08 _ _ _ _ _⟩);refine⟨_,_,h2.put ?_ hd,Z⟩;simp only[rep];exact⟨Xp _,w.heap.size,0,q1i _ _ _,rfl⟩
theorem jv7(h:Rel C s a w β){o:Oper}{e:TypeId}{x:Operand}{cs:List AV}{K:St->Prop}{Q:Exit->Act->World->Prop}(T:o.op=.box e x)(W:(x8 s.env x).aU)(Z:qi6 (x8 s.env x).st=some cs)(hd:dok s.nt o.dst=true)
 (hK:K (({s with hp:=(s.nx,.box cs)::s.hp,nx:=s.nx+1}:St).put o.dst (.ptr s.nx 0))):o.wp P a w (RK C K) Q:=by
 have hc:=qf5 Z (q2c h W);have G:(execOp a.eval o).run P w=.ok (.value (.pointer (some ⟨w.heap.size,0,none⟩))) (w.alloc (.cells ⟨(a.eval x).cells.toList⟩ e)):=by
  unfold execOp;simp only[T];simp[Instr.box,newVar,newRow]
 unfold Oper.wp;rw[G];have h2:=h.alloc (cs:=(a.eval x).cells.toList) (e:=e) (o:=.box cs) (c:=0) (fun w' ow' hA I=>⟨w.heap.size,0,_,e,q1i _ _ _,I,q1r hA _ _ (X3 _) (fun id hid=>q35 _ _ _ _ hid) _ _ hc⟩);refine⟨_,_,h2.put ?_ hd,hK⟩;simp only[rep];exact⟨Xp _,w.heap.size,0,q1i _ _ _,rfl⟩
theorem jn3(h:Rel C s a w β){o:Oper}{e:TypeId}{x:Operand}{cs:List AV}{K:St->Prop}{Q:Exit->Act->World->Prop}(T:o.op=.box e x)(W:(x8 s.env x).aU)(Z:qi6 (x8 s.env x).st=some cs)(hd:dok s.nt o.dst=true)
 (hK:K (({s with hp:=(s.nx,.con (z7n e) cs)::s.hp,nx:=s.nx+1}:St).put o.dst (.ptr s.nx 0))):o.wp P a w (RK C K) Q:=by
 have hc:=qf5 Z (q2c h W);have G:(execOp a.eval o).run P w=.ok (.value (.pointer (some ⟨w.heap.size,0,none⟩))) (w.alloc (.cells ⟨(a.eval x).cells.toList⟩ e)):=by
  unfold execOp;simp only[T];simp[Instr.box,newVar,newRow]
 unfold Oper.wp;rw[G];have h2:=h.alloc (cs:=(a.eval x).cells.toList) (e:=e) (o:=.con (z7n e) cs) (c:=0) (fun w' ow' hA I=> .inl ⟨w.heap.size,0,_,q1i _ _ _,(Xl.1 I).1,I,q1r hA _ _ (X3 _) (fun id hid=>q35 _ _ _ _ hid) _ _ hc⟩);refine⟨_,_,h2.put ?_ hd,hK⟩;simp only[rep];exact⟨Xp _,w.heap.size,0,q1i _ _ _,rfl⟩
end
end
section
open Go Go.RowKit
def q4l:Hp->Nat->Hp
 |[],_=>[]
 |(k,o)::r,id=>if k=id then q4l r id else (k,o)::q4l r id
def q74:List Nat->Hp->Hp
 |[],hp=>hp
 |i::G,hp=>q74 G (q4l hp i)
def q9w:List AV->List Nat
 |[]=>[]
 |.osl id _ _ _::r=>id::q9w r
 |_::r=>q9w r
def frz(hp:Hp):AV->AV
 |.osl id sz off len=>match q0i hp id with
  |some (.arr _ xs)=> .sl sz ((xs.drop off).take len)
  |_=> .osl id sz off len
 |a=>a
def z10(hp:Hp):List AV->Prop
 |[]=>True
 |.osl id sz off len::r=>(match q0i hp id with
  |some (.arr G xs)=>G=sz/\off+len<=xs.length
  |_=>False)/\z10 hp r
 |_::r=>z10 hp r
theorem z1r{p:Nat×bj}{id:Nat}:∀{hp:Hp},p∈q4l hp id↔p∈hp/\p.1≠id
 |[]=>by simp[q4l]
 |(k,o)::r=>by
  unfold q4l
  split
  .
   rename_i T
   subst T;rw[z1r]
   constructor
   . rintro⟨G,I⟩;exact⟨Xj _ G,I⟩
   rintro⟨G,I⟩;rcases Xc.1 G with rfl|G
   . exact absurd rfl I
   exact⟨G,I⟩
  rename_i T
  simp only[Xc,z1r]
  constructor
  .
   rintro (rfl|⟨G,I⟩)
   . exact⟨.inl rfl,T⟩
   exact⟨.inr G,I⟩
  rintro⟨rfl|G,I⟩
  . exact .inl rfl
  exact .inr ⟨G,I⟩
theorem z2m{p:Nat×bj}:∀{ids:List Nat} {hp:Hp},p∈q74 ids hp↔p∈hp/\p.1∉ids
 |[],hp=>by simp[q74]
 |i::G,hp=>by simp only[q74,z2m,z1r,Xc,not_or,and_assoc]
theorem bo{id:Nat}:∀{hp:Hp},(q4l hp id).Sublist hp
 |[]=>by simp[q4l]
 |(k,o)::r=>by
  unfold q4l
  split
  . exact (bo).cons _
  exact (bo).cons_cons _
theorem qd1:∀{ids:List Nat} {hp:Hp},(q74 ids hp).Sublist hp
 |[],_=>List.Sublist.refl _
 |i::G,hp=>(qd1 (ids:=G) (hp:=q4l hp i)).trans bo
section
variable {P:Program} {C:Ctx P} {s:St} {a:Act} {w:World} {β:aI} {nx:Nat} {A:Nat->Prop} {hp:Hp}
theorem j4o{hp':Hp}(G:hp'.Sublist hp){b:Nat}(h:own β hp' A b):own β hp A b:=by
 rcases h with h|⟨p,hp,h⟩
 . exact .inl h
 exact .inr ⟨p,G.subset hp,h⟩
theorem zc7{hp':Hp}(G:hp'.Sublist hp):aW w w (own β hp A) (own β hp' A):=⟨Xe _,fun _ hb _=>⟨rfl,fun h=>hb (j4o G h)⟩⟩
theorem aV.sub{hp':Hp}(h:aV w β nx A hp)(G:hp'.Sublist hp):aV w β nx A hp' where
 obj p hp:=q47 (zc7 G) (Xe _) (fun _ _=>rfl) (h.lt p (G.subset hp)) (fun _ _=>rfl) (fun _=>rfl) (h.obj p (G.subset hp))
 lt p hp:=h.lt p (G.subset hp)
 nd:=(G.map _).nodup h.nd
 inj p hp q I:=h.inj p (G.subset hp) q (G.subset I)
 av p hp:=h.av p (G.subset hp)
 i0 p hp:=h.i0 p (G.subset hp)
 ib p hp b hb:=by
  obtain⟨T,W,Z,h4⟩:=h.ib p (G.subset hp) b hb;exact⟨T,W,fun q I=>Z q (G.subset I),fun q I=>h4 q (G.subset I)⟩
theorem Rel.sub{hp':Hp}(h:Rel C s a w β)(G:hp'.Sublist s.hp):Rel C {s with hp:=hp'} a w β:=
 h.step (Xe _) (fun _ _=>rfl) (Xe _) (fun _ _ _=>rfl) (fun _ _ ⟨q,I,T⟩=>⟨q,G.subset I,T⟩) (h.hp.sub G) (fun _ hp=> .inl (Xk (G.subset hp))) rfl rfl ⟨rfl,fun _=>Xe _⟩
theorem zb2(G:aV w β nx A hp){hp':Hp}(hs:hp'.Sublist hp):∀{cs:List AV} {us:List Value},(∀i∈q9w cs,∀o,(i,o)∉hp')->z10 hp cs->y9 w β nx (own β hp A) cs us->y9 w β nx (own β hp' A) (cs.map (frz hp)) us
 |[],[],_,_,_=>by simp[y9]
 |x::xs,u::us,hi,T,I=>by
  simp only[y9,Xi]at I⊢;have aj:z10 hp xs:=by cases x<;>simp only[z10]at T<;>first|exact T|exact T.2
  have hi':∀i∈q9w xs,∀o,(i,o)∉hp':=fun i hm=>hi i (by cases x<;>simp only[q9w]<;>first|exact hm|exact Xj _ hm);refine⟨?_,zb2 G hs hi' aj I.2⟩;have keep:∀y,rep w β nx (own β hp A) y u->rep w β nx (own β hp' A) y u:=fun y hy=>q5w (zc7 hs) nx nx (Xe _) (fun _ _=>rfl) y u hy
  cases x with
  |osl id sz off len=>
   simp only[frz];simp only[z10]at T
   cases hg:q0i hp id with
   |none=>exact keep _ I.1
   |some o=>
    cases o with
    |box cs=>exact keep _ I.1
    |con K cs=>exact keep _ I.1
    |arr ak ys=>
     rw[hg]at T;obtain⟨⟨rfl,W⟩,_⟩:=T;refine q38 (rn:=some) (gone:=fun j=>∀o,(j,o)∉hp') (nx':=nx) (zc7 hs) G (fun _ _=>rfl) ?_ (.osl id ak off len) _ u ?_ I.1
     .
      rintro j hj o ho b c Z (hx|⟨p,hp1,a6⟩)
      . exact G.av _ ho b c Z hx
      have:=G.bf _ ho _ (hs.subset hp1) b (.inl ⟨c,Z⟩) a6;simp only at this;subst this;exact hj p.2 hp1
     simp only[be];exact⟨trivial,hi id (by simp[q9w]),ys,hg,W,rfl⟩
  |_=>exact keep _ I.1
 |[],_::_,_,_,h=>by simp only[y9]at h
 |_::_,[],_,_,h=>by simp only[y9]at h
def q0u:Hp->Nat->bj->Hp
 |[],_,_=>[]
 |(k,o)::r,id,o'=>if k=id then (k,o')::r else (k,o)::q0u r id o'
theorem qh8{id:Nat}{o':bj}:∀{hp:Hp},(q0u hp id o').map (·.1)=hp.map (·.1)
 |[]=>rfl
 |(k,o)::r=>by
  unfold q0u
  split
  . rfl
  simp[qh8]
theorem qs7{id:Nat}{o':bj}{p:Nat×bj}:∀{hp:Hp},(hp.map (·.1)).Nodup->p∈q0u hp id o'->p=(id,o')\/(p∈hp/\p.1≠id)
 |[],_,h=>by simp[q0u]at h
 |(k,o)::r,G,h=>by
  simp only[Xi,Yk]at G;unfold q0u at h
  split at h
  .
   rename_i I
   subst I;rcases Xc.1 h with rfl|h
   . exact .inl rfl
   exact .inr ⟨Xj _ h,fun T=>G.1 (by rw[<-T];exact Xk h)⟩
  rename_i I
  rcases Xc.1 h with rfl|h
  . exact .inr ⟨Xv,I⟩
  rcases qs7 G.2 h with h|⟨W,Z⟩
  . exact .inl h
  exact .inr ⟨Xj _ W,Z⟩
theorem qj2{id:Nat}{o':bj}{p:Nat×bj}{hp:Hp}(h:p∈q0u hp id o'):∃q∈hp,q.1=p.1:=by
 have:p.1∈(q0u hp id o').map (·.1):=Xk h;rw[qh8]at this;obtain⟨q,G,I⟩:=X6.1 this;exact⟨q,G,I⟩
theorem zx2{id:Nat}{o':bj}{q:Nat×bj}{hp:Hp}(h:q∈hp):∃p∈q0u hp id o',p.1=q.1:=by
 have:q.1∈(q0u hp id o').map (·.1):=by rw[qh8];exact Xk h
 obtain⟨p,G,I⟩:=X6.1 this;exact⟨p,G,I⟩
theorem je3{id:Nat}{o':bj}:own β (q0u hp id o') A=own β hp A:=by
 funext b
 apply propext
 constructor
 .
  rintro (h|⟨p,hp1,G⟩)
  . exact .inl h
  obtain⟨q,I,T⟩:=qj2 hp1;exact .inr ⟨q,I,by rw[T];exact G⟩
 rintro (h|⟨p,hp1,G⟩)
 . exact .inl h
 obtain⟨q,I,T⟩:=zx2 (id:=id) (o':=o') hp1;exact .inr ⟨q,I,by rw[T];exact G⟩
theorem j9w{id:Nat}{o':bj}{b:Nat}:bu β (q0u hp id o') b↔bu β hp b:=by
 constructor
 . rintro⟨p,hp1,G⟩;obtain⟨q,I,T⟩:=qj2 hp1;exact⟨q,I,by rw[T];exact G⟩
 rintro⟨p,hp1,G⟩;obtain⟨q,I,T⟩:=zx2 (id:=id) (o':=o') hp1;exact⟨q,I,by rw[T];exact G⟩
theorem Rel.write(h:Rel C s a w β){id b c:Nat}{o o':bj}{cur':Array Value}(hg:q0i s.hp id=some o)(hb:β id=some (b,c))
 (ho:∀w',aW w w' (own β s.hp C.A) (own β s.hp C.A)->(w.setRow b cur')=w'->q6f w' β s.nx (own β s.hp C.A) id o')(a6:qh9 o'=qh9 o:=by rfl):
 Rel C {s with hp:=q0u s.hp id o'} a (w.setRow b cur') β:=by
 have hm:=q0k hg;have Z:=q9f (p:=(id,o)) hm hb;have hA:aW w (w.setRow b cur') (own β s.hp C.A) (own β s.hp C.A):=⟨by simp,fun T G _=>⟨setRow_other w b T cur' (fun e=>G (.inr (e▸Z))),G⟩⟩;refine h.step (Xe _) (fun _ _=>rfl) (by simp) (fun T _ G=>setRow_other w b T cur' (fun e=>G (e▸Z))) (fun T _ G=>j9w.1 G) ?_ (fun p hp=>by
  obtain⟨q,I,W⟩:=qj2 hp;exact .inl (by rw[<-W];exact Xk I)) rfl rfl ⟨rfl,fun _=>Xe _⟩
 refine⟨?_,?_,by rw[qh8];exact h.hp.nd,?_,?_,?_,?_⟩
 .
  intro p hp;rw[je3];rcases qs7 h.hp.nd hp with rfl|⟨I,W⟩
  . exact ho _ hA rfl
  refine q47 hA (Xe _) (fun _ _=>rfl) (h.hp.lt p I) (fun T aj=>setRow_other w b T cur' (fun e=>W ?_)) (fun _=>rfl) (h.hp.obj p I);subst e;exact h.hp.bf p I _ hm T aj (.inl ⟨c,hb⟩)
 . intro p hp;obtain⟨q,I,W⟩:=qj2 hp;rw[<-W];exact h.hp.lt q I
 . intro p hp q hq T c1 c2 I W;obtain⟨p',h3,h4⟩:=qj2 hp;obtain⟨q',h5,h6⟩:=qj2 hq;rw[<-h4]at I⊢;rw[<-h6]at W⊢;exact h.hp.inj p' h3 q' h5 T c1 c2 I W
 . intro p hp T c1 I;obtain⟨q,W,h3⟩:=qj2 hp;rw[<-h3]at I;exact h.hp.av q W T c1 I
 .
  intro p hp hc;rcases qs7 h.hp.nd hp with rfl|⟨I,W⟩
  . exact h.hp.i0 (id,o) hm (a6▸hc)
  exact h.hp.i0 p I hc
 intro p hp T G;obtain⟨q,W,h3⟩:=qj2 hp;rw[<-h3]at G⊢;obtain⟨i1,i2,i3,i4⟩:=h.hp.ib q W T G;refine⟨by simpa using i1,i2,fun r hr=>?_,fun r hr=>?_⟩
 . obtain⟨r',h4,h5⟩:=qj2 hr;rw[<-h5];exact i3 r' h4
 obtain⟨r',h4,h5⟩:=qj2 hr;rw[<-h5];exact i4 r' h4
end
end
section
open Go Go.RowKit
def q81(cs:List AV)(off:Nat)(ys:List AV):List AV:=cs.take off++ys++cs.drop (off+ys.length)
section
variable {P:Program} {C:Ctx P} {s:St} {a:Act} {w:World} {β:aI} {nx:Nat} {A:Nat->Prop} {hp:Hp} {ow:Nat->Prop}
theorem z2q{cs ys:List AV}{us vs:List Value}{off:Nat}(h:y9 w β nx ow cs us)(G:y9 w β nx ow ys vs):y9 w β nx ow (q81 cs off ys) (us.take off++vs++us.drop (off+vs.length)):=by
 unfold q81;rw[q1p G];exact q6m (q6m (q7o h off) G) (q9v h _)
theorem zx7(off:Nat):∀(l:List Value) (k:Nat) (cells:Array Value),off+k+l.length<=cells.size->
 ((l.zipIdx k).foldl (fun cs (p:Value×Nat)=>cs.setIfInBounds (off+p.2) p.1) cells).toList=cells.toList.take (off+k)++l++cells.toList.drop (off+k+l.length)
 |[],k,cells,_=>by simp
 |v::l,k,cells,h=>by
  simp only[Yp]at h;simp only[List.zipIdx_cons,List.foldl_cons];rw[zx7 off l (k+1) _ (by simp;omega),Array.toList_setIfInBounds];have:=list_seg_step cells.toList (off+k) v l (by simp;omega);rw[show off+(k+1)=off+k+1 by omega,this];simp[Ym]
theorem zy0{pl:Nat->Option (Nat×Nat)}{cells:Array Value}{i off n:Nat}{v:Value}{G:List (Nat×Value)}(hp:pl i=some (off,n))(T:v.cells.size=n)(I:off+v.cells.size<=cells.size):
 Instr.fill pl cells ((i,v)::G)=Instr.fill pl ⟨cells.toList.take off++v.cells.toList++cells.toList.drop (off+v.cells.size)⟩ G:=by
 rw[Instr.fill];simp only[hp];rw[if_neg (by simp;omega)]
 congr 1
 apply Xs;have:=zx7 off v.cells.toList 0 cells (by simpa using I);simp only[Yy,Ya]at this;rw[<-this,<-Array.foldl_toList];simp
def ze5(pl:Nat->Option (Nat×Nat)):List AV->List (Nat×AV)->Option (Prop×List AV)
 |cs,[]=>some (True,cs)
 |cs,(i,x)::r=>match pl i,qi6 x with
  |some (off,n),some ys=>(ze5 pl (q81 cs off ys) r).map fun p=>((ys.length=n/\off+ys.length<=cs.length)/\p.1,p.2)
  |_,_=>none
def za5(w:World)(β:aI)(nx:Nat)(ow:Nat->Prop):List (Nat×AV)->List (Nat×Value)->Prop
 |[],[]=>True
 |(i,x)::r,(j,u)::q=>i=j/\rep w β nx ow x u/\za5 w β nx ow r q
 |_,_=>False
theorem zg5{pl:Nat->Option (Nat×Nat)}:∀{T:List (Nat×AV)} {vs:List (Nat×Value)} {cs r:List AV} {us:List Value} {c:Prop},ze5 pl cs T=some (c,r)->c->y9 w β nx ow cs us->za5 w β nx ow T vs->
 ∃G,Instr.fill pl ⟨us⟩ vs=some ⟨G⟩/\y9 w β nx ow r G
 |[],[],cs,r,us,c,h,_,I,_=>by
  simp only[ze5,Xa,Xb]at h;obtain⟨_,rfl⟩:=h;exact⟨us,by simp[Instr.fill],I⟩
 |(i,x)::T,(j,u)::vs,cs,r,us,c,h,hc,I,hp=>by
  simp only[za5]at hp;obtain⟨rfl,hx,hp⟩:=hp;unfold ze5 at h
  split at h
  .
   rename_i off n ys W Z
   simp only[Xd,Xb]at h;obtain⟨⟨c',r'⟩,h1,rfl,rfl⟩:=h;obtain⟨⟨h2,h3⟩,a6⟩:=hc;have h4:=qf5 Z hx;have h5:=q1p h4;have h6:=q1p I;obtain⟨G,h7,h8⟩:=zg5 h1 a6 (z2q (off:=off) I h4) hp;refine⟨G,?_,h8⟩;rw[zy0 W (by simp at h5;omega) (by simp at h5⊢;omega)]
   simpa using h7
  cases h
 |[],_::_,_,_,_,_,_,_,_,hp=>by simp only[za5]at hp
 |_::_,[],_,_,_,_,_,_,_,hp=>by simp only[za5]at hp
def q4f(P:Program)(t:TypeId):Option (List (Nat×Nat)):=match P.underlying t with
 |some (.struct G)=>G.toList.mapM fun f=>(P.info? f.type).map fun i=>(f.offset,i.size)
 |some (.array n e)=>if (P.info? e).isSome=true then some ((Y3 n).map fun i=>(i*szT P e,szT P e))else none
 |_=>none
def zc2(P:Program)(ev:Operand->AV)(t:TypeId)(parts:List (Nat×Operand)):Option (Prop×AV):=
 match q1w P t,q4f P t with
 |some zs,some pl=>(ze5 (pl[·]?) (zs.map AV.v) (parts.map fun p=>(p.1,(ev p.2).st))).map fun p=>((q6s P t=true/\q19 P t=true/\bm (parts.map fun p=>ev p.2))/\p.1,.agg p.2)
 |_,_=>none
theorem j0x{ev:Operand->AV}{ρ:Operand->Value}(G:∀x,rep w β nx ow (ev x) (ρ x)):∀(xs:List (Nat×Operand)),bm (xs.map fun p=>ev p.2)->za5 w β nx ow (xs.map fun p=>(p.1,(ev p.2).st)) (xs.map fun p=>(p.1,ρ p.2))
 |[],_=>by simp[za5]
 |x::xs,h=>by
  simp only[Xi,bm]at h;simp only[Xi,za5];exact⟨trivial,q1j (G x.2) h.1,j0x G xs h.2⟩
theorem zg4{pl G:Nat->Option (Nat×Nat)}:∀{vs:List (Nat×Value)} {cells r:Array Value},(∀i x,pl i=some x->G i=some x)->Instr.fill pl cells vs=some r->Instr.fill G cells vs=some r
 |[],cells,r,_,h=>by simpa [Instr.fill]using h
 |(i,v)::vs,cells,r,hp,h=>by
  rw[Instr.fill]at h⊢
  cases hi:pl i with
  |none=>simp[hi]at h
  |some x=>
   rw[hp i x hi];simp only[hi]at h⊢
   split at h
   . cases h
   rename_i I
   rw[if_neg I];exact zg4 hp h
theorem j2s{ev:Operand->AV}{ρ:Operand->Value}(ak:∀x,rep w β nx ow (ev x) (ρ x)){t:TypeId}{parts:Array (Nat×Operand)}{c:Prop}{r:AV}(h:zc2 P ev t parts.toList=some (c,r))(hc:c):
 ∃z,(Instr.build t (parts.map fun (i,x)=>(i,ρ x))).run P w=.ok z w/\rep w β nx ow r z:=by
 unfold zc2 at h
 split at h
 .
  rename_i zs pl Z G
  simp only[Xd,Xb]at h;obtain⟨⟨c',r'⟩,h1,rfl,rfl⟩:=h;obtain⟨⟨c1,c2,c3⟩,an⟩:=hc;obtain⟨a6,h2,h3⟩:=zg5 h1 an (z08 w β nx ow zs) (j0x ak _ c3);refine⟨.agg ⟨a6⟩,?_,by simp only[rep];exact⟨a6,rfl,h3⟩⟩;unfold q1w at Z;simp only[Xd,Xu]at Z;obtain⟨z,⟨i,hi,Z⟩,rfl⟩:=Z;apply run_build;have T:(parts.map fun (i,x)=>(i,ρ x)).toList=parts.toList.map fun p=>(p.1,ρ p.2):=by simp
  rw[T];unfold Program.built;simp only[hi];unfold q4f at G
  split at G
  .
   rename_i fs hd
   simp only[hd,Z,G];rw[show (fun x=>pl.toArray[x]?)=(fun x=>pl[x]?)from funext fun x=>by simp];exact h2
  .
   rename_i n e hd
   split at G
   case isFalse=>cases G
   rename_i I
   simp only[Xa]at G;subst G;simp only[hd,Z]
   cases aj:P.info? e with
   |none=>rw[aj]at I;cases I
   |some ie=>
    simp only;have ao:szT P e=ie.size:=by simp[szT,aj]
    refine zg4 ?_ h2;intro j x hj;simp only[Yf,Xd]at hj;obtain⟨k,hk,rfl⟩:=hj;rw[List.getElem?_range]at hk
    . simp only[Xa]at hk;rw[<-hk,ao]
    rcases Yj j n with W|W
    . exact W
    rw[Yt (by simpa using W)]at hk;cases hk
  cases G
 cases h
end
def j6e:Option Nat->AV->AV
 |some sz,.v (.slice none 0 0)=> .sl sz []
 |_,a=>a
def q1v:List (Option Nat)->List AV->List AV
 |n::ns,a::as=>j6e n a::q1v ns as
 |_,as=>as
def j6d(P:Program):Nat->TypeId->List (Option Nat)
 |0,_=>[]
 |n+1,t=>match P.underlying t with
  |some (.slice e)=>[some (szT P e)]
  |some (.struct G)=>G.toList.flatMap fun f=>j6d P n f.type
  |some (.array k e)=>(List.replicate k (j6d P n e)).flatten
  |_=>List.replicate (szT P t) none
def qh6(P:Program)(t:TypeId):List (Option Nat):=j6d P 9 t
def z2l(hp:Hp)(P:Program)(t:TypeId):List (Option Nat):=match hp with
 |(_,.con K _)::_=>if K.raw=true then []else qh6 P t
 |_=>qh6 P t
theorem j8s{P:Program}{t:TypeId}:z2l [] P t=qh6 P t:=rfl
theorem j8u{P:Program}{t:TypeId}{i:Nat}{cs:List AV}{r:Hp}:z2l ((i,.box cs)::r) P t=qh6 P t:=rfl
theorem j8v{P:Program}{t:TypeId}{i n:Nat}{xs:List (List AV)}{r:Hp}:z2l ((i,.arr n xs)::r) P t=qh6 P t:=rfl
theorem j8t{P:Program}{t:TypeId}{i:Nat}{K:Con}{G:List AV}{r:Hp}:z2l ((i,.con K G)::r) P t=if K.raw=true then []else qh6 P t:=rfl
section
variable {w:World} {β:aI} {nx:Nat} {ow:Nat->Prop}
theorem jd8{n:Option Nat}{a:AV}{u:Value}(h:rep w β nx ow a u):rep w β nx ow (j6e n a) u:=by
 unfold j6e
 split
 . simp only[rep]at h⊢;exact .inl ⟨trivial,none,0,h⟩
 exact h
theorem z4w:∀{ns:List (Option Nat)} {as:List AV} {us:List Value},y9 w β nx ow as us->y9 w β nx ow (q1v ns as) us
 |[],as,us,h=>by simpa only[q1v]using h
 |n::ns,[],us,h=>by simpa only[q1v]using h
 |n::ns,a::as,[],h=>by simp only[y9]at h
 |n::ns,a::as,u::us,h=>by
  simp only[y9,q1v]at h⊢;exact⟨jd8 h.1,z4w h.2⟩
theorem qj4:∀{ns:List (Option Nat)} {as:List AV},(q1v ns as).length=as.length
 |[],as=>by simp only[q1v]
 |n::ns,[]=>by simp only[q1v]
 |n::ns,a::as=>by simp only[q1v,Yp,qj4]
theorem qg8{ns:List (Option Nat)}:∀{G:List (List AV)} {us:List Value},y9 w β nx ow G.flatten us->y9 w β nx ow (G.map (q1v ns)).flatten us
 |[],us,h=>by simpa using h
 |r::G,us,h=>by
  simp only[Xy,Xi]at h⊢;have I:=q7o h r.length;have T:=q9v h r.length;rw[List.take_left]at I;rw[List.drop_left]at T;have:=q6m (z4w (ns:=ns) I) (qg8 (ns:=ns) T)
  rwa [List.take_append_drop]at this
end
end
section
open Go Go.RowKit
section
variable {P:Program} {C:Ctx P} {s:St} {a:Act} {w:World} {β:aI} {nx:Nat} {A:Nat->Prop} {hp:Hp} {ow:Nat->Prop}
theorem z4t{t:TypeId}{b off:Nat}{cur:Array Value}{e:TypeId}{u:Value}(G:q19 P t=true)(I:w.heap[b]?=some (.cells cur e (0,0)))(T:u.cells.size=szT P t)(W:off+u.cells.size<=cur.size)
 (Z:∀v∈u.cells.toList,v.oneCell'=true):
 (storeVar t ⟨b,off,none⟩ u).run P w=.ok () (w.setRow b ⟨cur.toList.take off++u.cells.toList++cur.toList.drop (off+u.cells.toList.length)⟩):=by
 unfold storeVar;have:=run_storeCells_at P b off e u.cells.toList 0 cur w I (by simpa using W) Z;simp only[Sem.run_bind,run_sizeOf G,Result.andThen_ok,Sem.run_ite];rw[if_neg (by simp[T])]
 simpa using this
theorem jb4(h:Rel C s a w β){o:Oper}{t:TypeId}{x y:Operand}{id off:Nat}{cs ys:List AV}{K:St->Prop}{Q:Exit->Act->World->Prop}(ho:o.op=.store t x y)(a6:(x8 s.env x).aU)(aj:(x8 s.env y).aU)
 (hx:(x8 s.env x).st=.ptr id off)(hg:q0i s.hp id=some (.box cs))(hy:qi6 (x8 s.env y).st=some ys)(h1:q19 P t=true)(h2:ys.length=szT P t)(h3:off+ys.length<=cs.length)(h4:ys.all qg3=true)(hd:dok s.nt o.dst=true)
 (hK:K (({s with hp:=q0u s.hp id (.box (q81 cs off ys))}:St).put o.dst (.v undef))):o.wp P a w (RK C K) Q:=by
 have I:=q2c h a6;rw[hx]at I;simp only[rep]at I;obtain⟨aq,b,c,hb,ak⟩:=I;have T:=qf5 hy (q2c h aj);have G:=q1p T;obtain⟨b',c',cur,e,Z,h6,h7⟩:=h.hp.obj _ (q0k hg);simp only at Z;rw[hb]at Z;simp only[Xa,Xb]at Z;obtain⟨rfl,rfl⟩:=Z;have an:=q1p h7;have W:(execOp a.eval o).run P w=.ok .skip (w.setRow b ⟨cur.toList.take off++(a.eval y).cells.toList++cur.toList.drop (off+(a.eval y).cells.toList.length)⟩):=by
  unfold execOp;simp only[ho,ak];have:=z4t (P:=P) (off:=off) (u:=a.eval y) h1 h6 (by simp at G;omega) (by simp at G an;omega) (q9i h4 T);simp[Instr.storeAt,Instr.sureAddr,this]
 unfold Oper.wp;rw[W];have h8:=h.write (cur':=⟨cur.toList.take off++(a.eval y).cells.toList++cur.toList.drop (off+(a.eval y).cells.toList.length)⟩) (o':=.box (q81 cs off ys)) hg hb (fun w' hA ao=>
  ⟨b,c,_,e,hb,by rw[<-ao];exact setRow_heap w b cur _ e (0,0) h6,z2q (q1r hA _ _ (Xe _) (fun _ _=>rfl) _ _ h7) (q1r hA _ _ (Xe _) (fun _ _=>rfl) _ _ T)⟩)
 exact⟨_,_,h8.put (by simp only[rep]) hd,hK⟩
theorem zk4(h:Rel C s a w β){o:Oper}{t:TypeId}{x y:Operand}{id off n b c:Nat}{k:Con}{cs ys:List AV}{K:St->Prop}{Q:Exit->Act->World->Prop}(ho:o.op=.store t x y)(b3:(x8 s.env y).aU)
 (hb:β id=some (b,c))(b4:a.eval x=.pointer (some ⟨b,n+off,none⟩))(hk:k.k=some n)(hg:q0i s.hp id=some (.con k cs))(hy:qi6 (x8 s.env y).st=some ys)(h1:q19 P t=true)(h2:ys.length=szT P t)(h3:off+ys.length<=cs.length)(h4:ys.all qg3=true)(hd:dok s.nt o.dst=true)
 (hK:K (({s with hp:=q0u s.hp id (.con k (q81 cs off ys))}:St).put o.dst (.v undef))):o.wp P a w (RK C K) Q:=by
 have aj:=qf5 hy (q2c h b3);have W:=q1p aj;rcases h.hp.obj _ (q0k hg)with⟨b',c',us,Z,b5,h6,h7⟩|⟨Z,_⟩
 rotate_left
 . simp only at Z;rw[hb]at Z;cases Z
 simp only at Z;rw[hb]at Z;simp only[Xa,Xb]at Z;obtain⟨rfl,rfl⟩:=Z;have b6:=q1p h7;obtain⟨G,I,T,hl,ak⟩:=k.cells hk h6;have aq:∀b1∈β.inn id,b1≠b:=fun b1 an e=>(h.hp.ib _ (q0k hg) b1 an).2.2.1 _ (q0k hg) c (by rw[e];exact hb);have ar:(⟨G++us++I⟩:Array Value).toList.length=n+us.length+I.length:=by show (G++us++I).length=_;rw[Xg,Xg,hl]
 have a6:(execOp a.eval o).run P w=.ok .skip (w.setRow b ⟨(G++us++I).take (n+off)++(a.eval y).cells.toList++(G++us++I).drop (n+off+(a.eval y).cells.toList.length)⟩):=by
  unfold execOp;simp only[ho,b4];have:=z4t (P:=P) (off:=n+off) (u:=a.eval y) h1 ak (by simp at W;omega) (by simp at W b6 ar⊢;omega) (q9i h4 aj);simp[Instr.storeAt,Instr.sureAddr,this]
 have bi:off+(a.eval y).cells.toList.length<=us.length:=by omega
 have ao:(G++us++I).take (n+off)++(a.eval y).cells.toList++(G++us++I).drop (n+off+(a.eval y).cells.toList.length)=G++(us.take off++(a.eval y).cells.toList++us.drop (off+(a.eval y).cells.toList.length))++I:=by
  rw[Ye G us I,List.take_append,List.take_of_length_le (by omega:G.length<=n+off),List.drop_append,List.drop_eq_nil_of_le (by omega:G.length<=n+off+_),hl,Yb,Yq,show n+off+(a.eval y).cells.toList.length-n=off+(a.eval y).cells.toList.length by omega,
   List.take_append_of_le_length (by omega),List.drop_append_of_le_length (by omega)]
  simp only[Ye]
 rw[ao]at a6;unfold Oper.wp;rw[a6];have h8:=h.write (cur':=⟨G++(us.take off++(a.eval y).cells.toList++us.drop (off+(a.eval y).cells.toList.length))++I⟩) (o':=.con k (q81 cs off ys)) hg hb (fun w' hA b2=>
  .inl ⟨b,c,_,hb,Xf b5 hA.1,k.wr (w:=w) (us:=us) hk hl h6 ak (by simp only[Xg,X5,Yo];omega) (by rw[<-b2];exact setRow_heap w b _ _ T (0,0) ak) (fun b1 an=>by rw[<-b2];exact setRow_other w b b1 _ (aq b1 an)) hA,
   z2q (q1r hA _ _ (Xe _) (fun _ _=>rfl) _ _ h7) (q1r hA _ _ (Xe _) (fun _ _=>rfl) _ _ aj)⟩)
 exact⟨_,_,h8.put (by simp only[rep]) hd,hK⟩
theorem j7p(h:Rel C s a w β){o:Oper}{t:TypeId}{x y:Operand}{id off n:Nat}{k:Con}{cs ys:List AV}{K:St->Prop}{Q:Exit->Act->World->Prop}(Z:o.op=.store t x y)(I:(x8 s.env x).aU)(T:(x8 s.env y).aU)
 (hx:(x8 s.env x).st=.ptr id off)(hk:k.k=some n)(a6:n<=off)(hg:q0i s.hp id=some (.con k cs))(hy:qi6 (x8 s.env y).st=some ys)(h1:q19 P t=true)(h2:ys.length=szT P t)(h3:off-n+ys.length<=cs.length)(h4:ys.all qg3=true)(hd:dok s.nt o.dst=true)
 (hK:K (({s with hp:=q0u s.hp id (.con k (q81 cs (off-n) ys))}:St).put o.dst (.v undef))):o.wp P a w (RK C K) Q:=by
 have G:=q2c h I;rw[hx]at G;simp only[rep]at G;obtain⟨aj,b,c,hb,W⟩:=G;exact zk4 h Z T hb (by rw[W,show n+(off-n)=off by omega]) hk hg hy h1 h2 h3 h4 hd hK
theorem j7o(h:Rel C s a w β){o:Oper}{t:TypeId}{x y:Operand}{id sz i off n:Nat}{k:Con}{cs ys:List AV}{K:St->Prop}{Q:Exit->Act->World->Prop}(ho:o.op=.store t x y)(I:(x8 s.env x).aU)(T:(x8 s.env y).aU)
 (hx:(x8 s.env x).st=.apt id sz i off)(hk:k.k=some n)(W:n=i*sz)(hg:q0i s.hp id=some (.con k cs))(hy:qi6 (x8 s.env y).st=some ys)(h1:q19 P t=true)(h2:ys.length=szT P t)(h3:off+ys.length<=cs.length)(h4:ys.all qg3=true)(hd:dok s.nt o.dst=true)
 (hK:K (({s with hp:=q0u s.hp id (.con k (q81 cs off ys))}:St).put o.dst (.v undef))):o.wp P a w (RK C K) Q:=by
 have G:=q2c h I;rw[hx]at G;simp only[rep]at G;obtain⟨a6,b,c,hb,Z⟩:=G;exact zk4 h ho T hb (by rw[Z,W]) hk hg hy h1 h2 h3 h4 hd hK
theorem za4{b:Nat}:∀{as:List AV} {o:Nat},(∀j,j<as.length->∃u,w.cell? ⟨b,o+j,none⟩=some u/\u.oneCell'=true/\rep w β 0 ow (as.getD j .bk) u)->q4c w β ow b as o
 |[],_,_=>by simp only[q4c]
 |x::xs,o,h=>by
  simp only[q4c];refine⟨by simpa using h 0 (by simp),za4 fun j G=>?_⟩;obtain⟨u,I,T,W⟩:=h (j+1) (by simpa using G);exact⟨u,by rw[show o+1+j=o+(j+1) by omega];exact I,T,by simpa using W⟩
theorem j5t{b:Nat}{as:List AV}{o:Nat}(h:q4c w β ow b as o){j:Nat}(T:j<as.length):∃u,w.cell? ⟨b,o+j,none⟩=some u/\u.oneCell'=true/\rep w β 0 ow (as.getD j .bk) u:=by
 obtain⟨us,G,W,Z⟩:=qq5 h;have hl:=q1p G;have I:us[j]?=some (us.getD j undef):=by rw[Xr,Xo (by omega)];rfl
 exact⟨us.getD j undef,Z j _ I,W _ (X9 I),z00 G j T⟩
theorem z9o{sz b:Nat}:∀{xs:List (List AV)} {o:Nat},(∀i,i<xs.length->(q3l xs i).length=sz/\q4c w β ow b (q3l xs i) (o+i*sz))->q0p w β ow sz b xs o
 |[],_,_=>by simp only[q0p]
 |r::T,o,h=>by
  simp only[q0p];have G:=h 0 (by simp);simp only[q3l,List.getD_cons_zero,Nat.zero_mul,Yy]at G;refine⟨G.1,G.2,z9o fun i hi=>?_⟩;have I:=h (i+1) (by simpa using hi);simp only[q3l,Yx]at I⊢;rw[show o+sz+i*sz=o+(i+1)*sz by rw[Xt];omega];exact I
theorem j4c(l vs:List Value)(p q:Nat)(hp:p<=l.length):(l.take p++vs++l.drop (p+vs.length))[q]?=if q<p then l[q]? else if q<p+vs.length then vs[q-p]? else l[q]?:=by
 have G:(l.take p).length=p:=by rw[X5];omega
 split
 . rw[Ye,Xm (by omega),Xw,if_pos (by omega)]
 split
 . rw[Xm (by rw[Xg,G];omega),Xx (by omega),G]
 rw[Xx (by rw[Xg,G];omega),Yc,Xg,G]
 congr 1
 omega
theorem j7q{ns:List (Option Nat)}(h:Rel C s a w β){o:Oper}{t:TypeId}{x y:Operand}{id sz i off:Nat}{xs:List (List AV)}{ys:List AV}{K:St->Prop}{Q:Exit->Act->World->Prop}(ho:o.op=.store t x y)(b4:(x8 s.env x).aU)(b5:(x8 s.env y).aU)
 (Z:(x8 s.env x).st=.apt id sz i off)(hy:qi6 (x8 s.env y).st=some ys)(hf:z10 s.hp ys)(hg:q0i (q74 (q9w ys) s.hp) id=some (.arr sz xs))(h1:q19 P t=true)(h2:ys.length=szT P t)(h3:i<xs.length/\off+ys.length<=sz)(h4:ys.all qg3=true)
 (h5:(ys.map (frz s.hp)).all qf9=true)(hd:dok s.nt o.dst=true)
 (hK:K (({s with hp:=q0u (q74 (q9w ys) s.hp) id (.arr sz (xs.set i (q81 (q3l xs i) off (q1v ns (ys.map (frz s.hp))))))}:St).put o.dst (.v undef))):o.wp P a w (RK C K) Q:=by
 have aj:=q2c h b4;rw[Z]at aj;simp only[rep]at aj;obtain⟨c6,b,c,hb,b6⟩:=aj;have a6:=qf5 hy (q2c h b5);have ak:=q1p a6;have an:=zb2 h.hp (qd1 (ids:=q9w ys)) (fun j I o' bi=>(z2m.1 bi).2 I) hf a6;have hs:=h.sub (qd1 (ids:=q9w ys));rcases hs.hp.obj _ (q0k hg)with⟨h6,_⟩|⟨b',c',cur,e,h6,h7,h8,h9,bs,ao⟩
 . simp only at h6;rw[hb]at h6;cases h6
 simp only at h6;rw[hb]at h6;simp only[Xa,Xb]at h6;obtain⟨rfl,rfl⟩:=h6;have aq:=qy2 ao i h3.1;have c4:i*sz+off+ys.length<=cur.size:=by
  have:(i+1)*sz<=c*sz:=X0 _ (by omega);rw[Xt]at this;omega
 have G:(a.eval y).cells.toList.length=ys.length:=ak.symm;have ar:(execOp a.eval o).run P w=.ok .skip (w.setRow b ⟨cur.toList.take (i*sz+off)++(a.eval y).cells.toList++cur.toList.drop (i*sz+off+(a.eval y).cells.toList.length)⟩):=by
  unfold execOp;simp only[ho,b6];have:=z4t (P:=P) (off:=i*sz+off) (u:=a.eval y) h1 h7 (by simp at G;omega) (by simp at G;omega) (q9i h4 a6);simp[Instr.storeAt,Instr.sureAddr,this]
 unfold Oper.wp;rw[ar];have bv:=hs.write (cur':=⟨cur.toList.take (i*sz+off)++(a.eval y).cells.toList++cur.toList.drop (i*sz+off+(a.eval y).cells.toList.length)⟩) (o':=.arr sz (xs.set i (q81 (q3l xs i) off (q1v ns (ys.map (frz s.hp)))))) hg hb (fun w' hA b1=>by
  have T:∀q,w'.cell? ⟨b,q,none⟩=(cur.toList.take (i*sz+off)++(a.eval y).cells.toList++cur.toList.drop (i*sz+off+(a.eval y).cells.toList.length))[q]?:=fun q=>by
   rw[<-b1,cell_setRow_same w b q cur _ e (0,0) h7];simp
  have W:∀q,w.cell? ⟨b,q,none⟩=cur.toList[q]?:=fun q=>by rw[cell_of_row w b q cur e (0,0) h7];simp
  have hT:(cur.toList.take (i*sz+off)).length=i*sz+off:=by rw[List.length_take];simp;omega
  refine .inr ⟨b,c,_,e,hb,by rw[<-b1];exact setRow_heap w b cur _ e (0,0) h7,?_,by simpa using h9,bs,?_⟩
  . simp only[List.size_toArray,List.length_append,List.length_take,List.length_drop,Array.length_toList,G]at*;omega
  have c0:=q1r hA _ _ (Nat.le_refl _) (fun _ _=>rfl) _ _ (z4w (ns:=ns) (qi8 h5 an));refine z9o fun k hk=>?_;simp only[List.length_set]at hk;obtain⟨g1,g2⟩:=qy2 ao k hk;simp only[Nat.zero_add]at g2 aq⊢
  by_cases b2:k=i
  .
   subst b2;have e1:q3l (xs.set k (q81 (q3l xs k) off (q1v ns (ys.map (frz s.hp))))) k=q81 (q3l xs k) off (q1v ns (ys.map (frz s.hp))):=by
    simp[q3l,hk]
   rw[e1];obtain⟨us,q1,q0,q2⟩:=qq5 g2;have c3:=q1r hA _ _ (Nat.le_refl _) (fun _ _=>rfl) _ _ q1;have q3:=q1p q1;refine⟨?_,qv7 (z2q (off:=off) c3 c0) (fun x Z=>by
    simp only[List.mem_append]at Z;rcases Z with (Z|Z)|Z
    . exact q0 x (List.mem_of_mem_take Z)
    . exact q9i h4 a6 x Z
    exact q0 x (List.mem_of_mem_drop Z)) fun j u I=>?_⟩
   . simp only[q81,List.length_append,List.length_take,List.length_drop,qj4,List.length_map,g1];omega
   rw[T];have c7:us.length=sz:=by omega
   rw[j4c _ _ _ _ (by omega)]at I;rw[j4c _ _ _ _ (by simp;omega)]
   by_cases c1:j<off
   . rw[if_pos c1]at I;rw[if_pos (by omega),<-W];exact q2 j u I
   rw[if_neg c1]at I;rw[if_neg (by omega)]
   by_cases c2:j<off+(a.eval y).cells.toList.length
   . rw[if_pos c2]at I;rw[if_pos (by omega),show k*sz+j-(k*sz+off)=j-off by omega];exact I
   rw[if_neg c2]at I;rw[if_neg (by omega),<-W];exact q2 j u I
  have e1:q3l (xs.set i (q81 (q3l xs i) off (q1v ns (ys.map (frz s.hp))))) k=q3l xs k:=by
   simp[q3l,Ne.symm b2]
  rw[e1];refine⟨g1,za4 fun j I=>?_⟩;obtain⟨u,q1,q0,q2⟩:=j5t g2 I;refine⟨u,?_,q0,q5w hA _ _ (Nat.le_refl _) (fun _ _=>rfl) _ _ q2⟩;rw[T];rw[W]at q1;rw[g1]at I;rcases Nat.lt_or_ge k i with b3|c5
  . have:(k+1)*sz<=i*sz:=Nat.mul_le_mul_right _ b3;rw[Nat.add_mul]at this;rw[List.append_assoc,List.getElem?_append_left (by rw[hT];omega),List.getElem?_take,if_pos (by omega)];exact q1
  have:(i+1)*sz<=k*sz:=Nat.mul_le_mul_right _ (by omega);rw[Nat.add_mul]at this;rw[List.getElem?_append_right (by rw[List.length_append,hT,G];omega),List.getElem?_drop,List.length_append,hT,G];rw[show i*sz+off+ys.length+(k*sz+j-(i*sz+off+ys.length))=k*sz+j by omega];exact q1)
 exact⟨_,_,bv.put (by simp only[rep]) hd,hK⟩
end
end
section
open Go Go.RowKit
def q2h(P:Program)(t:TypeId):Nat:=((P.info? t).map (·.bytes)).getD 0
def z2i(hp:Hp):AV->Option (Nat×List (List AV)×Prop)
 |.sl sz xs=>some (sz,xs,True)
 |.v (.slice none 0 0)=>some (0,[],True)
 |.osl id sz off len=>match q0i hp id with
  |some (.arr G xs)=>some (sz,(xs.drop off).take len,G=sz/\off+len<=xs.length)
  |_=>none
 |.bsl id off len=>match q0i hp id with
  |some (.box cs)=>some (1,((cs.drop off).take len).map (fun c=>[c]),off+len<=cs.length/\cs.all qg3=true/\cs.all qf9=true)
  |_=>none
 |_=>none
section
variable {P:Program} {C:Ctx P} {s:St} {a:Act} {w:World} {β:aI} {nx:Nat} {A:Nat->Prop} {hp:Hp} {ow:Nat->Prop}
theorem qn0{sz:Nat}:∀{xs:List (List AV)},(∀r∈xs,r.length=sz)->xs.flatten.length=xs.length*sz
 |[],_=>by simp
 |r::I,h=>by
  simp only[Xy,Xg,Yp,qn0 fun r G=>h r (Xj _ G),h r Xv,Xt];omega
theorem qe3{sz b:Nat}:∀{xs:List (List AV)} {o:Nat},q0p w β ow sz b xs o->∀r∈xs,r.length=sz
 |r::I,o,h,x,G=>by
  simp only[q0p]at h;rcases Xc.1 G with rfl|G
  . exact h.1
  exact qe3 h.2.2 x G
theorem qs0{sz b:Nat}:∀{xs:List (List AV)} {o:Nat},q0p w β ow sz b xs o->∃us,y9 w β 0 ow xs.flatten us/\(∀u∈us,u.oneCell'=true)/\∀(j:Nat) (u:Value),us[j]?=some u->w.cell? ⟨b,o+j,none⟩=some u
 |[],o,_=>⟨[],by simp[y9],by simp,by simp⟩
 |r::rs,o,h=>by
  simp only[q0p]at h;obtain⟨us,h1,I,h2⟩:=qq5 h.2.1;obtain⟨vs,h3,T,h4⟩:=qs0 h.2.2;have hl:=q1p h1;refine⟨us++vs,by simp only[Xy];exact q6m h1 h3,fun x hx=>(Ys.1 hx).elim (I x) (T x),?_⟩;intro j u G;rcases Yj j us.length with W|Z
  . rw[Xm W]at G;exact h2 j u G
  rw[Xx Z]at G;have:=h4 _ u G
  rwa [show o+sz+(j-us.length)=o+j by omega]at this
theorem q6u{sz b:Nat}:∀{xs:List (List AV)} {us:List Value} {o:Nat},(∀r∈xs,r.length=sz)->y9 w β 0 ow xs.flatten us->(∀u∈us,u.oneCell'=true)->(∀(j:Nat) (u:Value),us[j]?=some u->w.cell? ⟨b,o+j,none⟩=some u)->q0p w β ow sz b xs o
 |[],_,_,_,_,_,_=>by simp only[q0p]
 |r::rs,us,o,W,h,Z,hu=>by
  have hr:=W r Xv;have I:=q1p h;simp only[Xy,Xg]at I;have h1:=q7o h r.length;have h2:=q9v h r.length;simp only[Xy,List.take_left,List.drop_left]at h1 h2;simp only[q0p];refine⟨hr,qv7 h1 (fun x T=>Z x (Yu T)) fun j u G=>?_,q6u (fun x T=>W x (Xj _ T)) h2 (fun x T=>Z x (Yv T)) fun j u G=>?_⟩
  .
   rw[Xw]at G
   split at G
   . exact hu j u G
   cases G
  rw[Yc]at G;have:=hu _ u G
  rwa [show o+(r.length+j)=o+sz+j by omega]at this
theorem z6z(aj:aV w β nx A hp){y:AV}{sz:Nat}{ys:List (List AV)}{c:Prop}{u:Value}(h:z2i hp y=some (sz,ys,c))(hc:c)(T:rep w β nx (own β hp A) y u):
 ∃ad cap us,u=.slice ad ys.length cap/\y9 w β 0 (own β hp A) ys.flatten us/\(ys=[]\/∀r∈ys,r.length=sz)/\(ad=none->ys=[])/\(∀v∈us,v.oneCell'=true)/\∀x,ad=some x->∀(j:Nat) (v:Value),us[j]?=some v->w.cell? (x.add j)=some v:=by
 unfold z2i at h
 split at h
 .
  simp only[Xa,Xb]at h;obtain⟨rfl,rfl,_⟩:=h;simp only[rep]at T;rcases T with⟨rfl,ad,cap,rfl⟩|⟨b,o,cap,rfl,_,_,_,I⟩
  . exact⟨ad,cap,[],rfl,by simp[y9],.inl rfl,fun _=>rfl,by simp,fun _ _ _ _ G=>by simp at G⟩
  obtain⟨us,h6,ao,h7⟩:=qs0 I;exact⟨_,cap,us,rfl,h6,.inr (qe3 I),(fun Z=>by cases Z),ao,fun x W j v G=>by
   simp only[Xa]at W;subst W;rw[q9g];exact h7 j v G⟩
 . simp only[Xa,Xb]at h;obtain⟨rfl,rfl,_⟩:=h;simp only[rep]at T;exact⟨none,0,[],T,by simp[y9],.inl rfl,fun _=>rfl,by simp,fun _ _ _ _ G=>by simp at G⟩
 .
  rename_i id b5 off len
  split at h
  .
   rename_i b4 xs hg
   simp only[Xa,Xb]at h;obtain⟨rfl,rfl,rfl⟩:=h;obtain⟨rfl,ak⟩:=hc;simp only[rep]at T;have hl:((xs.drop off).take len).length=len:=by simp;omega
   rcases T.2 with⟨h1,rfl,rfl,rfl⟩|⟨b,c,cap,ad,h1,rfl,h2,h3,h4⟩
   . exact⟨none,0,[],by simp,by simp[y9],.inl (by simp),fun _=>by simp,by simp,fun _ _ _ _ G=>by simp at G⟩
   rcases aj.obj _ (q0k hg)with⟨I,_⟩|⟨b',c',cur,e,I,h6,h7,h8,h9,aq⟩
   . simp only at I;rw[h1]at I;cases I
   simp only at I;rw[h1]at I;simp only[Xa,Xb]at I;obtain⟨rfl,rfl⟩:=I;rcases h4 with rfl|h4
   .
    have a6:=qk9 (qs1 aq off) len;rw[Xq]at a6;obtain⟨us,ar,an,b1⟩:=qs0 a6;exact⟨_,cap,us,by rw[hl],ar,.inr (qe3 a6),(fun Z=>by cases Z),an,fun x W j v G=>by
     simp only[Xa]at W;subst W;rw[q9g];exact b1 j v G⟩
   have:len=0:=by omega
   subst this;exact⟨some ad,cap,[],by simp,by simp[y9],.inl (by simp),(fun Z=>by cases Z),by simp,fun _ _ _ _ G=>by simp at G⟩
  cases h
 .
  rename_i id off len
  split at h
  .
   rename_i xs hg
   simp only[Xa,Xb]at h;obtain⟨rfl,rfl,rfl⟩:=h;obtain⟨ak,ho,b2⟩:=hc;simp only[rep]at T;have hl:((xs.drop off).take len).length=len:=by simp;omega
   have b3:(((xs.drop off).take len).map (fun c=>[c])).flatten=(xs.drop off).take len:=by
    generalize (xs.drop off).take len=l
    induction l with
    |nil=>rfl
    |cons x l ih=>simp only[Xi,Xy,ih];rfl
   obtain⟨_,b,C,cap,a,h1,rfl,h2,h3⟩:=T;obtain⟨b',C',cur,e,I,h6,h7⟩:=aj.obj _ (q0k hg);simp only at I;rw[h1]at I;simp only[Xa,Xb]at I;obtain⟨rfl,rfl⟩:=I;have h8:=q7o (q9v (qi8 b2 h7) off) len;refine⟨some a,cap,_,by rw[List.length_map,hl],by rw[b3];exact h8,.inr (fun r T=>by obtain⟨c,_,rfl⟩:=X6.1 T;rfl),(fun Z=>by cases Z),fun v hv=>q9i ho h7 v (Yv (Yu hv)),?_⟩;intro x W j v G;simp only[Xa]at W;subst W;rcases h3 with rfl|h3
   .
    rw[q9g];rw[Xw]at G
    split at G
    .
     rw[Yc]at G;rw[cell_of_row w b (off+j) cur e (0,0) h6]
     simpa using G
    cases G
   subst h3;simp at G
  cases h
 cases h
theorem z6b{size n cap:Nat}{ad:Option Addr}{news:List Value}(G:news.length=n*size)(I:ad=none->news=[])(h:∀x,ad=some x->∀(j:Nat) (v:Value),news[j]?=some v->w.cell? (x.add j)=some v):
 (Builtin.firstCells size n (.slice ad n cap)).run P w=.ok ⟨news⟩ w:=by
 cases ad with
 |none=>rw[I rfl];simp[Builtin.firstCells]
 |some x=>exact run_firstCells_some w size n x n cap news G (h x rfl)
theorem j0u(t ty e:TypeId)(i:TypeInfo)(ht:P.underlying t=some (.slice e))(hi:P.info? e=some i)(g n cap:Nat)(cur:Array Value)(Z:TypeId)(hg:w.heap[g]?=some (.cells cur Z (0,0)))
 (ad:Option Addr)(m c:Nat)(news:List Value)(hl:news.length=m*i.size)(hn:ad=none->news=[])(G:∀x,ad=some x->∀(j:Nat) (v:Value),news[j]?=some v->w.cell? (x.add j)=some v)
 (h1:∀u∈news,u.oneCell'=true)(I:n+m<=cap)(T:n*i.size+news.length<=cur.size):
 (Builtin.append_ #[t,t] ty #[.slice (some ⟨g,0,none⟩) n cap,.slice ad m c]).run P w=
  .ok (.slice (some ⟨g,0,none⟩) (n+m) cap) (w.setRow g (cur.toList.take (n*i.size)++news++cur.toList.drop (n*i.size+news.length)).toArray):=by
 have hf:=z6b (P:=P) (cap:=c) hl hn G;have W:=run_storeCells_at P g (n*i.size) Z news 0 cur w hg (by simpa using T) h1;simp only[Yy]at W;simp[Builtin.append_,run_underlying ht,sizeOf,typeInfo,hi,Builtin.lenOf,I,hf,Addr.add_lit,W]
theorem jp5(t ty e:TypeId)(i:TypeInfo)(z:Value)(ht:P.underlying t=some (.slice e))(hi:P.info? e=some i)(hz:i.zero=some z)(aj:z.cells.size=i.size)
 (v:Value)(n:Nat)(G:List Value)(hv:(v=.slice none 0 0/\n=0/\G=[])\/∃g cap cur e',v=.slice (some ⟨g,0,none⟩) n cap/\w.heap[g]?=some (.cells cur e' (0,0))/\n<=cap/\cap*i.size<=cur.size/\cur.toList.take (n*i.size)=G)
 (ad:Option Addr)(m c:Nat)(news:List Value)(Z:news.length=m*i.size)(hn:ad=none->m=0)(I:∀x,ad=some x->∀(j:Nat) (v:Value),news[j]?=some v->w.cell? (x.add j)=some v)
 (h1:∀u∈news,u.oneCell'=true)(ak:n+m<=maxLen)(hb:(n+m)*i.bytes<=140737488355328):
 (∃g cap cur e',v=.slice (some ⟨g,0,none⟩) n cap/\w.heap[g]?=some (.cells cur e' (0,0))/\n+m<=cap/\(Builtin.append_ #[t,t] ty #[v,.slice ad m c]).run P w=
  .ok (.slice (some ⟨g,0,none⟩) (n+m) cap) (w.setRow g ⟨cur.toList.take (n*i.size)++news++cur.toList.drop (n*i.size+news.length)⟩))\/
 (v=.slice none 0 0/\m=0/\(Builtin.append_ #[t,t] ty #[v,.slice ad m c]).run P w=.ok (.slice none 0 0) w)\/
 (∃nc a6,n+m<=nc/\nc<=maxLen/\(G++news++a6).length=nc*i.size/\(Builtin.append_ #[t,t] ty #[v,.slice ad m c]).run P w=
  .ok (.slice (some ⟨w.heap.size,0,none⟩) (n+m) nc) (w.drew.alloc (.cells ⟨G++news++a6⟩ e))):=by
 have aq:n+m<=9223372036854775807:=by simp only[maxLen]at ak;omega
 have ar:ad=none->news=[]:=fun h0=>Xh (by rw[Z,hn h0];simp);rcases hv with⟨rfl,rfl,rfl⟩|⟨g,cap,cur,e',rfl,hg,b1,b2,W⟩
 .
  by_cases hm:m=0
  . subst hm;refine .inr (.inl ⟨rfl,rfl,?_⟩);have b3:news=[]:=Xh (by simpa using Z);subst b3;have hf:=z6b (P:=P) (w:=w) (size:=i.size) (n:=0) (cap:=c) (ad:=ad) (news:=[]) (by simp) (fun _=>rfl) (fun _ _ _ _ hj=>by simp at hj);simp[Builtin.append_,run_underlying ht,sizeOf,typeInfo,hi,Builtin.lenOf,hf]
  right;right
  cases ad with
  |none=>exact absurd (hn rfl) hm
  |some x=>
   have hr:=run_append_nil (P:=P) w t ty e i z ht hi hz x m c news Z (I x rfl) (by omega) (by omega) (by simp only[Xq]at hb;omega);have b4:=grownCap_ge w m 0 e;refine⟨grownCap w m 0 e,(Builtin.zeroCells z.cells (grownCap w m 0 e-m)).toList,by omega,grownCap_le_maxLen w m 0 e (by omega),?_,?_⟩
   .
    simp only[Yb,Xg,Ya,size_zeroCells,Z,aj,<-Xt]
    congr 1;omega
   rw[hr];simp only[Xq,Yb]
   congr 3
   apply Xs;simp
 have an:G.length=n*i.size:=by
  rw[<-W,X5];have:n*i.size<=cap*i.size:=X0 _ b1;simp;omega
 by_cases T:n+m<=cap
 .
  left
  have ao:n*i.size+news.length<=cur.size:=by rw[Z,<-Xt];exact Yd (X0 _ T) b2
  exact⟨g,cap,cur,e',rfl,hg,T,j0u t ty e i ht hi g n cap cur e' hg ad m c news Z ar I h1 T ao⟩
 right;right
 cases ad with
 |none=>exact absurd (hn rfl) (by omega)
 |some x=>
  have holds:∀(j:Nat) (u:Value),G[j]?=some u->w.cell? ((⟨g,0,none⟩:Addr).add j)=some u:=by
   intro j u hj;rw[q9g,Xq,cell_of_row w g j cur e' (0,0) hg];rw[<-W,Xw]at hj
   split at hj
   . simpa using hj
   cases hj
  have hr:=run_append_grow (P:=P) w t ty e i z ht hi hz ⟨g,0,none⟩ n cap G an holds x m c news Z (I x rfl) (by omega) (by omega) (growslice_fits (by omega) hb);have b4:=grownCap_ge w (n+m) cap e;refine⟨grownCap w (n+m) cap e,(Builtin.zeroCells z.cells (grownCap w (n+m) cap e-(n+m))).toList,by omega,grownCap_le_maxLen w (n+m) cap e ak,?_,?_⟩
  .
   simp only[Xg,Ya,size_zeroCells,Z,an,aj,<-Xt]
   congr 1;omega
  rw[hr]
  congr 3
  apply Xs;simp
end
end
section
open Go Go.RowKit
def j0a(hp:Hp):AV->Option (Nat×List (List AV)×List Nat×Prop)
 |.v (.slice none 0 0)=>some (0,[],[],True)
 |.osl id sz off len=>match q0i hp id with
  |some (.arr G xs)=>some (sz,xs,[id],G=sz/\off=0/\len=xs.length)
  |_=>none
 |_=>none
section
variable {P:Program} {C:Ctx P} {s:St} {a:Act} {w:World} {β:aI} {nx:Nat} {A:Nat->Prop} {hp:Hp} {ow:Nat->Prop}
theorem aV.dC{w':World}(h:aV w β nx A hp){bc:Option (Nat×Nat)}{o:bj}{hp1:Hp}(Z:hp1.Sublist hp)
 (hA:aW w w' (own β hp A) (own (upd β nx bc) ((nx,o)::hp1) A))(hk:∀T,bu β hp1 T->w'.heap[T]?=w.heap[T]?)
 (a6:∀b c,bc=some (b,c)->¬bu β hp1 b/\¬A b)(an:qh9 o=false)(ho:q6f w' (upd β nx bc) (nx+1) (own (upd β nx bc) ((nx,o)::hp1) A) nx o):
 aV w' (upd β nx bc) (nx+1) A ((nx,o)::hp1):=by
 have I:∀p∈hp1,p.1<nx:=fun p hp'=>h.lt p (Z.subset hp');refine⟨?_,?_,?_,?_,?_,?_,?_⟩
 .
  intro p hp';rcases Xc.1 hp' with rfl|hp'
  . exact ho
  exact q47 hA (X3 _) (fun id hid=>q35 _ _ _ _ hid) (I p hp') (fun T ak=>hk T ⟨p,hp',ak⟩) (fun _=>q6c _ _ _ _ (I p hp')) (h.obj p (Z.subset hp'))
 .
  intro p hp';rcases Xc.1 hp' with rfl|hp'
  . exact Xp _
  exact Yz (I p hp')
 . simp only[Xi,Yk];refine⟨?_,(Z.map _).nodup h.nd⟩;intro hm;obtain⟨q,hq,he⟩:=X6.1 hm;exact Nat.ne_of_lt (I q hq) he
 .
  intro p hp1 q G T c1 c2 W h2;rcases Xc.1 hp1 with rfl|hp1<;>rcases Xc.1 G with rfl|G
  . rfl
  . rw[q1i]at W;rw[q35 _ _ _ _ (I q G)]at h2;exact absurd (q9f G h2) (a6 _ _ W).1
  . rw[q1i]at h2;rw[q35 _ _ _ _ (I p hp1)]at W;exact absurd (q9f hp1 W) (a6 _ _ h2).1
  rw[q35 _ _ _ _ (I p hp1)]at W;rw[q35 _ _ _ _ (I q G)]at h2;exact h.inj p (Z.subset hp1) q (Z.subset G) T c1 c2 W h2
 .
  intro p hp1 T c1 W;rcases Xc.1 hp1 with rfl|hp1
  . rw[q1i]at W;exact (a6 _ _ W).2
  rw[q35 _ _ _ _ (I p hp1)]at W;exact h.av p (Z.subset hp1) T c1 W
 .
  intro p hp1 hc;rcases Xc.1 hp1 with rfl|hp1
  . exact qg6 _ _ _
  rw[q6c _ _ _ _ (I p hp1)];exact h.i0 p (Z.subset hp1) hc
 intro p hp1 T hb;rcases Xc.1 hp1 with rfl|hp1
 . rw[qg6]at hb;cases hb
 rw[q6c _ _ _ _ (I p hp1)]at hb;obtain⟨i1,i2,i3,i4⟩:=h.ib p (Z.subset hp1) T hb;refine⟨Xf i1 hA.1,i2,fun q G C hc=>?_,fun q G aj=>?_⟩
 .
  rcases Xc.1 G with rfl|G
  . rw[q1i]at hc;exact (a6 _ _ hc).1 ⟨p,hp1,.inr hb⟩
  rw[q35 _ _ _ _ (I q G)]at hc;exact i3 q (Z.subset G) C hc
 rcases Xc.1 G with rfl|G
 . rw[qg6]at aj;cases aj
 rw[q6c _ _ _ _ (I q G)]at aj;exact i4 q (Z.subset G) aj
theorem Rel.more(h:Rel C s a w β){w':World}{bc:Option (Nat×Nat)}{o:bj}{hp1:Hp}(hs:hp1.Sublist s.hp)(aj:w.heap.size<=w'.heap.size)
 (hK:∀b,b<w.heap.size->(∀c,bc≠some (b,c))->w'.heap[b]?=w.heap[b]?)
 (G:∀b c,bc=some (b,c)->b<w.heap.size->bu β s.hp b/\¬bu β hp1 b)
 (ho:∀ow',aW w w' (own β s.hp C.A) ow'->q6f w' (upd β s.nx bc) (s.nx+1) ow' s.nx o)(h1:w'.os=w.os)(h2:w'.tape=w.tape)(h3:w'.output=w.output/\(dkF=true->w.drawn<=w'.drawn))(ao:qh9 o=false:=by rfl):
 Rel C {s with hp:=(s.nx,o)::hp1,nx:=s.nx+1} a w' (upd β s.nx bc):=by
 have a6:∀b,bu β s.hp b->b<w.heap.size:=fun b ⟨q,Z,I⟩=>h.hp.bB q Z b I;have T:∀b,bu β hp1 b->bu β s.hp b:=fun b ⟨q,Z,I⟩=>⟨q,hs.subset Z,I⟩;have hO:∀b,b<w.heap.size->bu (upd β s.nx bc) ((s.nx,o)::hp1) b->bu β s.hp b:=by
  rintro b hb ⟨q,Z,I⟩;rcases Xc.1 Z with rfl|Z
  . obtain⟨c',I⟩:=z4p I;exact (G b c' I hb).1
  exact⟨q,hs.subset Z,(z4d (h.hp.lt q (hs.subset Z))).1 I⟩
 have ak:∀b,b<w.heap.size->¬bu β s.hp b->w'.heap[b]?=w.heap[b]?:=fun b hb W=>hK b hb fun c I=>W (G b c I hb).1;have hA:aW w w' (own β s.hp C.A) (own (upd β s.nx bc) ((s.nx,o)::hp1) C.A):=
  ⟨aj,fun b W hb=>⟨ak b hb (fun hx=>W (.inr hx)),fun aq=>by
   rcases aq with hh|hh
   . exact W (.inl hh)
   exact W (.inr (hO b hb hh))⟩⟩
 refine h.step (X3 _) (fun id hid=>q35 _ _ _ _ hid) aj ak hO ?_ ?_ h1 h2 h3
 .
  refine h.hp.dC hs hA (fun b hb=>hK b (a6 b (T b hb)) fun c I=>(G b c I (a6 b (T b hb))).2 hb) (fun b c I=>?_) ao (ho _ hA);rcases Yj b w.heap.size with an|b1
  . refine⟨(G b c I an).2,fun hx=>?_⟩;obtain⟨q,Z,ar⟩:=(G b c I an).1;exact h.hp.ca q Z b ar hx
  refine⟨fun hx=>?_,fun hx=>?_⟩
  . have:=a6 b (T b hx);omega
  have:=h.alt b hx;have:=h.ext.size;omega
 intro p hp;rcases Xc.1 hp with rfl|hp
 . exact .inr (Xe _)
 exact .inl (Xk (hs.subset hp))
theorem qd2{e:TypeId}(G:q19 P e=true):∃i,P.info? e=some i/\i.size=szT P e/\i.bytes=q2h P e:=by
 obtain⟨i,d,hi,_,I⟩:=z0e G;exact⟨i,hi,I,by simp[q2h,hi]⟩
theorem z6q{o:Oper}{I:Call}{b:Builtin}{x y:Operand}{ts:List TypeId}(Z:o.op=.call I)(T:I.callee=.builtin b)(G:I.args.toList=[x,y])(W:I.argTypes.toList=ts)(hb:b=.append):
 (execOp a.eval o).run P w=((Builtin.append_ ⟨ts⟩ o.type #[a.eval x,a.eval y]).run P w).andThen fun v w'=> .ok (.value v) w':=by
 have e2:I.args=#[x,y]:=Xs G;have e3:I.argTypes=⟨ts⟩:=Xs W;subst hb;unfold execOp;simp only[Z];simp[resolve,T,e2,e3,invoke,builtin]
theorem zu3(h:Rel C s a w β){o:Oper}{cl:Call}{x y:Operand}{t e:TypeId}{szx szy:Nat}{xs ys:List (List AV)}{ids:List Nat}{cb cs:Prop}{zs:List Value}{K:St->Prop}{Q:Exit->Act->World->Prop}
 (ho:o.op=.call cl)(dK:cl.callee=.builtin .append)(b4:cl.args.toList=[x,y])(dL:cl.argTypes.toList=[t,t])(dM:(x8 s.env x).aU)(dN:(x8 s.env y).aU)
 (I:j0a s.hp (x8 s.env x).st=some (szx,xs,ids,cb))(dO:cb)(c2:z2i s.hp (x8 s.env y).st=some (szy,ys,cs))(dP:cs)(he:aO P t=some e)(hT:q19 P e=true)
 (hz:q1w P e=some zs)(dQ:zs.length=szT P e)(hx:ids=[]\/szx=szT P e)(hy:ys=[]\/szy=szT P e)(c3:0<q2h P e)(c4:(xs.length+ys.length)*q2h P e<=140737488355328)(hd:dok s.nt o.dst=true)
 (hK:K (({s with hp:=(s.nx,.arr (szT P e) (xs++ys))::q74 ids s.hp,nx:=s.nx+1}:St).put o.dst (.osl s.nx (szT P e) 0 (xs.length+ys.length)))):o.wp P a w (RK C K) Q:=by
 obtain⟨i,hi,T,dR⟩:=qd2 hT;have c5:xs.length+ys.length<=maxLen:=by
  have:xs.length+ys.length<=(xs.length+ys.length)*q2h P e:=Nat.le_mul_of_pos_right _ c3;simp only[maxLen];omega
 unfold q1w at hz;simp only[Xd,Xu]at hz;obtain⟨z,⟨i',hi',hz⟩,rfl⟩:=hz;rw[hi]at hi';simp only[Xa]at hi';subst hi';have dS:z.cells.size=i.size:=by rw[T,<-dQ];simp
 obtain⟨ad,cap,us,hu,hL,W,b5,ar,aq⟩:=z6z h.hp c2 dP (q2c h dN);have c6:us.length=ys.length*i.size:=by
  rw[<-q1p hL,T];rcases W with rfl|W
  . simp
  rcases hy with rfl|rfl
  . simp
  exact qn0 W
 have dT:ys=[]\/∀r∈ys,r.length=szT P e:=by
  rcases W with Z|Z
  . exact .inl Z
  rcases hy with h1|h1
  . exact .inl h1
  exact .inr (by rw[<-h1];exact Z)
 have c7:∀r∈ys,r.length=szT P e:=by
  rcases dT with rfl|Z
  . simp
  exact Z
 have a6:=q2c h dM;have b1:=z6q (P:=P) (a:=a) (w:=w) ho dK b4 dL rfl
 have hv:∃G,(a.eval x=.slice none 0 0/\xs.length=0/\G=[]\/∃g cap cur e',a.eval x=.slice (some ⟨g,0,none⟩) xs.length cap/\w.heap[g]?=some (.cells cur e' (0,0))/\xs.length<=cap/\cap*i.size<=cur.size/\cur.toList.take (xs.length*i.size)=G)/\
  y9 w β 0 (own β s.hp C.A) xs.flatten G/\(∀u∈G,u.oneCell'=true)/\(∀r∈xs,r.length=szT P e)/\
  (∀g cap,a.eval x=.slice (some ⟨g,0,none⟩) xs.length cap->∃c cur e',cur.size=c*szT P e/\cap<=c/\c<=maxLen/\w.heap[g]?=some (.cells cur e' (0,0))/\bu β s.hp g/\¬bu β (q74 ids s.hp) g):=by
  unfold j0a at I
  split at I
  .
   rename_i heq
   simp only[Xa,Xb]at I;obtain⟨rfl,rfl,rfl,_⟩:=I;rw[heq]at a6;simp only[rep]at a6;exact⟨[],.inl ⟨a6,rfl,rfl⟩,by simp[y9],by simp,by simp,fun g cap hg=>by rw[a6]at hg;cases hg⟩
  .
   rename_i id sz off len heq
   split at I
   .
    rename_i dU c8 hg
    simp only[Xa,Xb]at I;obtain⟨rfl,rfl,rfl,rfl⟩:=I;obtain⟨rfl,rfl,rfl⟩:=dO;have c9:dU=szT P e:=by
     rcases hx with hx|hx
     . cases hx
     exact hx
    subst c9;rw[heq]at a6;simp only[rep]at a6;rcases a6.2 with⟨h1,_,h2,h3⟩|⟨b,c,b2,e7,h1,h2,h3,h4,h5⟩
    . have dV:c8=[]:=Xh h2;subst dV;exact⟨[],.inl ⟨h3,rfl,rfl⟩,by simp[y9],by simp,by simp,fun g cap hg=>by rw[h3]at hg;cases hg⟩
    rcases h.hp.obj _ (q0k hg)with⟨h6,_⟩|⟨b',c',cur,e',h6,h7,h8,h9,dW,b6⟩
    . simp only at h6;rw[h1]at h6;cases h6
    simp only at h6;rw[h1]at h6;simp only[Xa,Xb]at h6;obtain⟨rfl,rfl⟩:=h6;rcases h5 with rfl|⟨_,h5⟩
    .
     obtain⟨G,cc,cd,dX⟩:=qs0 b6;have e8:G.length=c8.length*i.size:=by rw[<-q1p cc,T];exact qn0 (qe3 b6)
     have d0:b2*i.size<=cur.size:=by rw[h8,T];exact X0 _ (by omega)
     refine⟨G,.inr ⟨b,b2,cur,e',by rw[h2];simp,h7,h3,d0,?_⟩,cc,cd,qe3 b6,fun g dY bi=>?_⟩
     .
      apply List.ext_getElem?;intro j;rw[Xw]
      split
      .
       rename_i hj
       have d1:j<G.length:=by omega
       have d2:=dX j _ (Xo d1);rw[Xq,cell_of_row w b j cur e' (0,0) h7]at d2;rw[Xo d1]
       simpa using d2
      rename_i hj
      rw[Yt (by omega)]
     rw[h2]at bi;simp only[Value.slice.injEq,Xa,Addr.mk.injEq]at bi;obtain⟨⟨rfl,_⟩,_,rfl⟩:=bi;refine⟨c,cur,e',h8,by omega,dW,h7,q9f (q0k hg) h1,?_⟩;rintro⟨q,hq,d3⟩;have d4:=z2m.1 hq;have:=h.hp.bf q d4.1 _ (q0k hg) b d3 (.inl ⟨c,h1⟩);exact d4.2 (by rw[this];simp)
    exact absurd rfl h5
   cases I
  cases I
 obtain⟨G,hv,d5,dZ,d6,e0⟩:=hv;have bs:G.length=xs.length*i.size:=by rw[<-q1p d5,T];exact qn0 d6
 have d7:∀r∈xs++ys,r.length=szT P e:=fun r hr=>(Ys.1 hr).elim (d6 r) (c7 r);have an:∀(w':World) (ow':Nat->Prop) (b:Nat),aW w w' (own β s.hp C.A) ow'->(∀(j:Nat) (u:Value),(G++us)[j]?=some u->w'.cell? ⟨b,0+j,none⟩=some u)->
  q0p w' (upd β s.nx (some (b,0))) ow' (szT P e) b (xs++ys) 0:=fun w' ow' b hA hc=>by
  refine q6u d7 ?_ (fun u hu=>(Ys.1 hu).elim (dZ u) (ar u)) hc;rw[List.flatten_append];exact q1r hA 0 0 (Xe _) (fun _ hi=>absurd hi (Yi _)) _ _ (q6m d5 hL)
 have aj:∀(w':World) (bc:Option (Nat×Nat)) (v:Value),(Builtin.append_ #[t,t] o.type #[a.eval x,a.eval y]).run P w=.ok v w'->
  Rel C {s with hp:=(s.nx,.arr (szT P e) (xs++ys))::q74 ids s.hp,nx:=s.nx+1} a w' (upd β s.nx bc)->
  rep w' (upd β s.nx bc) (s.nx+1) (own (upd β s.nx bc) ((s.nx,.arr (szT P e) (xs++ys))::q74 ids s.hp) C.A) (.osl s.nx (szT P e) 0 (xs.length+ys.length)) v->o.wp P a w (RK C K) Q:=by
  intro w' bc v hr hR e1;unfold Oper.wp;rw[b1,show (⟨[t,t]⟩:Array TypeId)=#[t,t]from rfl,hr];exact⟨_,_,hR.put e1 hd,hK⟩
 rw[hu]at b1 aj;rcases jp5 (P:=P) (w:=w) t o.type e i z (q0l he) hi hz dS (a.eval x) xs.length G hv ad ys.length cap us c6 (fun Z=>by rw[b5 Z];rfl) aq ar c5 (by rw[dR];exact c4)with
  ⟨g,cp,cur,e',ao,hg,bv,hr⟩|⟨ao,hm,hr⟩|⟨nc,d8,b3,dc,dd,hr⟩
 .
  obtain⟨c,e6,e2,e9,d3,e3,c0,e4,e5⟩:=e0 g cp ao;rw[hg]at c0;simp only[Xa,Obj.cells.injEq,and_true]at c0;obtain⟨rfl,rfl⟩:=c0;have holds:cur.toList.take (xs.length*i.size)=G:=by
   rcases hv with⟨Z,_⟩|⟨g',ea,cur',eb,Z,h1,_,_,h2⟩
   . rw[ao]at Z;cases Z
   rw[ao]at Z;simp only[Value.slice.injEq,Xa,Addr.mk.injEq]at Z;obtain⟨⟨rfl,_⟩,_⟩:=Z;rw[hg]at h1;simp only[Xa,Obj.cells.injEq,and_true]at h1;obtain⟨rfl,rfl⟩:=h1;exact h2
  have dk:(xs.length+ys.length)*i.size<=c*i.size:=X0 _ (by omega);rw[Xt,<-c6,T]at dk;rw[T]at hr holds bs;refine aj _ (some (g,c)) _ hr (h.more qd1 (by simp) (fun b _ hb=>setRow_other w g b _ (fun he=>hb c (by rw[he]))) (fun b c' ak _=>by
   simp only[Xa,Xb]at ak;rw[<-ak.1];exact⟨e4,e5⟩) (fun ow' hA=>?_) rfl rfl ⟨rfl,fun _=>by first|exact Xe _|exact X3 _⟩) ?_
  .
   refine .inr ⟨g,c,_,e',q1i _ _ _,setRow_heap w g cur _ e' (0,0) hg,?_,by rw[Xg];omega,e3,?_⟩
   . simp only[List.size_toArray,Xg,X5,Yo,Ya];omega
   have:=an _ ow' g hA (fun j u hj=>by
    rw[Xq,cell_setRow_same w g j cur _ e' (0,0) hg];simp only[Yh];rw[holds,Xm (Xz.1 hj).1];exact hj)
   exact q26 (aW.refl _ _) _ _ (fun _ _ hx=>hx) _ _ this
  simp only[rep];exact⟨Xp _,.inr ⟨g,c,cp,⟨g,0,none⟩,q1i _ _ _,rfl,bv,by omega,.inl (by simp)⟩⟩
 .
  have ds:ys=[]:=Xh hm;have dI:xs.length=0:=by
   rcases hv with⟨_,Z,_⟩|⟨g,cp,cur,e',Z,_⟩
   . exact Z
   rw[ao]at Z;cases Z
  have c1:xs=[]:=Xh dI;refine aj w none _ hr (h.more (qd1) (Xe _) (fun _ _ _=>rfl) (fun b c ak=>by cases ak) (fun ow' _=>?_) rfl rfl ⟨rfl,fun _=>by first|exact Xe _|exact X3 _⟩) ?_
  . exact .inl ⟨q1i _ _ _,by rw[ds,c1];rfl⟩
  simp only[rep];exact⟨Xp _,.inl ⟨q1i _ _ _,by trivial,by omega,by trivial⟩⟩
 have dJ:w.heap.size<=(w.drew.alloc (.cells ⟨G++us++d8⟩ e)).heap.size:=by simp
 refine aj _ (some (w.heap.size,nc)) _ hr (h.more qd1 dJ (fun b hb _=>Below.heap_alloc w.drew _ b hb) (fun b c ak hb=>by simp only[Xa,Xb]at ak;omega) (fun ow' hA=>?_) rfl rfl ⟨rfl,fun _=>by first|exact Xe _|exact X3 _⟩) ?_
 .
  refine .inr ⟨w.heap.size,nc,_,e,q1i _ _ _,heap_alloc_new w.drew _,?_,by rw[Xg];exact b3,dc,?_⟩
  . rw[<-T,<-dd];simp
  have:=an _ ow' w.heap.size hA (fun j u hj=>by
   rw[Xq,cell_of_row _ w.heap.size j _ e (0,0) (heap_alloc_new w.drew _)];simp only[Yh];rw[Xm (Xz.1 hj).1];exact hj)
  exact q26 (aW.refl _ _) _ _ (fun _ _ hx=>hx) _ _ this
 simp only[rep];exact⟨Xp _,.inr ⟨w.heap.size,nc,nc,⟨w.heap.size,0,none⟩,q1i _ _ _,rfl,b3,by omega,.inl (by simp)⟩⟩
end
end
end Go.Proofs.YtomicnbiniapfaaGreat

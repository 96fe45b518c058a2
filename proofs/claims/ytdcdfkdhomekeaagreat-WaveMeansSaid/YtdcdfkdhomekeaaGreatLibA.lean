/-
  The states and values that the verification conditions speak of, and that each operation of the model keeps to them. No condition beyond those that each theorem names.
-/
import Derived.WalkKit
import Derived.Laws.BytesArg
import Derived.Maps.Keyed
set_option linter.unusedSimpArgs false
set_option linter.unusedVariables false
set_option linter.unusedSectionVars false
open Option renaming some.injEq->Xa,map_eq_some_iff->Xd,bind_eq_some_iff->Xt,isSome_iff_exists->Ym,map_some->Y3
open Prod renaming mk.injEq->Xb
open List renaming mem_cons->Xc,length_append->Xg,eq_nil_of_length_eq_zero->Xh,map_cons->Xi,mem_cons_of_mem->Xj,mem_map_of_mem->Xk,getElem?_append_left->Xm,getElem?_eq_getElem->Xn,getD_eq_getElem?_getD->Xq,mem_cons_self->Xu,getElem?_take->Xv,getElem?_append_right->Xw,flatten_cons->Xx,getElem?_eq_some_iff->Xy,length_take->X4,mem_map->X5,mem_of_getElem?->X8,nil_append->Ya,getElem?_drop->Yb,append_assoc->Yd,getElem?_map->Ye,all_cons->Yf,getElem?_toArray->Yg,nodup_cons->Yj,length_drop->Yn,length_cons->Yo,append_nil->Yq,mem_append->Yr,getElem?_eq_none->Ys,mem_of_mem_take->Yt,mem_of_mem_drop->Yu,take_succ_cons->Yv,getD_cons_succ->Yw,range->Y0
open Nat renaming le_refl->Xe,lt_of_lt_of_le->Xf,lt_succ_self->Xo,zero_add->Xp,add_mul->Xs,mul_le_mul_right->Xz,le_succ->X0,le_trans->Yc,not_lt_zero->Yh,lt_or_ge->Yi,add_assoc->Yl,add_sub_cancel_left->Yp,add_zero->Yx,lt_succ_of_lt->Yy,zero_le->Yz
open Array renaming getElem?_eq_some_iff->Xl,ext'->Xr,length_toList->X9
open Bool renaming and_eq_true->X3,false_eq_true->X6
open Int renaming natCast_zero->X7,toNat_of_nonneg->Yk
namespace Go.Proofs.YtdcdfkdhomekeaaGreat
section
open Go Go.RowKit
inductive AV where
 |v(x:Value)
 |ptr(id off:Nat)
 |apt(id sz i off:Nat)
 |sl(sz:Nat)(xs:List (List AV))
 |osl(id sz off len:Nat)
 |bsl(id off len:Nat)
 |el(sz:Nat)(xs:List (List AV))(i off:Nat)
 |agg(cs:List AV)
 |tup(xs:List AV)
 |clo(f:FuncId)(cap:List AV)
 |grd(g:Bool)(a:AV)
 |mp(id:Nat)
 |erb(g:Bool)
 |bU
structure aF where
 f:Nat->Option (Nat×Nat)
 inn:Nat->List Nat
def noG:aF:=⟨λ_=>none,λ_=>[]⟩
instance:CoeFun aF λ_=>Nat->Option (Nat×Nat):=⟨aF.f⟩
mutual
def rep(w:World)(β:aF)(nx:Nat)(ow:Nat->Prop):AV->Value->Prop
 |.v x,u=>u=x
 |.ptr id off,u=>id<nx/\∃b C,β id=some (b,C)/\u=.pointer (some ⟨b,off,none⟩)
 |.apt id sz i off,u=>id<nx/\∃b C,β id=some (b,C)/\u=.pointer (some ⟨b,i*sz+off,none⟩)
 |.sl sz xs,u=>(xs=[]/\∃a cap,u=.slice a 0 cap)\/∃b o cap,u=.slice (some ⟨b,o,none⟩) xs.length cap/\xs.length<=cap/\¬ow b/\b<w.heap.size/\q0p w β ow sz b xs o
 |.osl id sz off len,u=>id<nx/\((β id=none/\off=0/\len=0/\u=.slice none 0 0)\/
  ∃b C cap a,β id=some (b,C)/\u=.slice (some a) len cap/\len<=cap/\off+cap<=C/\(a=⟨b,off*sz,none⟩\/cap=0/\off≠0))
 |.bsl id off len,u=>id<nx/\∃b C cap a,β id=some (b,C)/\u=.slice (some a) len cap/\len<=cap/\(a=⟨b,off,none⟩\/len=0)
 |.el sz xs i off,u=>∃b o,u=.pointer (some ⟨b,o+i*sz+off,none⟩)/\¬ow b/\b<w.heap.size/\q0p w β ow sz b xs o
 |.agg cs,u=>∃l,u=.agg ⟨l⟩/\y8 w β nx ow cs l
 |.tup cs,u=>∃l,u=.tuple ⟨l⟩/\y8 w β nx ow cs l
 |.clo f cs,u=>∃l,u=.func (.func f) #[] ⟨l⟩/\y8 w β nx ow cs l
 |.grd g a,u=>(g=true->rep w β nx ow a u)/\(g=false->u=undef)
 |.mp id,u=>id<nx/\∃b C,β id=some (b,C)/\u=.map (some b)
 |.erb g,u=>(g=true->u=.nilIface)/\(g=false->∃t p,u=.iface t p)
 |.bU,_=>True
def y8(w:World)(β:aF)(nx:Nat)(ow:Nat->Prop):List AV->List Value->Prop
 |[],[]=>True
 |a::as,u::us=>rep w β nx ow a u/\y8 w β nx ow as us
 |_,_=>False
def q4e(w:World)(β:aF)(ow:Nat->Prop)(b:Nat):List AV->Nat->Prop
 |[],_=>True
 |a::as,o=>(∃u,w.cell? ⟨b,o,none⟩=some u/\u.oneCell'=true/\rep w β 0 ow a u)/\q4e w β ow b as (o+1)
def q0p(w:World)(β:aF)(ow:Nat->Prop)(sz b:Nat):List (List AV)->Nat->Prop
 |[],_=>True
 |r::c,o=>r.length=sz/\q4e w β ow b r o/\q0p w β ow sz b c (o+sz)
end
def b9(w w':World)(ow ow':Nat->Prop):Prop:=w.heap.size<=w'.heap.size/\∀b,¬ow b->b<w.heap.size->w'.heap[b]?=w.heap[b]?/\¬ow' b
section mono
variable {w w':World} {β β':aF} {nx nx':Nat} {ow ow':Nat->Prop}
mutual
theorem q5i(j:b9 w w' ow ow'):∀(nx nx':Nat),nx<=nx'->(∀id,id<nx->β' id=β id)->∀(a:AV) (u:Value),rep w β nx ow a u->rep w' β' nx' ow' a u
 |nx,nx',c,hb,.v x,u,h=>by simpa only[rep]using h
 |nx,nx',c,hb,.ptr id off,u,h=>by
  simp only[rep]at h⊢;obtain⟨d,b,C,e,k⟩:=h;exact⟨Xf d c,b,C,(hb id d).trans e,k⟩
 |nx,nx',c,hb,.apt id sz i off,u,h=>by
  simp only[rep]at h⊢;obtain⟨d,b,C,e,k⟩:=h;exact⟨Xf d c,b,C,(hb id d).trans e,k⟩
 |nx,nx',c,hb,.sl sz xs,u,h=>by
  simp only[rep]at h⊢;rcases h with h|⟨b,o,cap,d,e,k,m,p⟩
  . exact .inl h
  exact .inr ⟨b,o,cap,d,e,(j.2 b k m).2,Xf m j.1,q29 j sz b (λo u q=>(World.cell?_of_block (w:=w) (a:=⟨b,o,none⟩) (j.2 b k m).1).trans q) xs o p⟩
 |nx,nx',c,hb,.osl id sz off len,u,h=>by
  simp only[rep]at h⊢;obtain⟨d,e⟩:=h;refine⟨Xf d c,?_⟩;rcases e with⟨e,k⟩|⟨b,C,cap,a,e,k⟩
  . exact .inl ⟨(hb id d).trans e,k⟩
  exact .inr ⟨b,C,cap,a,(hb id d).trans e,k⟩
 |nx,nx',c,hb,.bsl id off len,u,h=>by
  simp only[rep]at h⊢;obtain⟨d,b,C,cap,a,e,k⟩:=h;exact⟨Xf d c,b,C,cap,a,(hb id d).trans e,k⟩
 |nx,nx',c,hb,.el sz xs i off,u,h=>by
  simp only[rep]at h⊢;obtain⟨b,o,d,k,m,p⟩:=h;exact⟨b,o,d,(j.2 b k m).2,Xf m j.1,q29 j sz b (λo u q=>(World.cell?_of_block (w:=w) (a:=⟨b,o,none⟩) (j.2 b k m).1).trans q) xs o p⟩
 |nx,nx',c,hb,.agg cs,u,h=>by
  simp only[rep]at h⊢;obtain⟨l,d,e⟩:=h;exact⟨l,d,q1x j nx nx' c hb cs l e⟩
 |nx,nx',c,hb,.tup cs,u,h=>by
  simp only[rep]at h⊢;obtain⟨l,d,e⟩:=h;exact⟨l,d,q1x j nx nx' c hb cs l e⟩
 |nx,nx',c,hb,.clo f cs,u,h=>by
  simp only[rep]at h⊢;obtain⟨l,d,e⟩:=h;exact⟨l,d,q1x j nx nx' c hb cs l e⟩
 |nx,nx',c,hb,.grd g a,u,h=>by
  simp only[rep]at h⊢;exact⟨λs=>q5i j nx nx' c hb a u (h.1 s),h.2⟩
 |nx,nx',c,hb,.mp id,u,h=>by
  simp only[rep]at h⊢;obtain⟨d,b,C,e,k⟩:=h;exact⟨Xf d c,b,C,(hb id d).trans e,k⟩
 |nx,nx',c,hb,.erb g,u,h=>by simpa only[rep]using h
 |nx,nx',c,hb,.bU,u,h=>by simp only[rep]
theorem q1x(j:b9 w w' ow ow'):∀(nx nx':Nat),nx<=nx'->(∀id,id<nx->β' id=β id)->∀(as:List AV) (us:List Value),y8 w β nx ow as us->y8 w' β' nx' ow' as us
 |nx,nx',c,hb,[],[],h=>by simp only[y8]
 |nx,nx',c,hb,a::as,u::us,h=>by
  simp only[y8]at h⊢;exact⟨q5i j nx nx' c hb a u h.1,q1x j nx nx' c hb as us h.2⟩
 |nx,nx',c,hb,[],u::us,h=>by simp only[y8]at h
 |nx,nx',c,hb,a::as,[],h=>by simp only[y8]at h
theorem z9x(j:b9 w w' ow ow')(b:Nat)(hb:∀o u,w.cell? ⟨b,o,none⟩=some u->w'.cell? ⟨b,o,none⟩=some u):∀(as:List AV) (o:Nat),q4e w β ow b as o->q4e w' β' ow' b as o
 |[],o,h=>by simp only[q4e]
 |a::as,o,h=>by
  simp only[q4e]at h⊢;obtain⟨⟨u,d,t,e⟩,k⟩:=h;exact⟨⟨u,hb o u d,t,q5i j 0 0 (Xe _) (λ_ hi=>absurd hi (Yh _)) a u e⟩,z9x j b hb as (o+1) k⟩
theorem q29(j:b9 w w' ow ow')(sz b:Nat)(hb:∀o u,w.cell? ⟨b,o,none⟩=some u->w'.cell? ⟨b,o,none⟩=some u):∀(n:List (List AV)) (o:Nat),q0p w β ow sz b n o->q0p w' β' ow' sz b n o
 |[],o,h=>by simp only[q0p]
 |r::n,o,h=>by
  simp only[q0p]at h⊢;exact⟨h.1,z9x j b hb r o h.2.1,q29 j sz b hb n (o+sz) h.2.2⟩
end
end mono
def jf7(w:World)(b:Nat)(ok:Value->Prop)(a:List Value)(c:Option Nat)(us:List Value):Prop:=
 ∃d clock,w.heap[b]?=some (.map d clock)/\d.toList.map (·.key)=a/\a.Nodup/\(∀x∈a,ok x)/\∀i,c=some i->∃u,us=[u]/\(d.toList[i]?).map (·.val)=some u
structure Con where
 k:Option Nat
 P:World->Nat->Nat->List Nat->(Nat->Prop)->List Value->Prop
 N:Prop
 raw:Bool:=false
 mpk:Option ((Value->Prop)×List Value×Option Nat):=none
 mpl:∀{w:World} {b C:Nat} {L:List Nat} {ow:Nat->Prop} {us:List Value} {ok:Value->Prop} {ks:List Value} {foc:Option Nat},mpk=some (ok,ks,foc)->P w b C L ow us->jf7 w b ok ks foc us:=by intros;contradiction
 mono:∀{w w':World} {b C:Nat} {L:List Nat} {ow ow':Nat->Prop} {us:List Value},b9 w w' ow ow'->(∀b',b'=b\/b'∈L->w'.heap[b']?=w.heap[b']?)->P w b C L ow us->P w' b C L ow' us
 cells:∀{w:World} {b C:Nat} {L:List Nat} {ow:Nat->Prop} {us:List Value} {n:Nat},k=some n->P w b C L ow us->∃hd tl T,hd.length=n/\w.heap[b]?=some (.cells ⟨hd++us++tl⟩ T (0,0))
 wr:∀{w w':World} {b C:Nat} {L:List Nat} {ow ow':Nat->Prop} {us us' hd tl:List Value} {T:TypeId} {n:Nat},k=some n->hd.length=n->P w b C L ow us->w.heap[b]?=some (.cells ⟨hd++us++tl⟩ T (0,0))->us'.length=us.length->
  w'.heap[b]?=some (.cells ⟨hd++us'++tl⟩ T (0,0))->(∀b'∈L,w'.heap[b']?=w.heap[b']?)->b9 w w' ow ow'->P w' b C L ow' us'
def z5c(e:TypeId):Con where
 k:=some 0
 P w b _ _ _ us:=w.heap[b]?=some (.cells ⟨us⟩ e (0,0))
 N:=False
 mono _ d h:=(d _ (.inl rfl)).trans h
 cells a h:=⟨[],[],e,by simpa using a,by rw[Ya,Yq];exact h⟩
 wr {w w' b C L ow ow' us f hd g T n} a j h c o l _ _:=by
  simp only[Xa]at a;subst a;obtain rfl:=Xh j;rw[h]at c;simp only[Ya,Xa,Obj.cells.injEq,Array.mk.injEq,and_true]at c;obtain⟨m,rfl⟩:=c;have:g=[]:=Xh (by have:=congrArg List.length m;simp at this;simpa using this);subst this
  simpa using l
theorem ju7{e:TypeId}:(z5c e).k=some 0:=rfl
theorem ja8{e:TypeId}:(z5c e).raw=false:=rfl
theorem ju8{e:TypeId}:(z5c e).N=False:=rfl
def j4z(T E:TypeId)(l:List UInt8):Con where
 k:=some 2
 P w b _ L _ us:=∃p v,w.heap[b]?=some (.cells ⟨p::v::us⟩ T (0,0))/\(p=.pointer none\/p=.pointer (some ⟨b,0,none⟩))/\
  ((v=.slice none 0 0/\l=[])\/∃g cap cur,0<cap/\g∈L/\g≠b/\v=.slice (some ⟨g,0,none⟩) l.length cap/\w.heap[g]?=some (.cells cur E (0,0))/\l.length<=cap/\cap<=maxLen/\cur.size=cap/\∀(j:Nat) x,l[j]?=some x->cur[j]?=some (.int .u8 x.toNat))
 N:=False
 mono:=λ_ q ⟨p,v,a,d,e⟩=>⟨p,v,(q _ (.inl rfl)).trans a,d,e.imp id λ⟨g,cap,cur,g0,g1,g2,g3,f,m⟩=>⟨g,cap,cur,g0,g1,g2,g3,(q _ (.inr g1)).trans f,m⟩⟩
 cells:=λc ⟨p,v,a,_⟩=>⟨[p,v],[],T,by simpa using c,by rw[Yq];exact a⟩
 wr:=λ{w w' b C L ow ow' us u hd s I n} c y ⟨p,v,a,d,e⟩ o J t z _=>by
  simp only[Xa]at c;subst c;rw[a]at o;simp only[Xa,Obj.cells.injEq,and_true]at o;obtain⟨A,B⟩:=o;have D:[p,v]++us=hd++(us++s):=by simpa using A
  obtain⟨G,H⟩:=List.append_inj D (by simpa using y.symm);have:s=[]:=Xh (by have:=congrArg List.length H;simp at this;simpa using this);subst G B this;rw[Yq]at t;exact⟨p,v,t,d,e.imp id λ⟨g,cap,cur,g0,g1,g2,g3,f,m⟩=>⟨g,cap,cur,g0,g1,g2,g3,(z _ g1).trans f,m⟩⟩
theorem ju9{T E:TypeId}{l:List UInt8}:(j4z T E l).k=some 2:=rfl
theorem jb3{T E:TypeId}{l:List UInt8}:(j4z T E l).raw=false:=rfl
theorem jv0{T E:TypeId}{l:List UInt8}:(j4z T E l).N=False:=rfl
def gd:Con where
 k:=none
 P _ _ _ _ _ _:=False
 N:=True
 raw:=true
 mono _ _ h:=h.elim
 cells a _:=by cases a
 wr a _ _ _ _ _ _ _:=by cases a
theorem j6y:gd.raw=true:=rfl
inductive bT where
 |box(cs:List AV)
 |arr(sz:Nat)(xs:List (List AV))
 |con(K:Con)(ex:List AV)
def qb2:bT->Bool|.con .. =>true|_=>false
abbrev Hp:=List (Nat×bT)
def bof(β:aF)(id b:Nat):Prop:=(∃C,β id=some (b,C))\/b∈β.inn id
def cn(β:aF)(hp:Hp)(b:Nat):Prop:=∃q∈hp,bof β q.1 b
def own(β:aF)(hp:Hp)(A:Nat->Prop)(b:Nat):Prop:=A b\/cn β hp b
def q5u(w:World)(β:aF)(nx:Nat)(ow:Nat->Prop)(id:Nat):bT->Prop
 |.box cs=>∃b C cur e,β id=some (b,C)/\w.heap[b]?=some (.cells cur e (0,0))/\y8 w β nx ow cs cur.toList
 |.arr sz xs=>(β id=none/\xs=[])\/∃b C cur e,β id=some (b,C)/\w.heap[b]?=some (.cells cur e (0,0))/\cur.size=C*sz/\xs.length<=C/\C<=maxLen/\q0p w β ow sz b xs 0
 |.con K a=>(∃b C us,β id=some (b,C)/\b<w.heap.size/\K.P w b C (β.inn id) ow us/\y8 w β nx ow a us)\/(β id=none/\K.N/\a=[])
structure b8(w:World)(β:aF)(nx:Nat)(A:Nat->Prop)(hp:Hp):Prop where
 obj:∀p∈hp,q5u w β nx (own β hp A) p.1 p.2
 lt:∀p∈hp,p.1<nx
 nd:(hp.map (·.1)).Nodup
 inj:∀p∈hp,∀q∈hp,∀b C C',β p.1=some (b,C)->β q.1=some (b,C')->p.1=q.1
 av:∀p∈hp,∀b C,β p.1=some (b,C)->¬A b
 i0:∀p∈hp,qb2 p.2=false->β.inn p.1=[]
 ib:∀p∈hp,∀b∈β.inn p.1,b<w.heap.size/\¬A b/\(∀q∈hp,∀C,β q.1≠some (b,C))/\∀q∈hp,b∈β.inn q.1->q.1=p.1
def dkF:Bool:=true
structure Ext(w0:World)(β0:aF)(nx0:Nat)(hp0:Hp)(w:World)(β:aF)(nx:Nat)(hp:Hp):Prop where
 nx:nx0<=nx
 gh:∀id,id<nx0->β id=β0 id
 gi:∀id,id<nx0->id∉hp0.map (·.1)->β.inn id=β0.inn id
 ids:∀p∈hp,p.1∈hp0.map (·.1)\/nx0<=p.1
 blk:∀p∈hp,∀b,bof β p.1 b->cn β0 hp0 b\/w0.heap.size<=b
 os:w.os=w0.os
 tape:w.tape=w0.tape
 output:w.output=w0.output/\(dkF=true->w0.drawn<=w.drawn)
 size:w0.heap.size<=w.heap.size
 keep:∀b,b<w0.heap.size->¬cn β0 hp0 b->w.heap[b]?=w0.heap[b]?
structure St where
 nb:Nat
 env:List (Nat×AV)
 hp:Hp
 nx:Nat
 nt:Nat
def q17:List (Nat×AV)->Nat->AV
 |[],_=> .bU
 |(k,a)::r,t=>if k=t then a else q17 r t
def eT:List (String×(List Value->Prop)):=
 [("internal/strconv.uint64pow10",λcs=>cs=(Y0 20).map λk=> .int .u64 ((10^k:Nat):Int)),
  ("strconv.ErrSyntax",λcs=>∃t p,cs=[.iface t p]),
  ("strconv.ErrRange",λcs=>∃t p,cs=[.iface t p]),
  ("internal/bytealg.MaxLen",λcs=>∃m,cs=[.int .i64 m]),
  ("strings.asciiSpace",λcs=>cs=(Y0 256).map λk=> .int .u8 (if k=9\/k=10\/k=11\/k=12\/k=13\/k=32 then 1 else 0))]
def GLW(P:Program)(w:World):Prop:=∀q∈eT,∀g,P.globalNamed q.1=some g->∃cs e z,w.heap[g]?=some (.cells cs e z)/\q.2 cs.toList
structure GS(P:Program)(w:World)(β:aF)(hp:Hp):Prop where
 gl:GLW P w
 off:∀q∈eT,∀g,P.globalNamed q.1=some g->¬cn β hp g
theorem GLW.lt{P:Program}{w:World}(h:GLW P w){q}(a:q∈eT){g:Nat}(b:P.globalNamed q.1=some g):g<w.heap.size:=
 let ⟨_,_,_,c,_⟩:=h q a g b
 (Xl.1 c).1
theorem GLW.none{P:Program}{w:World}(h:eT.all (λq=>(P.globalNamed q.1).isNone)=true):GLW P w:=λq a g b=>by
 have:=List.all_eq_true.1 h q a;rw[b]at this;cases this
theorem GS.ext{P:Program}{w0 w:World}{β0 β:aF}{nx0 nx:Nat}{hp0 hp:Hp}(h:GS P w0 β0 hp0)(c:Ext w0 β0 nx0 hp0 w β nx hp):GS P w β hp where
 gl:=λq a g b=>
  let ⟨cs,e,z,d,f⟩:=h.gl q a g b
  ⟨cs,e,z,(c.keep g (h.gl.lt a b) (h.off q a g b)).trans d,f⟩
 off:=λq a g b ⟨p,hp,hb⟩=>(c.blk p hp g hb).elim (h.off q a g b) λj=>absurd (h.gl.lt a b) (Nat.not_lt.2 j)
theorem GS.sub{P:Program}{w:World}{β β':aF}{hp hp':Hp}(h:GS P w β hp)(a:∀b,cn β' hp' b->cn β hp b):GS P w β' hp':=⟨h.gl,λq c g d hb=>h.off q c g d (a g hb)⟩
structure Ctx(P:Program) where
 w0:World
 β0:aF
 nx0:Nat
 hp0:Hp
 A:Nat->Prop
 nt:Nat
structure Rel{P:Program}(C:Ctx P)(s:St)(a:Act)(w:World)(β:aF):Prop where
 df:a.defers=[]
 nt:a.tmps.size=s.nt
 env:∀t,rep w β s.nx (own β s.hp C.A) (q17 s.env t) (a.tmps.getD t undef)
 hp:b8 w β s.nx C.A s.hp
 ext:Ext C.w0 C.β0 C.nx0 C.hp0 w β s.nx s.hp
 alt:∀b,C.A b->b<w.heap.size
 gs:GS P C.w0 C.β0 C.hp0
 nb:C.nx0=s.nb
 ntc:s.nt=C.nt
def u7(P:Program)(f:FuncId):Bool:=match P.funcs[f]? with
 |some fn=>!(fn.name=="runtime.NumGoroutine")&&fn.body.isSome
 |none=>false
def cx(P:Program)(f:FuncId)(args:Array Value)(w:World)(Q:Ending->World->Prop):Prop:=
 (u7 P f=true->Calls P f args w Q)/\(u7 P f=false->∃v w',(callFunc f args).run P w=.ok (.value v) w'/\Q (.returned v) w')
theorem cx.mono{P:Program}{f:FuncId}{args:Array Value}{w:World}{Q a:Ending->World->Prop}(h:cx P f args w Q)(b:∀e w',Q e w'->a e w'):cx P f args w a:=
 ⟨λhb=>(h.1 hb).mono b,λhb=>let ⟨v,w',c,d⟩:=h.2 hb;⟨v,w',c,b _ _ d⟩⟩
theorem cx.of{P:Program}{f:FuncId}{args:Array Value}{w:World}{Q:Ending->World->Prop}(hb:u7 P f=true)(h:Calls P f args w Q):cx P f args w Q:=
 ⟨λ_=>h,λa=>by rw[hb]at a;cases a⟩
def Spec(P:Program)(f:FuncId)(args:List AV)(hp:Hp)(nx:Nat)(Q:AV->Hp->Nat->Prop):Prop:=
 ∀(w:World) (β:aF) (A:Nat->Prop) (vs:List Value),(∀b,A b->b<w.heap.size)->y8 w β nx (own β hp A) args vs->b8 w β nx A hp->GS P w β hp->
  cx P f ⟨vs⟩ w λe w'=>∃v r hp' nx' β',e=.returned v/\Q r hp' nx'/\rep w' β' nx' (own β' hp' A) r v/\b8 w' β' nx' A hp'/\Ext w β nx hp w' β' nx' hp'
theorem Spec.mono{P:Program}{f:FuncId}{args:List AV}{hp:Hp}{nx:Nat}{Q b:AV->Hp->Nat->Prop}(h:Spec P f args hp nx Q)(c:∀r hp' nx',Q r hp' nx'->b r hp' nx'):Spec P f args hp nx b:=
 λw β A vs d g j k=>(h w β A vs d g j k).mono λ_ _ ⟨v,r,hp',nx',β',e,q,a⟩=>⟨v,r,hp',nx',β',e,c _ _ _ q,a⟩
theorem b8.blt{w:World}{β:aF}{nx:Nat}{A:Nat->Prop}{hp:Hp}(h:b8 w β nx A hp):∀p∈hp,∀b C,β p.1=some (b,C)->b<w.heap.size:=by
 intro p hp' b C hb;have:=h.obj p hp'
 cases d:p.2 with
 |box cs=>
  rw[d]at this;obtain⟨f,g,cur,e,a,c,_⟩:=this;rw[hb]at a;simp only[Xa,Xb]at a;rw[<-a.1]at c;exact (Xl.1 c).1
 |arr sz xs=>
  rw[d]at this;rcases this with⟨a,_⟩|⟨f,g,cur,e,a,c,_⟩
  . rw[hb]at a;cases a
  rw[hb]at a;simp only[Xa,Xb]at a;rw[<-a.1]at c;exact (Xl.1 c).1
 |con K j=>
  rw[d]at this;rcases this with⟨f,g,us,a,c,_⟩|⟨a,_⟩
  . rw[hb]at a;simp only[Xa,Xb]at a;rw[a.1];exact c
  rw[hb]at a;cases a
theorem b8.cC{w:World}{β:aF}{nx:Nat}{A:Nat->Prop}{hp:Hp}(h:b8 w β nx A hp):∀p∈hp,∀b,bof β p.1 b->b<w.heap.size:=λp hp b hb=>hb.elim (λ⟨C,a⟩=>h.blt p hp b C a) (λhi=>(h.ib p hp b hi).1)
theorem b8.dM{w:World}{β:aF}{nx:Nat}{A:Nat->Prop}{hp:Hp}(h:b8 w β nx A hp):∀p∈hp,∀b,bof β p.1 b->¬A b:=λp hp b hb=>hb.elim (λ⟨C,a⟩=>h.av p hp b C a) (λhi=>(h.ib p hp b hi).2.1)
theorem b8.bD{w:World}{β:aF}{nx:Nat}{A:Nat->Prop}{hp:Hp}(h:b8 w β nx A hp):∀p∈hp,∀q∈hp,∀b,bof β p.1 b->bof β q.1 b->p.1=q.1:=λp hp q c b d e=>by
 rcases d with⟨C,f⟩|d<;>rcases e with⟨g,a⟩|e
 . exact h.inj p hp q c b C g f a
 . exact absurd f ((h.ib q c b e).2.2.1 p hp C)
 . exact absurd a ((h.ib p hp b d).2.2.1 q c g)
 exact ((h.ib p hp b d).2.2.2 q c e).symm
theorem q7p{β:aF}{hp:Hp}{p:Nat×bT}{b C:Nat}(hp1:p∈hp)(h:β p.1=some (b,C)):cn β hp b:=⟨p,hp1,.inl ⟨C,h⟩⟩
theorem q48{w w':World}{β β':aF}{nx nx':Nat}{ow ow':Nat->Prop}(g:b9 w w' ow ow')(m:nx<=nx')(hb:∀id,id<nx->β' id=β id)
 {id:Nat}(hid:id<nx){o:bT}(j:∀b,bof β id b->w'.heap[b]?=w.heap[b]?)(hi:qb2 o=true->β'.inn id=β.inn id)(h:q5u w β nx ow id o):q5u w' β' nx' ow' id o:=by
 cases o with
 |box cs=>
  obtain⟨b,C,cur,e,c,d,f⟩:=h;exact⟨b,C,cur,e,(hb id hid).trans c,(j b (.inl ⟨C,c⟩)).trans d,q1x g nx nx' m hb _ _ f⟩
 |arr sz xs=>
  rcases h with⟨c,d⟩|⟨b,C,cur,e,c,d,f,k,n,p⟩
  . exact .inl ⟨(hb id hid).trans c,d⟩
  exact .inr ⟨b,C,cur,e,(hb id hid).trans c,(j b (.inl ⟨C,c⟩)).trans d,f,k,n,q29 g sz b (λo u q=>(World.cell?_of_block (w:=w) (a:=⟨b,o,none⟩) (j b (.inl ⟨C,c⟩))).trans q) xs 0 p⟩
 |con K t=>
  rcases h with⟨b,C,us,c,d,f,k⟩|⟨c,d,f⟩
  . refine .inl ⟨b,C,us,(hb id hid).trans c,Xf d g.1,?_,q1x g nx nx' m hb _ _ k⟩;rw[hi rfl];exact K.mono g (λs l=>j s (l.elim (λe=> .inl ⟨C,by rw[e];exact c⟩) .inr)) f
  exact .inr ⟨(hb id hid).trans c,d,f⟩
end
section
open Go Go.RowKit
def AV.st:AV->AV|.grd _ a=>a|a=>a
def AV.aZ:AV->Prop|.grd g _=>g=true|_=>True
theorem q1n{w:World}{β:aF}{nx:Nat}{ow:Nat->Prop}{a:AV}{u:Value}(h:rep w β nx ow a u)(b:a.aZ):rep w β nx ow a.st u:=by
 cases a<;>first|exact h|(simp only[rep]at h;exact h.1 b)
def y9(env:List (Nat×AV)):Operand->AV
 |.tmp t=>q17 env t
 |.const v=> .v v
 |.global g=> .v (.pointer (some ⟨g,0,none⟩))
 |.func f=> .clo f []
def szT(P:Program)(t:TypeId):Nat:=((P.info? t).map (·.size)).getD 0
def q1b(P:Program)(t:TypeId):Bool:=(P.info? t).isSome&&(P.underlying t).isSome
def q5b(P:Program)(t:TypeId):Bool:=match P.underlying t with|some (.struct _)|some (.array _ _)=>true|_=>false
def qt6(P:Program)(t:TypeId):Option IntKind:=match P.underlying t with|some (.int k)=>some k|_=>none
def aK(P:Program)(t:TypeId):Option TypeId:=match P.underlying t with|some (.slice e)=>some e|_=>none
def qc9(P:Program)(t:TypeId):Option (Nat×TypeId):=match P.underlying t with|some (.array n e)=>some (n,e)|_=>none
def q0c(P:Program)(t:TypeId)(f:Nat):Option (Nat×TypeId):=match P.underlying t with|some (.struct fs)=>(fs[f]?).map λf=>(f.offset,f.type)|_=>none
def z0t(k:IntKind)(a b:Int):Int:=k.wrap (BitVec.ofInt k.bits a &&& BitVec.ofInt k.bits b).toNat
def orI(k:IntKind)(a b:Int):Int:=k.wrap (BitVec.ofInt k.bits a ||| BitVec.ofInt k.bits b).toNat
def j7x(k:IntKind)(a b:Int):Int:=k.wrap (BitVec.ofInt k.bits a ^^^ BitVec.ofInt k.bits b).toNat
def j39(k:IntKind)(a b:Int):Int:=k.wrap (BitVec.ofInt k.bits a &&& ~~~ BitVec.ofInt k.bits b).toNat
def jq0(k:IntKind)(a b:Int):Int:=k.wrap (a*2^(min b.toNat k.bits))
def q2p(k:IntKind)(a b:Int):Int:=a.fdiv (2^(min b.toNat k.bits))
def j51(op:BinOp):AV->AV->Option (Prop×AV)
 |.v (.int k a),.v (.int k' b)=>match op with
  |.add=>some (k=k',.v (.int k (k.wrap (a+b))))
  |.sub=>some (k=k',.v (.int k (k.wrap (a-b))))
  |.mul=>some (k=k',.v (.int k (k.wrap (a*b))))
  |.quo=>some (k=k'/\b≠0,.v (.int k (k.wrap (a.tdiv b))))
  |.rem=>some (k=k'/\b≠0,.v (.int k (a.tmod b)))
  |.and=>some (k=k',.v (.int k (z0t k a b)))
  |.or=>some (k=k',.v (.int k (orI k a b)))
  |.xor=>some (k=k',.v (.int k (j7x k a b)))
  |.andNot=>some (k=k',.v (.int k (j39 k a b)))
  |.shl=>some (0<=b,.v (.int k (jq0 k a b)))
  |.shr=>some (0<=b,.v (.int k (q2p k a b)))
  |.eql=>some (k=k',.v (.bool (a==b)))
  |.neq=>some (k=k',.v (.bool (a !=b)))
  |.lss=>some (k=k',.v (.bool (decide (a<b))))
  |.leq=>some (k=k',.v (.bool (decide (a<=b))))
  |.gtr=>some (k=k',.v (.bool (decide (a>b))))
  |.geq=>some (k=k',.v (.bool (decide (a ≥ b))))
 |_,_=>none
theorem j50{P:Program}{w:World}{β:aF}{nx:Nat}{ow:Nat->Prop}{op:BinOp}{t:TypeId}{g j:Operand}{x y r:AV}{c:Prop}{u v:Value}
 (h:j51 op x y=some (c,r))(d:c)(e:rep w β nx ow x u)(f:rep w β nx ow y v):
 ∃z,(do eqGuard op t g j u v;binOp op t u v:Sem Value).run P w=.ok z w/\rep w β nx ow r z:=by
 unfold j51 at h
 split at h
 . rename_i k a k' b
   simp only[rep]at e f;subst e f
   cases op<;>simp only[Xa,Xb]at h<;>obtain⟨rfl,rfl⟩:=h<;>
    first
    |(refine⟨_,?_,by simp only[rep];rfl⟩;subst d;simp[eqGuard,binOp,Op.intArith,Op.intCmp,Op.intBits,z0t,orI,j7x,j39];done)
    |(obtain⟨rfl,hb⟩:=d;refine⟨_,?_,by simp only[rep];rfl⟩;simp[eqGuard,binOp,Op.intDiv,hb];done)
    |(refine⟨_,?_,by simp only[rep];rfl⟩;have hb:¬b<0:=by omega
      simp[eqGuard,binOp,Op.shift,hb,jq0,q2p];done)
 cases h
end
section
open Go Go.RowKit
def q0i:Hp->Nat->Option bT
 |[],_=>none
 |(k,o)::r,id=>if k=id then some o else q0i r id
theorem q0k:∀{hp:Hp} {id:Nat} {o:bT},q0i hp id=some o->(id,o)∈hp
 |[],_,_,h=>by simp[q0i]at h
 |(k,o')::r,id,o,h=>by
  unfold q0i at h
  split at h
  . rename_i a;subst a;simp only[Xa]at h;subst h;exact Xu
  exact Xj _ (q0k h)
section
variable {w:World} {β:aF} {nx:Nat} {ow:Nat->Prop}
theorem b9.refl(w:World)(ow:Nat->Prop):b9 w w ow ow:=⟨Xe _,λ_ h _=>⟨rfl,h⟩⟩
theorem q1t:∀{as:List AV} {us:List Value},y8 w β nx ow as us->as.length=us.length
 |[],[],_=>rfl
 |_::_,_::_,h=>by simp only[y8]at h;simp[q1t h.2]
 |[],_::_,h=>by simp only[y8]at h
 |_::_,[],h=>by simp only[y8]at h
theorem qv3:∀{as:List AV} {us:List Value},y8 w β nx ow as us->∀(j:Nat),j<as.length->rep w β nx ow (as.getD j .bU) (us.getD j undef)
 |a::as,u::us,h,0,_=>by simp only[y8]at h;exact h.1
 |a::as,u::us,h,j+1,b=>by simp only[y8]at h;simpa using qv3 h.2 j (by simpa using b)
 |[],_,_,_,b=>by simp at b
 |_::_,[],h,_,_=>by simp only[y8]at h
theorem q7z:∀{as:List AV} {us:List Value},y8 w β nx ow as us->∀(k:Nat),y8 w β nx ow (as.drop k) (us.drop k)
 |[],[],_,k=>by simp[y8]
 |a::as,u::us,h,0=>h
 |a::as,u::us,h,k+1=>by simp only[y8]at h;simpa using q7z h.2 k
 |[],_::_,h,_=>by simp only[y8]at h
 |_::_,[],h,_=>by simp only[y8]at h
theorem q6r:∀{as:List AV} {us:List Value},y8 w β nx ow as us->∀(k:Nat),y8 w β nx ow (as.take k) (us.take k)
 |[],[],_,k=>by simp[y8]
 |a::as,u::us,h,0=>by simp[y8]
 |a::as,u::us,h,k+1=>by simp only[y8]at h;simp only[Yv,y8];exact⟨h.1,q6r h.2 k⟩
 |[],_::_,h,_=>by simp only[y8]at h
 |_::_,[],h,_=>by simp only[y8]at h
theorem q5x:∀{as b:List AV} {us vs:List Value},y8 w β nx ow as us->y8 w β nx ow b vs->y8 w β nx ow (as++b) (us++vs)
 |[],_,[],_,_,h=>h
 |a::as,b,u::us,vs,h,c=>by simp only[y8]at h;simp only[List.cons_append,y8];exact⟨h.1,q5x h.2 c⟩
 |[],_,_::_,_,h,_=>by simp only[y8]at h
 |_::_,_,[],_,h,_=>by simp only[y8]at h
theorem qk6{b:Nat}:∀{as:List AV} {o:Nat},q4e w β ow b as o->∃us,y8 w β 0 ow as us/\(∀u∈us,u.oneCell'=true)/\∀(j:Nat) (u:Value),us[j]?=some u->w.cell? ⟨b,o+j,none⟩=some u
 |[],o,_=>⟨[],by simp[y8],by simp,by simp⟩
 |a::as,o,h=>by
  simp only[q4e]at h;obtain⟨⟨u,e,f,g⟩,k⟩:=h;obtain⟨us,l,m,n⟩:=qk6 k;refine⟨u::us,by simp only[y8];exact⟨g,l⟩,λx d=>by
   rcases Xc.1 d with rfl|d
   . exact f
   exact m x d,?_⟩
  intro j v c
  cases j with
  |zero=>simp at c;subst c;simpa using e
  |succ j=>
   simp at c;have:=n j v c
   rwa [show o+1+j=o+(j+1) by omega]at this
theorem zp1{as:List AV}{us:List Value}(h:y8 w β 0 ow as us):y8 w β nx ow as us:=
 q1x (b9.refl w ow) 0 nx (Yz _) (λ_ hi=>absurd hi (Yh _)) as us h
def q3g(xs:List (List AV))(i:Nat):List AV:=xs.getD i []
theorem qs5{sz b:Nat}:∀{xs:List (List AV)} {o:Nat},q0p w β ow sz b xs o->∀(i:Nat),i<xs.length->(q3g xs i).length=sz/\q4e w β ow b (q3g xs i) (o+i*sz)
 |r::a,o,h,0,_=>by simp only[q0p]at h;simpa [q3g]using ⟨h.1,h.2.1⟩
 |r::a,o,h,i+1,hi=>by
  simp only[q0p]at h;have:=qs5 h.2.2 i (by simpa using hi);simp only[q3g,Yw]at this⊢;rw[show o+(i+1)*sz=o+sz+i*sz by rw[Xs];omega];exact this
 |[],_,_,_,hi=>by simp at hi
end
section
variable {P:Program} {w:World} {β:aF} {nx:Nat} {ow:Nat->Prop}
theorem qx0{t:TypeId}(h:q1b P t=true):∃i d,P.info? t=some i/\P.underlying t=some d/\i.size=szT P t:=by
 simp only[q1b,X3,Ym]at h;obtain⟨⟨i,hi⟩,⟨d,hd⟩⟩:=h;exact⟨i,d,hi,hd,by simp[szT,hi]⟩
theorem qf6{t:TypeId}(h:q1b P t=true):(isAgg t).run P w=.ok (q5b P t) w:=by
 obtain⟨i,d,hi,hd,a⟩:=qx0 h;unfold isAgg q5b;simp only[Sem.run_bind,run_underlying hd,Result.andThen_ok,hd]
 cases d<;>rfl
theorem run_sizeOf{t:TypeId}(h:q1b P t=true):(sizeOf t).run P w=.ok (szT P t) w:=by
 obtain⟨i,d,hi,hd,a⟩:=qx0 h;simp[sizeOf,typeInfo,hi,a]
def q8t(P:Program)(t:TypeId)(cs:List AV)(off:Nat):Prop×AV:=
 if q5b P t=true then (q1b P t=true/\off+szT P t<=cs.length,.agg ((cs.drop off).take (szT P t)))else (q1b P t=true/\off<cs.length,cs.getD off .bU)
theorem qi6{t:TypeId}{cs:List AV}{us:List Value}{b o off:Nat}(g:y8 w β nx ow cs us)(k:∀(j:Nat) (u:Value),us[j]?=some u->w.cell? ⟨b,o+j,none⟩=some u)
 (c:(q8t P t cs off).1):∃z,(loadVar t ⟨b,o+off,none⟩).run P w=.ok z w/\rep w β nx ow (q8t P t cs off).2 z:=by
 have q:=q1t g;unfold q8t at c⊢
 by_cases e:q5b P t=true
 .
  simp only[e,if_true]at c⊢;obtain⟨f,a⟩:=c;have m:((us.drop off).take (szT P t)).length=szT P t:=by simp;omega
  have l:=run_loadCells_list (P:=P) w ⟨b,o+off,none⟩ ((us.drop off).take (szT P t)) (by
   intro j u d;rw[Xv]at d
   split at d
   .
    rw[Yb]at d;have:=k _ _ d;unfold Addr.add
    split
    . rename_i n;subst n;simpa using this
    simpa [Yl]using this
   cases d)
  rw[m]at l;refine⟨.agg ⟨(us.drop off).take (szT P t)⟩,?_,?_⟩
  . unfold loadVar;simp[qf6 f,e,run_sizeOf f,l]
  simp only[rep];exact⟨_,rfl,q6r (q7z g off) _⟩
 simp only[e]at c⊢;obtain⟨f,a⟩:=c;have p:us[off]?=some (us.getD off undef):=by
  rw[Xq,Xn (by omega)];rfl
 refine⟨us.getD off undef,?_,by simpa using qv3 g off a⟩;unfold loadVar;simp[qf6 f,e,k _ _ p]
end
def z99(P:Program)(hp:Hp)(t:TypeId):AV->Option (Prop×AV)
 |.ptr id off=>match q0i hp id with
  |some (.box cs)=>some (q8t P t cs off)
  |some (.con K cs)=>match K.k with
   |some n=>some (n<=off/\(q8t P t cs (off-n)).1,(q8t P t cs (off-n)).2)
   |none=>none
  |_=>none
 |.apt id sz i off=>match q0i hp id with
  |some (.arr a xs)=>some ((a=sz/\i<xs.length)/\(q8t P t (q3g xs i) off).1,(q8t P t (q3g xs i) off).2)
  |some (.con K cs)=>match K.k with
   |some n=>some (n=i*sz/\(q8t P t cs off).1,(q8t P t cs off).2)
   |none=>none
  |_=>none
 |.el _ xs i off=>some (i<xs.length/\(q8t P t (q3g xs i) off).1,(q8t P t (q3g xs i) off).2)
 |_=>none
theorem j0s{w:World}{β:aF}{nx:Nat}{A:Nat->Prop}{hp:Hp}(c:b8 w β nx A hp){id n b C:Nat}{K:Con}{cs:List AV}(l:q0i hp id=some (.con K cs))(m:K.k=some n)(hb:β id=some (b,C)):
 ∃us,y8 w β nx (own β hp A) cs us/\∀(j:Nat) v,us[j]?=some v->w.cell? ⟨b,n+j,none⟩=some v:=by
 rcases c.obj _ (q0k l)with⟨s,t,cur,a,_,o,p⟩|⟨a,_⟩
 .
  rw[hb]at a;simp only[Xa,Xb]at a;obtain⟨rfl,rfl⟩:=a;obtain⟨hd,f,T,q,d⟩:=K.cells m o;refine⟨cur,p,λj v g=>?_⟩;have e:=(Xy.1 g).1;rw[cell_of_row w b (n+j) ⟨hd++cur++f⟩ T (0,0) d]
  show (hd++cur++f).toArray[n+j]?=_
  rw[Yg,Yd,Xw (by omega),q,Yp,Xm e];exact g
 rw[hb]at a;cases a
theorem z9z{P:Program}{w:World}{β:aF}{nx:Nat}{A:Nat->Prop}{hp:Hp}(l:b8 w β nx A hp){t:TypeId}{a r:AV}{c:Prop}{u:Value}
 (h:z99 P hp t a=some (c,r))(m:c)(k:rep w β nx (own β hp A) a u):∃z,(Instr.loadAt t u).run P w=.ok z w/\rep w β nx (own β hp A) r z:=by
 unfold z99 at h
 split at h
 .
  rename_i id off
  split at h
  .
   rename_i cs q
   simp only[Xa]at h;simp only[rep]at k;obtain⟨s,b,C,hb,rfl⟩:=k;have D:=l.obj _ (q0k q);obtain⟨J,L,cur,e,g,E,p⟩:=D;rw[hb]at g;simp only[Xa,Xb]at g;obtain⟨rfl,rfl⟩:=g;have:=qi6 (P:=P) (t:=t) (b:=b) (o:=0) (off:=off) p (λj v M=>by
    rw[Xp,cell_of_row w b j cur e (0,0) E];simpa using M) (by rw[h];exact m)
   obtain⟨z,d,f⟩:=this;refine⟨z,?_,by rw[h]at f;exact f⟩;simp only[Xp]at d;simp[Instr.loadAt,Instr.sureAddr,d]
  .
   rename_i K cs q
   split at h
   .
    rename_i n G
    simp only[Xa,Xb]at h;obtain⟨rfl,rfl⟩:=h;obtain⟨B,m⟩:=m;simp only[rep]at k;obtain⟨s,b,C,hb,rfl⟩:=k;have key:=j0s l q G hb;obtain⟨cur,p,y⟩:=key;obtain⟨z,d,f⟩:=qi6 (P:=P) (t:=t) (b:=b) (o:=n) (off:=off-n) p y m;refine⟨z,?_,f⟩;rw[show n+(off-n)=off by omega]at d;simp[Instr.loadAt,Instr.sureAddr,d]
   cases h
  cases h
 .
  rename_i id sz i off
  split at h
  .
   rename_i N xs q
   simp only[Xa,Xb]at h;obtain⟨rfl,rfl⟩:=h;obtain⟨⟨rfl,hi⟩,hp1⟩:=m;simp only[rep]at k;obtain⟨s,b,C,hb,rfl⟩:=k;have D:=l.obj _ (q0k q);rcases D with⟨g,E⟩|⟨J,L,cur,e,g,E,_,_,_,p⟩
   . simp only at g;rw[hb]at g;cases g
   simp only at g;rw[hb]at g;simp only[Xa,Xb]at g;obtain⟨rfl,rfl⟩:=g;obtain⟨us,H,_,I⟩:=qk6 (qs5 p i hi).2;obtain⟨z,d,f⟩:=qi6 (P:=P) (t:=t) (off:=off) (zp1 (nx:=nx) H) I hp1;refine⟨z,?_,f⟩;simp only[Xp]at d;simp[Instr.loadAt,Instr.sureAddr,d]
  .
   rename_i K cs q
   split at h
   .
    rename_i n G
    simp only[Xa,Xb]at h;obtain⟨rfl,rfl⟩:=h;obtain⟨B,m⟩:=m;simp only[rep]at k;obtain⟨s,b,C,hb,rfl⟩:=k;obtain⟨cur,p,y⟩:=j0s l q G hb;obtain⟨z,d,f⟩:=qi6 (P:=P) (t:=t) (b:=b) (o:=n) (off:=off) p y m;refine⟨z,?_,f⟩;rw[B]at d;simp[Instr.loadAt,Instr.sureAddr,d]
   cases h
  cases h
 .
  rename_i sz xs i off
  simp only[Xa,Xb]at h;obtain⟨rfl,rfl⟩:=h;obtain⟨hi,hp1⟩:=m;simp only[rep]at k;obtain⟨b,o,rfl,_,_,p⟩:=k;obtain⟨us,H,_,I⟩:=qk6 (qs5 p i hi).2;obtain⟨z,d,f⟩:=qi6 (P:=P) (t:=t) (off:=off) (zp1 (nx:=nx) H) I hp1;refine⟨z,?_,f⟩;simp[Instr.loadAt,Instr.sureAddr,d]
 cases h
end
section
open Go Go.RowKit
section
variable {P:Program} {w:World} {β:aF} {nx:Nat} {ow:Nat->Prop}
def j16(k:Nat):AV->Option AV
 |.ptr id off=>some (.ptr id (off+k))
 |.apt id sz i off=>some (.apt id sz i (off+k))
 |.el sz xs i off=>some (.el sz xs i (off+k))
 |_=>none
theorem zj3{k:Nat}{a r:AV}{u:Value}(h:j16 k a=some r)(c:rep w β nx ow a u):∃b o,u=.pointer (some ⟨b,o,none⟩)/\rep w β nx ow r (.pointer (some ⟨b,o+k,none⟩)):=by
 unfold j16 at h
 split at h
 . simp only[Xa]at h;subst h;simp only[rep]at c⊢;obtain⟨f,b,C,d,e⟩:=c;exact⟨b,_,e,f,b,C,d,rfl⟩
 . simp only[Xa]at h;subst h;simp only[rep]at c⊢;obtain⟨f,b,C,d,e⟩:=c;exact⟨b,_,e,f,b,C,d,by simp[Yl]⟩
 . simp only[Xa]at h;subst h;simp only[rep]at c⊢;obtain⟨b,o,d,e⟩:=c;exact⟨b,_,d,b,o,by simp[Yl],e⟩
 cases h
theorem q7q(b o k:Nat):(⟨b,o,none⟩:Addr).add k=⟨b,o+k,none⟩:=by unfold Addr.add;split<;>simp_all
def zt9(P:Program)(t:TypeId)(f:Nat)(a:AV):Option (Prop×AV):=
 match q0c P t f with
 |some (c,b)=>(j16 c a).map λr=>(q1b P b=true/\szT P b≠0,r)
 |none=>none
theorem j1y{t:TypeId}{f:Nat}{a r:AV}{c:Prop}{u:Value}(h:zt9 P t f a=some (c,r))(g:c)(j:rep w β nx ow a u):
 ∃z,(Instr.fieldAt t u f).run P w=.ok z w/\rep w β nx ow r z:=by
 unfold zt9 at h
 split at h
 .
  rename_i m n d
  simp only[Xd,Xb]at h;obtain⟨p,k,rfl,rfl⟩:=h;obtain⟨b,o,rfl,l⟩:=zj3 k j;refine⟨_,?_,l⟩;unfold q0c at d
  split at d
  .
   rename_i fs hd
   simp only[Xd,Xb]at d;obtain⟨q,e,rfl,rfl⟩:=d;simp[Instr.fieldAt,run_underlying hd,e,Instr.sureAddr,fieldPlace,run_sizeOf g.1,g.2,q7q]
  cases d
 cases h
def zt8(P:Program)(t:TypeId):AV->AV->Option (Prop×AV)
 |.sl sz xs,.v (.int _ n)=>match aK P t with
  |some e=>some (q1b P e=true/\szT P e=sz/\0<=n/\n<xs.length,.el sz xs n.toNat 0)
  |none=>none
 |.osl id sz off len,.v (.int _ n)=>match aK P t with
  |some e=>some (q1b P e=true/\szT P e=sz/\0<=n/\n<len,.apt id sz (off+n.toNat) 0)
  |none=>none
 |.bsl id off len,.v (.int _ n)=>match aK P t with
  |some e=>some (q1b P e=true/\szT P e=1/\0<=n/\n<len,.ptr id (off+n.toNat))
  |none=>none
 |a,.v (.int _ n)=>match qc9 P t with
  |some (m,e)=>(j16 (n.toNat*szT P e) a).map λr=>(q1b P e=true/\0<=n/\n<m,r)
  |none=>none
 |_,_=>none
theorem q0l{t e:TypeId}(h:aK P t=some e):P.underlying t=some (.slice e):=by
 unfold aK at h;split at h
 . simp only[Xa]at h;subst h;assumption
 cases h
theorem z5d{t e:TypeId}{m:Nat}(h:qc9 P t=some (m,e)):P.underlying t=some (.array m e):=by
 unfold qc9 at h;split at h
 . simp only[Xa,Xb]at h;obtain⟨rfl,rfl⟩:=h;assumption
 cases h
theorem qy2{t:TypeId}{k:IntKind}(h:qt6 P t=some k):P.underlying t=some (.int k):=by
 unfold qt6 at h;split at h
 . simp only[Xa]at h;subst h;assumption
 cases h
theorem z0c{t e:TypeId}(b:P.underlying t=some (.slice e))(c:q1b P e=true)(a:Addr)(len cap:Nat)(k:IntKind)(n:Int)(d:0<=n)(f:n<len):
 (Instr.indexAt t (.slice (some a) len cap) (.int k n)).run P w=.ok (.pointer (some (a.add (n.toNat*szT P e)))) w:=by
 simp[Instr.indexAt,run_underlying b,asIntOf,d,f,run_sizeOf c]
theorem ze9{t e:TypeId}{m:Nat}(b:P.underlying t=some (.array m e))(c:q1b P e=true)(a:Addr)(k:IntKind)(n:Int)(d:0<=n)(f:n<m):
 (Instr.indexAt t (.pointer (some a)) (.int k n)).run P w=.ok (.pointer (some (a.add (n.toNat*szT P e)))) w:=by
 simp[Instr.indexAt,run_underlying b,asIntOf,Instr.sureAddr,d,f,run_sizeOf c]
theorem j1w{t:TypeId}{a i r:AV}{c:Prop}{u v:Value}(h:zt8 P t a i=some (c,r))(l:c)(g:rep w β nx ow a u)(hi:rep w β nx ow i v):
 ∃z,(Instr.indexAt t u v).run P w=.ok z w/\rep w β nx ow r z:=by
 unfold zt8 at h
 split at h
 .
  rename_i sz xs k n
  split at h
  .
   rename_i e j
   simp only[Xa,Xb]at h;obtain⟨rfl,rfl⟩:=h;obtain⟨s,y,c3,d⟩:=l;simp only[rep]at hi g⊢;subst hi;rcases g with⟨rfl,_⟩|⟨b,o,cap,rfl,f,D,p,q⟩
   . simp only[List.length_nil,X7]at d;omega
   refine⟨_,z0c (q0l j) s _ _ _ _ _ c3 d,b,o,?_,D,p,q⟩;rw[y,q7q];simp
  cases h
 .
  rename_i id sz off len k n
  split at h
  .
   rename_i e j
   simp only[Xa,Xb]at h;obtain⟨rfl,rfl⟩:=h;obtain⟨s,y,c3,d⟩:=l;simp only[rep]at hi g⊢;subst hi;obtain⟨A,f⟩:=g;rcases f with⟨_,_,rfl,_⟩|⟨b,C,cap,a,f,rfl,D,p,q⟩
   . simp only[X7]at d;omega
   have B:a=⟨b,off*sz,none⟩:=by
    rcases q with q|q
    . exact q
    omega
   subst B;refine⟨_,z0c (q0l j) s _ _ _ _ _ c3 d,A,b,C,f,?_⟩;rw[y,q7q];simp[Xs]
  cases h
 .
  rename_i id off len k n
  split at h
  .
   rename_i e j
   simp only[Xa,Xb]at h;obtain⟨rfl,rfl⟩:=h;obtain⟨s,y,c3,d⟩:=l;simp only[rep]at hi g⊢;subst hi;obtain⟨A,b,C,cap,a,f,rfl,D,p⟩:=g;rcases p with rfl|p
   . refine⟨_,z0c (q0l j) s _ _ _ _ _ c3 d,A,b,C,f,?_⟩;rw[y,q7q];simp
   subst p;simp only[X7]at d;omega
  cases h
 .
  rename_i k n _ _
  split at h
  .
   rename_i m e j
   simp only[Xd,Xb]at h;obtain⟨E,A,rfl,rfl⟩:=h;obtain⟨b,o,rfl,f⟩:=zj3 A g;simp only[rep]at hi;subst hi;exact⟨_,ze9 (z5d j) l.1 _ _ _ l.2.1 l.2.2,by rw[q7q];exact f⟩
  cases h
 cases h
def j4e(P:Program)(t:TypeId):AV->Option (Prop×AV)
 |.sl _ xs=>some ((aK P t).isSome=true,.v (.int .i64 xs.length))
 |.osl _ _ _ len=>some ((aK P t).isSome=true,.v (.int .i64 len))
 |.bsl _ _ len=>some ((aK P t).isSome=true,.v (.int .i64 len))
 |.v (.slice _ n _)=>some ((aK P t).isSome=true,.v (.int .i64 n))
 |.v (.string s)=>some (P.underlying t=some .string,.v (.int .i64 s.size))
 |_=>none
theorem qp2{t ty:TypeId}(h:(aK P t).isSome=true)(a:Option Addr)(n c:Nat):(Builtin.len_ #[t] ty #[.slice a n c]).run P w=.ok (.int .i64 n) w:=by
 obtain⟨e,b⟩:=Ym.1 h;simp[Builtin.len_,run_underlying (q0l b),goInt]
theorem j4d{t ty:TypeId}{a r:AV}{c:Prop}{u:Value}(h:j4e P t a=some (c,r))(e:c)(d:rep w β nx ow a u):
 ∃z,(Builtin.len_ #[t] ty #[u]).run P w=.ok z w/\rep w β nx ow r z:=by
 unfold j4e at h
 split at h
 .
  simp only[Xa,Xb]at h;obtain⟨rfl,rfl⟩:=h;simp only[rep]at d⊢;rcases d with⟨rfl,a,cap,rfl⟩|⟨b,o,cap,rfl,_⟩
  . exact⟨_,qp2 e _ _ _,rfl⟩
  exact⟨_,qp2 e _ _ _,rfl⟩
 .
  simp only[Xa,Xb]at h;obtain⟨rfl,rfl⟩:=h;simp only[rep]at d⊢;rcases d.2 with⟨_,_,rfl,rfl⟩|⟨b,C,cap,a,_,rfl,_⟩
  . exact⟨_,qp2 e _ _ _,rfl⟩
  exact⟨_,qp2 e _ _ _,rfl⟩
 . simp only[Xa,Xb]at h;obtain⟨rfl,rfl⟩:=h;simp only[rep]at d⊢;obtain⟨_,b,C,cap,a,_,rfl,_⟩:=d;exact⟨_,qp2 e _ _ _,rfl⟩
 . simp only[Xa,Xb]at h;obtain⟨rfl,rfl⟩:=h;simp only[rep]at d⊢;subst d;exact⟨_,qp2 e _ _ _,rfl⟩
 . simp only[Xa,Xb]at h;obtain⟨rfl,rfl⟩:=h;simp only[rep]at d⊢;subst d;exact⟨_,by simp[Builtin.len_,run_underlying e,goInt],rfl⟩
 cases h
theorem zg0{t:TypeId}{cs:List AV}{us:List Value}{off:Nat}(e:y8 w β nx ow cs us)(b:(q8t P t cs off).1):
 ∃z,(part t ⟨us⟩ off).run P w=.ok z w/\rep w β nx ow (q8t P t cs off).2 z:=by
 have k:=q1t e;unfold q8t at b⊢
 by_cases c:q5b P t=true
 .
  simp only[c,if_true]at b⊢;obtain⟨d,a⟩:=b;refine⟨.agg ⟨(us.drop off).take (szT P t)⟩,?_,?_⟩
  .
   unfold part;simp only[Sem.run_bind,qf6 d,c,Result.andThen_ok,if_true,run_sizeOf d,Sem.run_pure]
   congr 2
   apply Xr;simp[List.extract_eq_take_drop]
  simp only[rep];exact⟨_,rfl,q6r (q7z e off) _⟩
 simp only[c]at b⊢;obtain⟨d,a⟩:=b;have j:us[off]?=some (us.getD off undef):=by
  rw[Xq,Xn (by omega)];rfl
 refine⟨us.getD off undef,?_,by simpa using qv3 e off a⟩;unfold part;have f:q5b P t=false:=by simpa using c
 have g:(⟨us⟩:Array Value)[off]?=some (us.getD off undef):=by simpa using j
 simp only[Sem.run_bind,qf6 d,f,Result.andThen_ok,X6,if_false,g,Sem.run_pure]
def zh8(P:Program)(t:TypeId)(f:Nat):AV->Option (Prop×AV)
 |.agg cs=>match q0c P t f with
  |some (a,b)=>some (q8t P b cs a)
  |none=>none
 |_=>none
theorem j0d{t:TypeId}{f:Nat}{a r:AV}{c:Prop}{u:Value}(h:zh8 P t f a=some (c,r))(j:c)(e:rep w β nx ow a u):
 ∃z,(Instr.field t u f).run P w=.ok z w/\rep w β nx ow r z:=by
 unfold zh8 at h
 split at h
 .
  rename_i cs
  split at h
  .
   rename_i k m b
   simp only[Xa]at h;simp only[rep]at e;obtain⟨l,rfl,n⟩:=e;obtain⟨z,o,g⟩:=zg0 (P:=P) (t:=m) (off:=k) n (by rw[h];exact j);refine⟨z,?_,by rw[h]at g;exact g⟩;unfold q0c at b
   split at b
   .
    rename_i fs hd
    simp only[Xd,Xb]at b;obtain⟨p,d,rfl,rfl⟩:=b;simp[Instr.field,run_underlying hd,d,asAgg,o]
   cases b
  cases h
 cases h
def zh3(P:Program)(t:TypeId):AV->AV->Option (Prop×AV)
 |.agg cs,.v (.int _ n)=>match qc9 P t with
  |some (m,e)=>some (q1b P e=true/\0<=n/\n<m/\(q8t P e cs (n.toNat*szT P e)).1,(q8t P e cs (n.toNat*szT P e)).2)
  |none=>none
 |.v (.string s),.v (.int _ n)=>some (P.underlying t=some .string/\0<=n/\n<s.size,.v (.int .u8 (s.data.toList.getD n.toNat 0).toNat))
 |_,_=>none
theorem j04{t:TypeId}{a i r:AV}{c:Prop}{u v:Value}(h:zh3 P t a i=some (c,r))(g:c)(b:rep w β nx ow a u)(hi:rep w β nx ow i v):
 ∃z,(Instr.index t u v).run P w=.ok z w/\rep w β nx ow r z:=by
 unfold zh3 at h
 split at h
 .
  rename_i cs k n
  split at h
  .
   rename_i m e o
   simp only[Xa,Xb]at h;obtain⟨rfl,rfl⟩:=h;obtain⟨d,f,c3,p⟩:=g;simp only[rep]at b hi;obtain⟨l,rfl,q⟩:=b;subst hi;obtain⟨z,y,A⟩:=zg0 (P:=P) q p;refine⟨z,?_,A⟩;simp[Instr.index,asIntOf,run_underlying (z5d o),f,c3,run_sizeOf d,y]
  cases h
 .
  rename_i s k n
  simp only[Xa,Xb]at h;obtain⟨rfl,rfl⟩:=h;obtain⟨d,f,c3⟩:=g;simp only[rep]at b hi⊢;subst b hi;have j:n.toNat<s.size:=by omega
  refine⟨_,?_,rfl⟩;have hd:n.toNat<s.data.toList.length:=by simpa using j
  have B:(s.data.toList.getD n.toNat 0)=s[n.toNat]:=by
   rw[Xq,Xn hd];rfl
  rw[B];simp[Instr.index,asIntOf,run_underlying d,f,j]
 cases h
end
end
section
open Go Go.RowKit
section
variable {P:Program} {w:World} {β:aF} {nx:Nat} {ow:Nat->Prop}
theorem qm6{sz b:Nat}:∀{xs:List (List AV)} {o:Nat},q0p w β ow sz b xs o->∀(k:Nat),q0p w β ow sz b (xs.drop k) (o+k*sz)
 |[],o,h,k=>by simp[q0p]
 |r::a,o,h,0=>by simpa using h
 |r::a,o,h,k+1=>by
  simp only[q0p]at h;have:=qm6 h.2.2 k;rw[List.drop_succ_cons,show o+(k+1)*sz=o+sz+k*sz by rw[Xs];omega];exact this
theorem qe6{sz b:Nat}:∀{xs:List (List AV)} {o:Nat},q0p w β ow sz b xs o->∀(k:Nat),q0p w β ow sz b (xs.take k) o
 |[],o,h,k=>by simp[q0p]
 |r::a,o,h,0=>by simp[q0p]
 |r::a,o,h,k+1=>by
  simp only[q0p]at h;simp only[Yv,q0p];exact⟨h.1,h.2.1,qe6 h.2.2 k⟩
def q9l:Option AV->Int->Option Int
 |none,d=>some d
 |some (.v (.int _ n)),_=>some n
 |_,_=>none
theorem qm4{t e:TypeId}(y:P.underlying t=some (.slice e))(z:q1b P e=true)(a:Option Addr)(len cap:Nat)(lo hi:Option AV)(lo' hi':Option Value)
 (j:∀x,lo=some x->∃u,lo'=some u/\rep w β nx ow x u)(d:lo=none->lo'=none)(m:∀x,hi=some x->∃u,hi'=some u/\rep w β nx ow x u)(f:hi=none->hi'=none)
 (l h:Int)(b:q9l lo 0=some l)(c:q9l hi len=some h)(c0:0<=l)(A:l<=h)(B:h<=len)(c3:len<=cap):
 (Instr.sliceAt t (.slice a len cap) lo' hi' none).run P w=.ok (.slice (if cap=l.toNat then a else a.map (·.add (l.toNat*szT P e))) (h.toNat-l.toNat) (cap-l.toNat)) w:=by
 have n:lo=none/\lo'=none/\l=0\/∃k,lo'=some (.int k l):=by
  unfold q9l at b
  split at b
  . simp only[Xa]at b;exact .inl ⟨rfl,d rfl,b.symm⟩
  . simp only[Xa]at b;obtain⟨u,o,g⟩:=j _ rfl;simp only[rep]at g;subst b g;exact .inr ⟨_,o⟩
  cases b
 have p:hi=none/\hi'=none/\h=len\/∃k,hi'=some (.int k h):=by
  unfold q9l at c
  split at c
  . simp only[Xa]at c;exact .inl ⟨rfl,f rfl,c.symm⟩
  . simp only[Xa]at c;obtain⟨u,o,g⟩:=m _ rfl;simp only[rep]at g;subst c g;exact .inr ⟨_,o⟩
  cases c
 have q:(0:Int)<=h:=by omega
 have s:h<=(cap:Int):=by omega
 have C:(h.toNat:Int)=h:=Yk q;have key:(Instr.sliceBounds true len cap lo' hi' none).run P w=.ok (l.toNat,h.toNat,cap) w:=by
  rcases n with⟨_,rfl,rfl⟩|⟨k,rfl⟩<;>rcases p with⟨_,rfl,rfl⟩|⟨k',rfl⟩
  . simp[Instr.sliceBounds]
  . simp[Instr.sliceBounds,run_sliceBound w k' h cap _ q s]
  . simp[Instr.sliceBounds,run_sliceBound w k l len _ c0 (by omega)]
  simp[Instr.sliceBounds,run_sliceBound w k' h cap _ q s,run_sliceBound w k l h.toNat _ c0 (by omega)]
 simp only[Instr.sliceAt,Instr.slice,Sem.run_bind,run_underlying y,Result.andThen_ok,key,run_sizeOf z,Sem.run_pure]
def ze6(P:Program)(t:TypeId)(lo hi:Option AV):AV->Option (Prop×AV)
 |.sl sz xs=>match aK P t,q9l lo 0,q9l hi xs.length with
  |some e,some l,some h=>some (q1b P e=true/\szT P e=sz/\0<=l/\l<=h/\h<=xs.length,.sl sz ((xs.take h.toNat).drop l.toNat))
  |_,_,_=>none
 |.osl id sz off len=>match aK P t,q9l lo 0,q9l hi len with
  |some e,some l,some h=>some (q1b P e=true/\szT P e=sz/\0<=l/\l<=h/\h<=len,.osl id sz (off+l.toNat) (h.toNat-l.toNat))
  |_,_,_=>none
 |.bsl id off len=>match aK P t,q9l lo 0,q9l hi len with
  |some e,some l,some h=>some (q1b P e=true/\szT P e=1/\0<=l/\l<=h/\h<=len,.bsl id (off+l.toNat) (h.toNat-l.toNat))
  |_,_,_=>none
 |.ptr id o=>match qc9 P t with
  |some (m,e)=>match q9l lo 0,q9l hi m with
   |some l,some h=>some (q1b P e=true/\szT P e=1/\0<=l/\l<=h/\h<=m,.bsl id (o+l.toNat) (h.toNat-l.toNat))
   |_,_=>none
  |none=>none
 |.v (.string x)=>match q9l lo 0,q9l hi x.data.toList.length with
  |some l,some h=>some (P.underlying t=some .string/\0<=l/\l<=h/\h<=x.data.toList.length,.v (.string ⟨⟨(x.data.toList.take h.toNat).drop l.toNat⟩⟩))
  |_,_=>none
 |_=>none
theorem zr8{t:TypeId}(s:P.underlying t=some .string)(x:ByteArray)(lo hi:Option AV)(lo' hi':Option Value)
 (f:∀x,lo=some x->∃u,lo'=some u/\rep w β nx ow x u)(c:lo=none->lo'=none)(g:∀x,hi=some x->∃u,hi'=some u/\rep w β nx ow x u)(d:hi=none->hi'=none)
 (l h:Int)(a:q9l lo 0=some l)(b:q9l hi x.data.toList.length=some h)(c0:0<=l)(z:l<=h)(A:h<=x.data.toList.length):
 (Instr.sliceAt t (.string x) lo' hi' none).run P w=.ok (.string ⟨⟨(x.data.toList.take h.toNat).drop l.toNat⟩⟩) w:=by
 have y:x.data.toList.length=x.size:=rfl;have j:lo=none/\lo'=none/\l=0\/∃k,lo'=some (.int k l):=by
  unfold q9l at a
  split at a
  . simp only[Xa]at a;exact .inl ⟨rfl,c rfl,a.symm⟩
  . simp only[Xa]at a;obtain⟨u,m,e⟩:=f _ rfl;simp only[rep]at e;subst a e;exact .inr ⟨_,m⟩
  cases a
 have n:hi=none/\hi'=none/\h=x.data.toList.length\/∃k,hi'=some (.int k h):=by
  unfold q9l at b
  split at b
  . simp only[Xa]at b;exact .inl ⟨rfl,d rfl,b.symm⟩
  . simp only[Xa]at b;obtain⟨u,m,e⟩:=g _ rfl;simp only[rep]at e;subst b e;exact .inr ⟨_,m⟩
  cases b
 have o:(0:Int)<=h:=by omega
 have q:h<=(x.size:Int):=by omega
 have B:(h.toNat:Int)=h:=Yk o;have key:(Instr.sliceBounds false x.size x.size lo' hi' none).run P w=.ok (l.toNat,h.toNat,x.size) w:=by
  rcases j with⟨_,rfl,rfl⟩|⟨k,rfl⟩<;>rcases n with⟨_,rfl,rfl⟩|⟨k',rfl⟩
  . simp[Instr.sliceBounds]
  . simp[Instr.sliceBounds,run_sliceBound w k' h x.size _ o q]
  . simp[Instr.sliceBounds,run_sliceBound w k l x.size _ c0 (by omega)]
  simp[Instr.sliceBounds,run_sliceBound w k' h x.size _ o q,run_sliceBound w k l h.toNat _ c0 (by omega)]
 have p:x.extract l.toNat h.toNat=⟨⟨(x.data.toList.take h.toNat).drop l.toNat⟩⟩:=by
  apply ByteArray.ext;apply Xr;rw[ByteArray.data_extract,Array.toList_extract];simp[List.drop_take]
 simp only[Instr.sliceAt,Instr.slice,Sem.run_bind,run_underlying s,Result.andThen_ok,key,Sem.run_pure,p,Option.isSome_none,X6,if_false]
theorem zr9{t e:TypeId}{m:Nat}(z:P.underlying t=some (.array m e))(A:q1b P e=true)(a:Addr)(lo hi:Option AV)(lo' hi':Option Value)
 (j:∀x,lo=some x->∃u,lo'=some u/\rep w β nx ow x u)(d:lo=none->lo'=none)(n:∀x,hi=some x->∃u,hi'=some u/\rep w β nx ow x u)(f:hi=none->hi'=none)
 (l h:Int)(b:q9l lo 0=some l)(c:q9l hi m=some h)(c0:0<=l)(B:l<=h)(C:h<=m):
 (Instr.sliceAt t (.pointer (some a)) lo' hi' none).run P w=.ok (.slice (some (if m=l.toNat then a else a.add (l.toNat*szT P e))) (h.toNat-l.toNat) (m-l.toNat)) w:=by
 have o:lo=none/\lo'=none/\l=0\/∃k,lo'=some (.int k l):=by
  unfold q9l at b
  split at b
  . simp only[Xa]at b;exact .inl ⟨rfl,d rfl,b.symm⟩
  . simp only[Xa]at b;obtain⟨u,p,g⟩:=j _ rfl;simp only[rep]at g;subst b g;exact .inr ⟨_,p⟩
  cases b
 have q:hi=none/\hi'=none/\h=m\/∃k,hi'=some (.int k h):=by
  unfold q9l at c
  split at c
  . simp only[Xa]at c;exact .inl ⟨rfl,f rfl,c.symm⟩
  . simp only[Xa]at c;obtain⟨u,p,g⟩:=n _ rfl;simp only[rep]at g;subst c g;exact .inr ⟨_,p⟩
  cases c
 have s:(0:Int)<=h:=by omega
 have y:h<=(m:Int):=by omega
 have D:(h.toNat:Int)=h:=Yk s;have key:(Instr.sliceBounds false m m lo' hi' none).run P w=.ok (l.toNat,h.toNat,m) w:=by
  rcases o with⟨_,rfl,rfl⟩|⟨k,rfl⟩<;>rcases q with⟨_,rfl,rfl⟩|⟨k',rfl⟩
  . simp[Instr.sliceBounds]
  . simp[Instr.sliceBounds,run_sliceBound w k' h m _ s y]
  . simp[Instr.sliceBounds,run_sliceBound w k l m _ c0 (by omega)]
  simp[Instr.sliceBounds,run_sliceBound w k' h m _ s y,run_sliceBound w k l h.toNat _ c0 (by omega)]
 simp only[Instr.sliceAt,Sem.run_bind,run_underlying z,Result.andThen_ok,Instr.sureAddr,key,run_sizeOf A,Sem.run_pure]
theorem zw2{t:TypeId}{lo hi:Option AV}{lo' hi':Option Value}{a r:AV}{c:Prop}{u:Value}(h:ze6 P t lo hi a=some (c,r))(J:c)(q:rep w β nx ow a u)
 (k:∀x,lo=some x->∃u,lo'=some u/\rep w β nx ow x u)(d:lo=none->lo'=none)(n:∀x,hi=some x->∃u,hi'=some u/\rep w β nx ow x u)(f:hi=none->hi'=none):
 ∃z,(Instr.sliceAt t u lo' hi' none).run P w=.ok z w/\rep w β nx ow r z:=by
 unfold ze6 at h
 split at h
 .
  rename_i sz xs
  split at h
  .
   rename_i e l j G y g
   simp only[Xa,Xb]at h;obtain⟨rfl,rfl⟩:=h;obtain⟨A,H,c3,B,D⟩:=J;simp only[rep]at q⊢;rcases q with⟨rfl,a,cap,rfl⟩|⟨b,o,cap,rfl,I,K,Q,s⟩
   .
    have N:j.toNat-l.toNat=0:=by simp only[List.length_nil,X7]at D;omega
    refine⟨_,qm4 (q0l G) A a 0 cap lo hi lo' hi' k d n f l j y g c3 B D (Yz _),.inl ⟨by simp,if cap=l.toNat then a else a.map (·.add (l.toNat*szT P e)),cap-l.toNat,?_⟩⟩;rw[N]
   refine⟨_,qm4 (q0l G) A _ xs.length cap lo hi lo' hi' k d n f l j y g c3 B D I,?_⟩;have p:((xs.take j.toNat).drop l.toNat).length=j.toNat-l.toNat:=by
    rw[Yn,X4];omega
   by_cases L:(xs.take j.toNat).drop l.toNat=[]
   . refine .inl ⟨L,?_⟩;rw[<-p,L];exact⟨_,_,rfl⟩
   have R:0<j.toNat-l.toNat:=by
    rw[<-p];exact List.length_pos_iff.2 L
   refine .inr ⟨b,o+l.toNat*sz,cap-l.toNat,?_,by rw[p];omega,K,Q,qm6 (qe6 s _) _⟩;rw[if_neg (by omega),p,H];simp[q7q]
  cases h
 .
  rename_i id sz off len
  split at h
  .
   rename_i e l j G y g
   simp only[Xa,Xb]at h;obtain⟨rfl,rfl⟩:=h;obtain⟨A,H,c3,B,D⟩:=J;simp only[rep]at q⊢;obtain⟨E,q⟩:=q;rcases q with⟨I,rfl,rfl,rfl⟩|⟨b,C,cap,a,I,rfl,K,Q,s⟩
   .
    have O:j=0:=by simp only[X7]at D;omega
    have S:l=0:=by omega
    subst O S;exact⟨_,qm4 (q0l G) A none 0 0 lo hi lo' hi' k d n f 0 0 y g c3 B D (Yz _),E,.inl ⟨I,by simp,by simp,by simp⟩⟩
   refine⟨_,qm4 (q0l G) A _ len cap lo hi lo' hi' k d n f l j y g c3 B D K,E,.inr ⟨b,C,cap-l.toNat,if cap=l.toNat then a else a.add (l.toNat*szT P e),I,?_,by omega,by omega,?_⟩⟩
   . split<;>simp
   by_cases T:cap=l.toNat/\off+l.toNat≠0
   . exact .inr (by omega)
   left
   have M:cap=l.toNat->l.toNat=0/\off=0/\a=⟨b,off*sz,none⟩:=λN=>by
    have E:l.toNat=0/\off=0:=by omega
    refine⟨E.1,E.2,?_⟩;rcases s with s|s
    . exact s
    exact absurd E.2 s.2
   split
   .
    rename_i N
    obtain⟨O,S,U⟩:=M N;rw[U,O];simp
   rcases s with rfl|s
   . rw[q7q,H];simp[Xs]
   omega
  cases h
 .
  rename_i id off len
  split at h
  .
   rename_i e l j G y g
   simp only[Xa,Xb]at h;obtain⟨rfl,rfl⟩:=h;obtain⟨A,H,c3,B,D⟩:=J;simp only[rep]at q⊢;obtain⟨E,b,C,cap,a,I,rfl,K,s⟩:=q;refine⟨_,qm4 (q0l G) A _ len cap lo hi lo' hi' k d n f l j y g c3 B D K,E,b,C,cap-l.toNat,if cap=l.toNat then a else a.add (l.toNat*szT P e),I,?_,by omega,?_⟩
   . split<;>simp
   by_cases L:j.toNat-l.toNat=0
   . exact .inr L
   left
   rw[if_neg (by omega)];rcases s with rfl|s
   . rw[q7q,H];simp
   omega
  cases h
 .
  rename_i id o
  split at h
  .
   rename_i m e G
   split at h
   .
    rename_i l j y g
    simp only[Xa,Xb]at h;obtain⟨rfl,rfl⟩:=h;obtain⟨A,H,c3,B,D⟩:=J;simp only[rep]at q⊢;obtain⟨E,b,C,I,rfl⟩:=q;refine⟨_,zr9 (z5d G) A _ lo hi lo' hi' k d n f l j y g c3 B D,E,b,C,_,_,I,rfl,by omega,?_⟩
    by_cases V:m=l.toNat
    . exact .inr (by omega)
    left;rw[if_neg V,H,q7q];simp
   cases h
  cases h
 .
  rename_i x
  split at h
  .
   rename_i l j y g
   simp only[Xa,Xb]at h;obtain⟨rfl,rfl⟩:=h;obtain⟨A,H,c3,B⟩:=J;simp only[rep]at q⊢;subst q;exact⟨_,zr8 A x lo hi lo' hi' k d n f l j y g H c3 B,rfl⟩
  cases h
 cases h
def z6y(i:Nat):AV->Option (Prop×AV)
 |.tup xs=>some (i<xs.length,xs.getD i .bU)
 |_=>none
theorem zm9{i:Nat}{a r:AV}{c:Prop}{u:Value}(h:z6y i a=some (c,r))(f:c)(b:rep w β nx ow a u):
 ∃z,(Instr.extract u i).run P w=.ok z w/\rep w β nx ow r z:=by
 unfold z6y at h
 split at h
 .
  simp only[Xa,Xb]at h;obtain⟨rfl,rfl⟩:=h;simp only[rep]at b;obtain⟨l,rfl,d⟩:=b;have e:=q1t d;refine⟨l.getD i undef,?_,qv3 d i f⟩;have g:(⟨l⟩:Array Value)[i]?=some (l.getD i undef):=by
   rw[Xq];simp[show i<l.length by omega]
  simp[Instr.extract,g]
 cases h
def z2j:List AV->UInt8
 |[.v (.int _ n)]=>UInt8.ofNat n.toNat
 |_=>0
def z5x:List AV->Bool
 |[.v (.int .u8 _)]=>true
 |_=>false
def z5k:List AV->Int
 |[.v (.int _ n)]=>n
 |_=>0
def jw8(n:Int):List UInt8:=(Utf8.encode n).data.toList
def zi9(P:Program)(a dst:TypeId):AV->Option (Prop×AV)
 |.v (.int _ n)=>match qt6 P dst with
  |some k=>some (q1b P a=true,.v (.int k (k.wrap n)))
  |none=>match P.underlying dst with
   |some .string=>some (q1b P a=true,.v (.string ⟨⟨jw8 n⟩⟩))
   |_=>none
 |.sl sz xs=>match P.underlying dst,aK P a with
  |some .string,some e=>some (sz=1/\qt6 P e=some .u8/\xs.all z5x=true,.v (.string ⟨⟨xs.map z2j⟩⟩))
  |_,_=>none
 |_=>none
theorem z7o{b:Nat}:∀{xs:List (List AV)} {o:Nat},xs.all z5x=true->q0p w β ow 1 b xs o->∀i,i<xs.length->w.cell? ⟨b,o+i,none⟩=some (.int .u8 ((xs.map z5k).getD i 0))
 |[],_,_,_,i,hi=>by simp at hi
 |r::e,o,hb,h,i,hi=>by
  simp only[Yf,X3]at hb;simp only[q0p]at h
  cases i with
  |zero=>
   have a:=hb.1;unfold z5x at a
   split at a
   .
    rename_i n
    obtain⟨u,d,_,c⟩:=(by simpa only[q4e]using h.2.1:(∃u,w.cell? ⟨b,o,none⟩=some u/\u.oneCell'=true/\rep w β 0 ow (.v (.int .u8 n)) u)/\True).1;simp only[rep]at c;subst c
    simpa [z5k]using d
   cases a
  |succ i=>
   have:=z7o hb.2 h.2.2 i (by simpa using hi);rw[show o+(i+1)=o+1+i by omega]
   simpa using this
theorem j1z{f dst:TypeId}{a r:AV}{c:Prop}{u:Value}(h:zi9 P f dst a=some (c,r))(l:c)(g:rep w β nx ow a u):
 ∃z,(convert f dst u).run P w=.ok z w/\rep w β nx ow r z:=by
 unfold zi9 at h
 split at h
 .
  split at h
  .
   rename_i k j
   simp only[Xa,Xb]at h;obtain⟨rfl,rfl⟩:=h;simp only[rep]at g⊢;subst g;obtain⟨i,d,hi,hd,q⟩:=qx0 l;exact⟨_,by simp[convert,run_underlying hd,run_underlying (qy2 j),Conv.intToInt],rfl⟩
  split at h
  .
   rename_i q
   simp only[Xa,Xb]at h;obtain⟨rfl,rfl⟩:=h;simp only[rep]at g⊢;subst g;obtain⟨i,d,hi,hd,_⟩:=qx0 l;exact⟨_,by simp[convert,run_underlying hd,run_underlying q,Conv.intToString];rfl,rfl⟩
  cases h
 .
  rename_i sz xs
  split at h
  .
   rename_i e hd m
   simp only[Xa,Xb]at h;obtain⟨rfl,rfl⟩:=h;obtain⟨rfl,j,hb⟩:=l;simp only[rep]at g⊢;have p:∀r:List AV,UInt8.ofNat (z5k r).toNat=z2j r:=λr=>by unfold z5k z2j;split<;>rfl
   rcases g with⟨rfl,a,cap,rfl⟩|⟨b,o,cap,rfl,_,_,_,s⟩
   .
    refine⟨_,?_,rfl⟩
    cases a with
    |none=>rw[run_convert_bytes_nil w f e (q0l m) (qy2 j) 0 cap dst hd];rfl
    |some a=>
     rw[run_convert_bytes_string w f dst e _ 0 cap (q0l m) (qy2 j) hd,run_bytesToString w a 0 cap [] (by simpa using run_loadCells_list (P:=P) (w:=w) a [] (by simp))];rfl
   refine⟨_,run_convert_bytes_arg w f e (q0l m) (qy2 j) b o xs.length cap (xs.map z5k) (by simp) (z7o hb s) dst hd,?_⟩;unfold strOfNums;simp only[List.map_map];rw[show ((λn:Int=>UInt8.ofNat n.toNat)∘z5k)=z2j from funext p]
  cases h
 cases h
def unR(op:UnOp):AV->Option (Prop×AV)
 |.v (.int k n)=>match op with
  |.neg=>some (True,.v (.int k (k.wrap (0-n))))
  |.xor=>some (True,.v (.int k (j7x k (if k.signed then -1 else k.max) n)))
  |_=>none
 |.v (.bool b)=>match op with
  |.not=>some (True,.v (.bool !b))
  |_=>none
 |_=>none
theorem j5k{op:UnOp}{a r:AV}{c:Prop}{u:Value}(h:unR op a=some (c,r))(b:rep w β nx ow a u):
 ∃z,(Op.unary op u).run P w=.ok z w/\rep w β nx ow r z:=by
 unfold unR at h
 split at h
 .
  simp only[rep]at b;subst b
  cases op<;>simp only[Xa,Xb,reduceCtorEq]at h<;>obtain⟨rfl,rfl⟩:=h
  . exact⟨_,rfl,by simp only[rep]⟩
  exact⟨_,rfl,by simp only[rep];rfl⟩
 .
  simp only[rep]at b;subst b
  cases op<;>simp only[Xa,Xb,reduceCtorEq]at h<;>obtain⟨rfl,rfl⟩:=h
  exact⟨_,rfl,by simp only[rep]⟩
 cases h
def j45:AV->AV->Option (Prop×AV)
 |.v (.int k x),.v (.int _ y)=>some (True,.v (.int k (min x y)))
 |_,_=>none
def j47:AV->AV->Option (Prop×AV)
 |.v (.int k x),.v (.int _ y)=>some (True,.v (.int k (max x y)))
 |_,_=>none
theorem j44{ts:Array TypeId}{t:TypeId}{a b r:AV}{c:Prop}{u v:Value}(h:j45 a b=some (c,r))(d:rep w β nx ow a u)(hb:rep w β nx ow b v):
 ∃z,(Builtin.min_ ts t #[u,v]).run P w=.ok z w/\rep w β nx ow r z:=by
 unfold j45 at h
 split at h
 .
  simp only[Xa,Xb]at h;obtain⟨rfl,rfl⟩:=h;simp only[rep]at d hb⊢;subst d hb;refine⟨_,run_min_int2 w _ _ _ _ _ _,?_⟩
  congr 1
  split<;>omega
 cases h
theorem j46{ts:Array TypeId}{t:TypeId}{a b r:AV}{c:Prop}{u v:Value}(h:j47 a b=some (c,r))(d:rep w β nx ow a u)(hb:rep w β nx ow b v):
 ∃z,(Builtin.max_ ts t #[u,v]).run P w=.ok z w/\rep w β nx ow r z:=by
 unfold j47 at h
 split at h
 .
  simp only[Xa,Xb]at h;obtain⟨rfl,rfl⟩:=h;simp only[rep]at d hb⊢;subst d hb;refine⟨_,run_max_int2 w _ _ _ _ _ _,?_⟩
  congr 1
  split<;>omega
 cases h
def j4j:AV->Bool|.ptr .. |.apt .. |.el .. |.clo .. =>true|_=>false
def zt0(c a b:AV):Option (Prop×AV):=match c.st with
 |.v (.bool d)=>match a.st,b.st with
  |.v (.bool x),.v (.bool y)=>some (c.aZ/\(d=true->a.aZ)/\(d=false->b.aZ),.v (.bool ((d&&x)||(!d&&y))))
  |.v (.bool x),_=>some (c.aZ/\d=true/\a.aZ,.v (.bool x))
  |_,.v (.bool y)=>some (c.aZ/\d=false/\b.aZ,.v (.bool y))
  |_,_=>none
 |_=>none
end
end
section
open Go Go.RowKit
def n1(a:AV)(r:Option (Prop×AV)):Option (Prop×AV):=r.map λp=>(a.aZ/\p.1,p.2)
def bW:List AV->Prop|[]=>True|a::r=>a.aZ/\bW r
def eE:Option AV->Prop|none=>True|some a=>a.aZ
def z9c:List AV->Option (List Value)
 |[]=>some []
 |.v x::r=>(z9c r).map (x::·)
 |_=>none
def z3f:AV->Option Value
 |.v x=>some x
 |.agg cs=>(z9c cs).map λl=> .agg ⟨l⟩
 |_=>none
def zh0(P:Program)(hp:Hp)(t:TypeId)(m k:AV):Option (Prop×AV):=match m,z3f k,P.underlying t with
 |.mp id,some kv,some (.map a e)=>match q0i hp id with
  |some (.con K c)=>match K.mpk with
   |some (ok,b,some i)=>some (Go.Maps.Keyed P a/\(∀v,ok v->∃l,keyOf P a v=some l)/\b[i]?=some kv,c.headD .bU)
   |some (ok,b,none)=>match (P.info? e).bind (·.zero)with
    |some z=>some (Go.Maps.Keyed P a/\(∀v,ok v->∃l,keyOf P a v=some l)/\(∃l,keyOf P a kv=some l)/\kv∉b,.v z)
    |none=>none
   |none=>none
  |_=>none
 |_,_,_=>none
def fop(P:Program)(hp:Hp)(ev:Operand->AV):Op->Option (Prop×AV)
 |.move x=>some (True,ev x)
 |.assign x=>some (True,ev x)
 |.pick c a b=>zt0 (ev c) (ev a) (ev b)
 |.load t x=>n1 (ev x) (z99 P hp t (ev x).st)
 |.lookup t m k false=>n1 (ev m) (n1 (ev k) (zh0 P hp t (ev m).st (ev k).st))
 |.nilCheck x=>if j4j (ev x).st=true then some ((ev x).aZ,(ev x).st)else none
 |.binOp op _ x y _=>n1 (ev x) (n1 (ev y) (j51 op (ev x).st (ev y).st))
 |.unOp op _ x=>n1 (ev x) (unR op (ev x).st)
 |.convert s d x=>n1 (ev x) (zi9 P s d (ev x).st)
 |.slice t x lo hi none=>n1 (ev x) ((ze6 P t (lo.map λx=>(ev x).st) (hi.map λx=>(ev x).st) (ev x).st).map λp=>((eE (lo.map ev)/\eE (hi.map ev))/\p.1,p.2))
 |.fieldAddr t x f=>n1 (ev x) (zt9 P t f (ev x).st)
 |.field t x f=>n1 (ev x) (zh8 P t f (ev x).st)
 |.indexAddr t x i=>n1 (ev x) (n1 (ev i) (zt8 P t (ev x).st (ev i).st))
 |.index t x i=>n1 (ev x) (n1 (ev i) (zh3 P t (ev x).st (ev i).st))
 |.extract x i=>n1 (ev x) (z6y i (ev x).st)
 |.makeFunc (.func f) first e=>if first.toList.length=0 then some (bW (e.toList.map ev),.clo f (e.toList.map λx=>(ev x).st))else none
 |.call c=>match c.callee,c.args.toList,c.argTypes.toList with
  |.builtin .len,[x],[t]=>n1 (ev x) (j4e P t (ev x).st)
  |.builtin .min,[x,y],_=>n1 (ev x) (n1 (ev y) (j45 (ev x).st (ev y).st))
  |.builtin .max,[x,y],_=>n1 (ev x) (n1 (ev y) (j47 (ev x).st (ev y).st))
  |_,_,_=>none
 |_=>none
theorem q4h{a:AV}{r:Option (Prop×AV)}{c:Prop}{x:AV}(h:n1 a r=some (c,x)):∃b,r=some (b,x)/\c=(a.aZ/\b):=by
 simp only[n1,Xd,Xb]at h;obtain⟨⟨b,g⟩,e,f,d⟩:=h;exact⟨b,by rw[e];simp at d⊢;exact d,f.symm⟩
section
variable {P:Program} {w:World} {β:aF} {nx:Nat} {A:Nat->Prop} {hp:Hp} {ev:Operand->AV} {ρ:Operand->Value}
theorem z6f{ow:Nat->Prop}(a:∀x,rep w β nx ow (ev x) (ρ x)):∀(xs:List Operand),bW (xs.map ev)->y8 w β nx ow (xs.map λx=>(ev x).st) (xs.map ρ)
 |[],_=>by simp[y8]
 |x::xs,h=>by
  simp only[Xi,bW]at h;simp only[Xi,y8];exact⟨q1n (a x) h.1,z6f a xs h.2⟩
theorem j1p{ow:Nat->Prop}{c a b r:AV}{l:Prop}{m n o:Value}(h:zt0 c a b=some (l,r))(g:l)(j:rep w β nx ow c m)(p:rep w β nx ow a n)(q:rep w β nx ow b o):
 ∃z,(do pure (.value (if <-asBool m then n else o)):Sem Next).run P w=.ok (.value z) w/\rep w β nx ow r z:=by
 unfold zt0 at h
 split at h
 .
  rename_i s k
  split at h
  .
   rename_i x y d t
   simp only[Xa,Xb]at h;obtain⟨rfl,rfl⟩:=h;obtain⟨n1,e,f⟩:=g;have:=q1n j n1;rw[k]at this;simp only[rep]at this⊢;subst this
   cases s
   . have:=q1n q (f rfl);rw[t]at this;simp only[rep]at this;subst this;exact⟨.bool y,rfl,by simp⟩
   have:=q1n p (e rfl);rw[d]at this;simp only[rep]at this;subst this;exact⟨.bool x,rfl,by simp⟩
  .
   rename_i x d _
   simp only[Xa,Xb]at h;obtain⟨rfl,rfl⟩:=h;obtain⟨n1,e,f⟩:=g;subst e;have:=q1n j n1;rw[k]at this;simp only[rep]at this⊢;subst this;have:=q1n p f;rw[d]at this;simp only[rep]at this;subst this;exact⟨.bool x,rfl,by simp⟩
  .
   rename_i y d _
   simp only[Xa,Xb]at h;obtain⟨rfl,rfl⟩:=h;obtain⟨n1,e,f⟩:=g;subst e;have:=q1n j n1;rw[k]at this;simp only[rep]at this⊢;subst this;have:=q1n q f;rw[d]at this;simp only[rep]at this;subst this;exact⟨.bool y,rfl,by simp⟩
  cases h
 cases h
theorem za0{ow:Nat->Prop}:∀{cs:List AV} {vs us:List Value},z9c cs=some vs->y8 w β nx ow cs us->us=vs
 |[],vs,[],h,_=>by simp only[z9c,Xa]at h;exact h
 |[],_,_::_,_,a=>by simp only[y8]at a
 |c::cs,vs,[],h,a=>by simp only[y8]at a
 |c::cs,vs,u::us,h,a=>by
  simp only[y8]at a
  cases c<;>simp only[z9c,reduceCtorEq,Xd]at h
  obtain⟨l,d,rfl⟩:=h;have b:=a.1;simp only[rep]at b;rw[b,za0 d a.2]
theorem z2a{ow:Nat->Prop}{k:AV}{kv u:Value}(h:z3f k=some kv)(a:rep w β nx ow k u):u=kv:=by
 cases k<;>simp only[z3f,reduceCtorEq,Xa,Xd]at h
 . subst h;simpa only[rep]using a
 obtain⟨l,b,rfl⟩:=h;simp only[rep]at a;obtain⟨d,rfl,c⟩:=a;rw[za0 b c]
theorem j1u(S:b8 w β nx A hp){t:TypeId}{m k r:AV}{c:Prop}{um g:Value}(h:zh0 P hp t m k=some (c,r))(hc:c)(hm:rep w β nx (own β hp A) m um)(hk:rep w β nx (own β hp A) k g):
 ∃z,(Instr.lookup t um g false).run P w=.ok z w/\rep w β nx (own β hp A) r z:=by
 unfold zh0 at h
 split at h
 rotate_left
 . cases h
 rename_i m' k' id kv q e T ht
 have hu:=z2a T hk;subst hu;simp only[rep]at hm;obtain⟨_,b,C',hb,rfl⟩:=hm
 split at h
 rotate_left
 . cases h
 rename_i K U hg
 have I:=S.obj _ (q0k hg);simp only[q5u]at I;have key:∀{ok L s},K.mpk=some (ok,L,s)->Go.Maps.Keyed P q->(∀v,ok v->∃l,keyOf P q v=some l)->(∃l,keyOf P q g=some l)->
  ∃us a clock,jf7 w b ok L s us/\y8 w β nx (own β hp A) U us/\w.heap[b]?=some (.map a clock)/\a.toList.map (·.key)=L/\(∀i,s=some i->∃u,us=[u]/\(a.toList[i]?).map (·.val)=some u)/\
  (((Instr.findKey q g a.toList).run P w=.ok none w/\∀e∈a.toList,e.key≠g)\/∃j e,(Instr.findKey q g a.toList).run P w=.ok (some (j,e.val)) w/\a.toList[j]?=some e/\e.key=g):=by
  intro ok L s n y o f;rcases I with⟨b',C2,us,d,_,p,N⟩|⟨d,_⟩
  rotate_left
  . rw[hb]at d;cases d
  rw[hb]at d;simp only[Xa,Xb]at d;obtain⟨rfl,rfl⟩:=d;have B:=K.mpl n p;obtain⟨a,clock,C,D,q3,R,M⟩:=B;obtain⟨lx,V⟩:=f;refine⟨us,a,clock,⟨a,clock,C,D,q3,R,M⟩,N,C,D,M,y.find w V a.toList λe he=>o _ (R _ ?_)⟩;rw[<-D];exact Xk he
 have O:Go.Maps.Keyed P q->∀{a:Array MapEntry} {clock:Nat} {v:Value},w.heap[b]?=some (.map a clock)->(∃l,keyOf P q g=some l)->∀{j:Nat},(Instr.findKey q g a.toList).run P w=.ok (some (j,v)) w->(Instr.lookup t (.map (some b)) g false).run P w=.ok v w:=λy {a clock v} C ⟨l,W⟩ {j} d=>by
  simp[Instr.lookup,run_underlying ht,MapKept.run_getObj_map C,y.check w _ W,d,Result.andThen]
 split at h
 .
  rename_i ok L i n
  simp only[Xa,Xb]at h;obtain⟨rfl,rfl⟩:=h;obtain⟨y,o,J⟩:=hc;have Q:=I;have f:∃l,keyOf P q g=some l:=by
   rcases Q with⟨b',C2,us,d,_,p,_⟩|⟨d,_⟩
   rotate_left
   . rw[hb]at d;cases d
   obtain⟨a,clock,C,D,q3,R,M⟩:=K.mpl n p;exact o _ (R _ (X8 J))
  obtain⟨us,a,clock,B,E,C,D,M,X⟩:=key n y o f;obtain⟨u,Y,Z⟩:=M i rfl;subst Y;obtain⟨ei,G,a6⟩:=Xd.1 Z;have H:ei.key=g:=by
   rw[<-D,Ye,G]at J
   simpa using J
  obtain⟨_,_,r1,r2,r3,_,_⟩:=B;rcases X with⟨_,p⟩|⟨j,e0,d,p,N⟩
  . exact absurd H (p ei (X8 G))
  have ao:j=i:=by
   have ar:(a.toList.map (·.key)).Nodup:=by rw[D];exact r3
   have e1:(a.toList.map (·.key))[j]?=some g:=by rw[Ye,p];simp[N]
   have e2:(a.toList.map (·.key))[i]?=some g:=by rw[Ye,G];simp[H]
   exact (List.getElem?_inj (Xy.1 e1).1 ar).1 (e1.trans e2.symm)
  subst ao;rw[G]at p
  cases p
  refine⟨_,O y C f d,?_⟩;rw[a6]
  cases U with
  |nil=>simp only[y8]at E
  |cons x U=>simp only[y8]at E;exact E.1
 .
  rename_i ok L n
  split at h
  rotate_left
  . cases h
  rename_i z hz
  simp only[Xa,Xb]at h;obtain⟨rfl,rfl⟩:=h;obtain⟨y,o,f,b0⟩:=hc;obtain⟨us,a,clock,B,E,C,D,M,X⟩:=key n y o f;obtain⟨l,W⟩:=f;rcases X with⟨d,_⟩|⟨j,e0,d,p,N⟩
  .
   obtain⟨i,hi,hz⟩:=Xt.1 hz;have b1:(zeroValue e).run P w=.ok z w:=by simp[zeroValue,typeInfo,hi,hz]
   exact⟨z,by simp[Instr.lookup,run_underlying ht,MapKept.run_getObj_map C,y.check w _ W,d,b1,Result.andThen],by simp only[rep]⟩
  refine absurd ?_ b0;rw[<-D,<-N];exact Xk (X8 p)
 cases h
theorem zq5(B:b8 w β nx A hp)(a:∀x,rep w β nx (own β hp A) (ev x) (ρ x)){o:Oper}{c:Prop}{r:AV}(h:fop P hp ev o.op=some (c,r))(d:c):
 ∃z,(execOp ρ o).run P w=.ok (.value z) w/\rep w β nx (own β hp A) r z:=by
 unfold fop at h;unfold execOp
 split at h<;>rename_i heq<;>simp only[heq]
 . simp only[Xa,Xb]at h;obtain⟨rfl,rfl⟩:=h;exact⟨_,rfl,a _⟩
 . simp only[Xa,Xb]at h;obtain⟨rfl,rfl⟩:=h;exact⟨_,rfl,a _⟩
 . exact j1p h d (a _) (a _) (a _)
 . obtain⟨m,g,rfl⟩:=q4h h;obtain⟨z,j,k⟩:=z9z B g d.2 (q1n (a _) d.1);exact⟨z,by simp[j],k⟩
 . obtain⟨m,g,rfl⟩:=q4h h;obtain⟨n,p,rfl⟩:=q4h g;obtain⟨z,j,k⟩:=j1u B p d.2.2 (q1n (a _) d.1) (q1n (a _) d.2.1);exact⟨z,by simp[j],k⟩
 .
  rename_i x
  split at h
  .
   rename_i hp'
   simp only[Xa,Xb]at h;obtain⟨rfl,rfl⟩:=h;have:=q1n (a x) d;refine⟨ρ x,?_,this⟩
   cases I:(ev x).st<;>rw[I]at this hp'<;>simp only[j4j,X6]at hp'<;>simp only[rep]at this
   . obtain⟨_,b,C,_,e⟩:=this;rw[e];rfl
   . obtain⟨_,b,C,_,e⟩:=this;rw[e];rfl
   . obtain⟨b,o,e,_⟩:=this;rw[e];rfl
   obtain⟨l,e,_⟩:=this;rw[e];rfl
  cases h
 . obtain⟨m,g,rfl⟩:=q4h h;obtain⟨n,p,rfl⟩:=q4h g;obtain⟨z,j,k⟩:=j50 (P:=P) p d.2.2 (q1n (a _) d.1) (q1n (a _) d.2.1);exact⟨z,by simp only[Sem.run_bind,Sem.run_pure]at j⊢;rw[j];rfl,k⟩
 . obtain⟨m,g,rfl⟩:=q4h h;obtain⟨z,j,k⟩:=j5k (P:=P) g (q1n (a _) d.1);exact⟨z,by simp[j],k⟩
 . obtain⟨m,g,rfl⟩:=q4h h;obtain⟨z,j,k⟩:=j1z g d.2 (q1n (a _) d.1);exact⟨z,by simp[j],k⟩
 .
  rename_i t x lo hi
  obtain⟨m,g,rfl⟩:=q4h h;simp only[Xd,Xb]at g;obtain⟨⟨n,Q⟩,p,rfl,rfl⟩:=g;obtain⟨I,⟨D,E⟩,J⟩:=d;obtain⟨z,j,k⟩:=zw2 (P:=P) (lo':=lo.map ρ) (hi':=hi.map ρ) p J (q1n (a _) I)
   (λy u=>by
    cases lo with
    |none=>cases u
    |some l=>simp only[Y3,Xa,eE]at u D⊢;subst u;exact⟨_,rfl,q1n (a l) D⟩)
   (λM=>by cases lo<;>simp_all)
   (λy u=>by
    cases hi with
    |none=>cases u
    |some l=>simp only[Y3,Xa,eE]at u E⊢;subst u;exact⟨_,rfl,q1n (a l) E⟩)
   (λM=>by cases hi<;>simp_all)
  exact⟨z,by simp[j],k⟩
 . obtain⟨m,g,rfl⟩:=q4h h;obtain⟨z,j,k⟩:=j1y g d.2 (q1n (a _) d.1);exact⟨z,by simp[j],k⟩
 . obtain⟨m,g,rfl⟩:=q4h h;obtain⟨z,j,k⟩:=j0d g d.2 (q1n (a _) d.1);exact⟨z,by simp[j],k⟩
 . obtain⟨m,g,rfl⟩:=q4h h;obtain⟨n,p,rfl⟩:=q4h g;obtain⟨z,j,k⟩:=j1w p d.2.2 (q1n (a _) d.1) (q1n (a _) d.2.1);exact⟨z,by simp[j],k⟩
 . obtain⟨m,g,rfl⟩:=q4h h;obtain⟨n,p,rfl⟩:=q4h g;obtain⟨z,j,k⟩:=j04 p d.2.2 (q1n (a _) d.1) (q1n (a _) d.2.1);exact⟨z,by simp[j],k⟩
 . obtain⟨m,g,rfl⟩:=q4h h;obtain⟨z,j,k⟩:=zm9 (P:=P) g d.2 (q1n (a _) d.1);exact⟨z,by simp[j],k⟩
 .
  rename_i f first q
  split at h
  .
   rename_i N
   simp only[Xa,Xb]at h;obtain⟨rfl,rfl⟩:=h;have K:first=#[]:=by
    apply Xr;simpa using N
   subst K;refine⟨.func (.func f) #[] ⟨q.toList.map ρ⟩,?_,?_⟩
   . have e:q.map ρ=⟨q.toList.map ρ⟩:=Xr (by simp);simp[Instr.makeFunc,e]
   simp only[rep];exact⟨_,rfl,z6f a _ d⟩
  cases h
 .
  rename_i cl
  split at h
  .
   rename_i x t G H O
   obtain⟨m,g,rfl⟩:=q4h h;obtain⟨z,j,k⟩:=j4d (ty:=o.type) g d.2 (q1n (a _) d.1);have s:cl.args=#[x]:=Xr H;have L:cl.argTypes=#[t]:=Xr O;refine⟨z,?_,k⟩;simp[resolve,G,s,L,invoke,builtin,j]
  .
   rename_i _ x y G H
   obtain⟨m,g,rfl⟩:=q4h h;obtain⟨n,p,rfl⟩:=q4h g;obtain⟨z,j,k⟩:=j44 (P:=P) (ts:=cl.argTypes) (t:=o.type) p (q1n (a _) d.1) (q1n (a _) d.2.1);have s:cl.args=#[x,y]:=Xr H;refine⟨z,?_,k⟩;simp[resolve,G,s,invoke,builtin,j]
  .
   rename_i _ x y G H
   obtain⟨m,g,rfl⟩:=q4h h;obtain⟨n,p,rfl⟩:=q4h g;obtain⟨z,j,k⟩:=j46 (P:=P) (ts:=cl.argTypes) (t:=o.type) p (q1n (a _) d.1) (q1n (a _) d.2.1);have s:cl.args=#[x,y]:=Xr H;refine⟨z,?_,k⟩;simp[resolve,G,s,invoke,builtin,j]
  cases h
 cases h
end
end
section
open Go Go.RowKit
def St.put(s:St)(d:Option Nat)(x:AV):St:=match d with
 |some d=>{s with env:=(d,x)::s.env}
 |none=>s
def dok(n:Nat):Option Nat->Bool|none=>true|some d=>decide (d<n)
section
variable {P:Program} {C:Ctx P} {s:St} {a:Act} {w:World} {β:aF}
theorem z3h(t:Array Value)(d i:Nat)(u v:Value)(hd:d<t.size):(t.setIfInBounds d u).getD i v=if d=i then u else t.getD i v:=by
 simp only[Array.getD_eq_getD_getElem?,Array.getElem?_setIfInBounds,hd,if_true]
 split
 . rfl
 rfl
theorem Rel.put(h:Rel C s a w β){d:Option Nat}{x:AV}{u:Value}(c:rep w β s.nx (own β s.hp C.A) x u)(hd:dok s.nt d=true):Rel C (s.put d x) (a.put d u) w β:=by
 cases d with
 |none=>exact h
 |some d=>
  simp only[dok,decide_eq_true_eq]at hd;have b:d<a.tmps.size:=by rw[h.nt];exact hd
  exact {df:=h.df,nt:=by simp only[Act.put,St.put,Array.size_setIfInBounds];exact h.nt,hp:=h.hp,ext:=h.ext,alt:=h.alt,gs:=h.gs,nb:=h.nb,ntc:=h.ntc,
         env:=by
          intro t;simp only[St.put,Act.put,q17,z3h _ _ _ _ _ b]
          split
          . exact c
          exact h.env t}
theorem Rel.ev(h:Rel C s a w β)(x:Operand):rep w β s.nx (own β s.hp C.A) (y9 s.env x) (a.eval x):=by
 cases x with
 |tmp t=>exact h.env t
 |const v=>simp only[y9,rep,Act.eval]
 |global g=>simp only[y9,rep,Act.eval]
 |func f=>simp only[y9,rep,Act.eval];exact⟨[],rfl,by simp[y8]⟩
def upd(β:aF)(n:Nat)(x:Option (Nat×Nat)):aF:=⟨λi=>if i=n then x else β i,λi=>if i=n then []else β.inn i⟩
theorem q9y(β:aF)(n:Nat)(x:Option (Nat×Nat)):(upd β n x).inn n=[]:=by simp[upd]
theorem q5r(β:aF)(n:Nat)(x:Option (Nat×Nat))(i:Nat)(h:i<n):(upd β n x).inn i=β.inn i:=by simp[upd];omega
theorem z2i{β:aF}{n:Nat}{x:Option (Nat×Nat)}{i b:Nat}(h:i<n):bof (upd β n x) i b↔bof β i b:=by unfold bof;rw[show (upd β n x).f i=β.f i by simp[upd];omega,q5r _ _ _ _ h]
theorem z2o{β:aF}{n:Nat}{x:Option (Nat×Nat)}{b:Nat}(h:bof (upd β n x) n b):∃c,x=some (b,c):=by
 rcases h with⟨C,d⟩|h
 . exact⟨C,by simpa [upd]using d⟩
 rw[q9y]at h;cases h
theorem q1m(β:aF)(n:Nat)(x:Option (Nat×Nat)):upd β n x n=x:=by simp[upd]
theorem q2x(β:aF)(n:Nat)(x:Option (Nat×Nat))(i:Nat)(h:i<n):upd β n x i=β i:=by simp[upd];omega
theorem Rel.step(h:Rel C s a w β){w':World}{β':aF}{hp':Hp}{nx':Nat}(D:s.nx<=nx')(hb:∀id,id<s.nx->β' id=β id)(g:w.heap.size<=w'.heap.size)
 (E:∀b,b<w.heap.size->¬cn β s.hp b->w'.heap[b]?=w.heap[b]?)(G:∀b,b<w.heap.size->cn β' hp' b->cn β s.hp b)
 (n:b8 w' β' nx' C.A hp')(j:∀p∈hp',p.1∈s.hp.map (·.1)\/s.nx<=p.1)(H:w'.os=w.os)(I:w'.tape=w.tape)(f:w'.output=w.output/\(dkF=true->w.drawn<=w'.drawn))(o:∀id,id<s.nx->id∉s.hp.map (·.1)->β'.inn id=β.inn id:=by first|exact λ_ _ _=>rfl|exact λid hid _=>q5r _ _ _ _ hid):
 Rel C {s with hp:=hp',nx:=nx'} a w' β':=by
 have J:b9 w w' (own β s.hp C.A) (own β' hp' C.A):=⟨g,λb d c=>⟨E b c (λK=>d (.inr K)),λu=>by
  rcases u with e|e
  . exact d (.inl e)
  exact d (.inr (G b c e))⟩⟩
 exact {df:=h.df,nt:=h.nt,hp:=n,alt:=λb hb=>Xf (h.alt b hb) g,gs:=h.gs,nb:=h.nb,ntc:=h.ntc,
        env:=λt=>q5i J s.nx nx' D hb _ _ (h.env t),
        ext:={nx:=Yc h.ext.nx D,
              gh:=λid hid=>(hb id (Xf hid h.ext.nx)).trans (h.ext.gh id hid),
              gi:=λid hid l=>(o id (Xf hid h.ext.nx) λL=>by
               obtain⟨p,hp,rfl⟩:=X5.1 L;rcases h.ext.ids p hp with e|e
               . exact l e
               omega).trans (h.ext.gi id hid l)
              ids:=λp hp=>by
               rcases j p hp with e|e
               . obtain⟨q,m,M⟩:=X5.1 e
                 rw[<-M];exact h.ext.ids q m
               exact .inr (Yc h.ext.nx e),
              blk:=λp hp b y=>by
               rcases Yi b w.heap.size with c|z
               . obtain⟨q,m,B⟩:=G b c ⟨p,hp,y⟩
                 exact h.ext.blk q m b B
               exact .inr (Yc h.ext.size z),
              os:=H.trans h.ext.os,tape:=I.trans h.ext.tape,output:=⟨f.1.trans h.ext.output.1,λk=>Yc (h.ext.output.2 k) (f.2 k)⟩,size:=Yc h.ext.size g,
              keep:=λb c d=>by
               refine (E b (Xf c h.ext.size) ?_).trans (h.ext.keep b c d);rintro⟨q,m,N⟩;rcases h.ext.blk q m b N with e|e
               . exact d e
               omega}}
theorem b8.cons{nx:Nat}{A:Nat->Prop}{hp:Hp}{w':World}(h:b8 w β nx A hp){b c:Nat}{o:bT}
 (y:b9 w w' (own β hp A) (own (upd β nx (some (b,c))) ((nx,o)::hp) A))
 (z:∀f,cn β hp f->w'.heap[f]?=w.heap[f]?)
 (j:¬cn β hp b)(m:¬A b)
 (B:q5u w' (upd β nx (some (b,c))) (nx+1) (own (upd β nx (some (b,c))) ((nx,o)::hp) A) nx o):
 b8 w' (upd β nx (some (b,c))) (nx+1) A ((nx,o)::hp):=by
 have n:∀p∈hp,p.1≠nx:=λp hp'=>Nat.ne_of_lt (h.lt p hp');refine⟨?_,?_,?_,?_,?_,?_,?_⟩
 .
  intro p hp';rcases Xc.1 hp' with rfl|hp'
  . exact B
  exact q48 y (X0 _) (λid hid=>q2x _ _ _ _ hid) (h.lt p hp') (λf t=>z f ⟨p,hp',t⟩) (λ_=>q5r _ _ _ _ (h.lt p hp')) (h.obj p hp')
 .
  intro p hp';rcases Xc.1 hp' with rfl|hp'
  . exact Xo _
  exact Yy (h.lt p hp')
 . simp only[Xi,Yj];refine⟨?_,h.nd⟩;intro D;obtain⟨q,E,G⟩:=X5.1 D;exact n q E G
 .
  intro p hp1 q d f u H e k;rcases Xc.1 hp1 with rfl|hp1<;>rcases Xc.1 d with rfl|d
  . rfl
  . rw[q1m]at e;rw[q2x _ _ _ _ (h.lt q d)]at k;simp only[Xa,Xb]at e;exact absurd (q7p d (by rw[e.1];exact k)) j
  . rw[q1m]at k;rw[q2x _ _ _ _ (h.lt p hp1)]at e;simp only[Xa,Xb]at k;exact absurd (q7p hp1 (by rw[k.1];exact e)) j
  rw[q2x _ _ _ _ (h.lt p hp1)]at e;rw[q2x _ _ _ _ (h.lt q d)]at k;exact h.inj p hp1 q d f u H e k
 .
  intro p hp1 f u e;rcases Xc.1 hp1 with rfl|hp1
  . rw[q1m]at e;simp only[Xa,Xb]at e;rw[<-e.1];exact m
  rw[q2x _ _ _ _ (h.lt p hp1)]at e;exact h.av p hp1 f u e
 .
  intro p hp1 l;rcases Xc.1 hp1 with rfl|hp1
  . exact q9y _ _ _
  rw[q5r _ _ _ _ (h.lt p hp1)];exact h.i0 p hp1 l
 intro p hp1 f hb;rcases Xc.1 hp1 with rfl|hp1
 . rw[q9y]at hb;cases hb
 rw[q5r _ _ _ _ (h.lt p hp1)]at hb;obtain⟨i1,i2,i3,I⟩:=h.ib p hp1 f hb;refine⟨Xf i1 y.1,i2,λq d C l=>?_,λq d g=>?_⟩
 .
  rcases Xc.1 d with rfl|d
  . rw[q1m]at l;simp only[Xa,Xb]at l;exact j ⟨p,hp1,.inr (by rw[l.1];exact hb)⟩
  rw[q2x _ _ _ _ (h.lt q d)]at l;exact i3 q d C l
 rcases Xc.1 d with rfl|d
 . rw[q9y]at g;cases g
 rw[q5r _ _ _ _ (h.lt q d)]at g;exact I q d g
theorem Rel.alloc(h:Rel C s a w β){cs:List Value}{e:TypeId}{o:bT}{c:Nat}
 (z:∀(w':World) (ow':Nat->Prop),b9 w w' (own β s.hp C.A) ow'->w'.heap[w.heap.size]?=some (.cells ⟨cs⟩ e (0,0))->q5u w' (upd β s.nx (some (w.heap.size,c))) (s.nx+1) ow' s.nx o):
 Rel C {s with hp:=(s.nx,o)::s.hp,nx:=s.nx+1} a (w.alloc (.cells ⟨cs⟩ e)) (upd β s.nx (some (w.heap.size,c))):=by
 have d:∀b,b<w.heap.size->(w.alloc (.cells ⟨cs⟩ e)).heap[b]?=w.heap[b]?:=λb hb=>Below.heap_alloc w _ b hb;have j:w.heap.size<=(w.alloc (.cells ⟨cs⟩ e)).heap.size:=by simp
 have k:∀b,cn β s.hp b->b<w.heap.size:=λb ⟨q,f,g⟩=>h.hp.cC q f b g;have u:∀b,b<w.heap.size->cn (upd β s.nx (some (w.heap.size,c))) ((s.nx,o)::s.hp) b->cn β s.hp b:=by
  rintro b hb ⟨q,f,g⟩;rcases Xc.1 f with rfl|f
  . obtain⟨B,g⟩:=z2o g;simp only[Xa,Xb]at g;omega
  exact⟨q,f,(z2i (h.hp.lt q f)).1 g⟩
 have y:b9 w (w.alloc (.cells ⟨cs⟩ e)) (own β s.hp C.A) (own (upd β s.nx (some (w.heap.size,c))) ((s.nx,o)::s.hp) C.A):=
  ⟨j,λb l hb=>⟨d b hb,λm=>by
   rcases m with n|n
   . exact l (.inl n)
   exact l (.inr (u b hb n))⟩⟩
 refine h.step (X0 _) (λid hid=>q2x _ _ _ _ hid) j (λb hb _=>d b hb) u ?_ ?_ rfl rfl ⟨rfl,λ_=>Xe _⟩
 . refine h.hp.cons y (λb hb=>d b (k b hb)) (λt=>Nat.lt_irrefl _ (k _ t)) (λt=>?_) (z _ _ y (heap_alloc_new w _));have:=h.alt _ t;have:=h.ext.size;omega
 intro p hp;rcases Xc.1 hp with rfl|hp
 . exact .inr (Xe _)
 exact .inl (Xk hp)
end
end
section
open Go Go.RowKit
def q9t:AV->Bool
 |.v x=>x.oneCell'
 |.ptr .. |.apt .. |.sl .. |.osl .. |.el .. |.clo .. |.mp .. =>true
 |_=>false
def q9p:AV->Bool
 |.v _|.sl .. |.el .. =>true
 |_=>false
section
variable {P:Program} {C:Ctx P} {s:St} {a:Act} {w:World} {β:aF} {nx:Nat} {ow:Nat->Prop}
theorem j3w{x:AV}{u:Value}(h:q9t x=true)(d:rep w β nx ow x u):u.oneCell'=true:=by
 cases x<;>simp only[q9t,X6]at h<;>simp only[rep]at d
 . rw[d];exact h
 . obtain⟨_,b,c,_,rfl⟩:=d;rfl
 . obtain⟨_,b,c,_,rfl⟩:=d;rfl
 . rcases d with⟨_,a,c,rfl⟩|⟨b,o,cap,rfl,_⟩<;>rfl
 . rcases d.2 with⟨_,_,_,rfl⟩|⟨b,c,cap,ad,_,rfl,_⟩<;>rfl
 . obtain⟨b,o,rfl,_⟩:=d;rfl
 . obtain⟨l,rfl,e⟩:=d;rfl
 obtain⟨_,b,c,_,rfl⟩:=d;rfl
theorem q7s:∀{xs:List AV} {us:List Value},xs.all q9t=true->y8 w β nx ow xs us->∀u∈us,u.oneCell'=true
 |[],[],_,_,u,b=>by simp at b
 |x::xs,v::us,h,c,u,b=>by
  simp only[Yf,X3]at h;simp only[y8]at c;rcases Xc.1 b with rfl|b
  . exact j3w h.1 c.1
  exact q7s h.2 c.2 u b
 |[],_::_,_,h,_,_=>by simp only[y8]at h
 |_::_,[],_,h,_,_=>by simp only[y8]at h
theorem z4u{x:AV}{u:Value}(h:q9p x=true)(b:rep w β nx ow x u):rep w β 0 ow x u:=by
 cases x<;>simp only[q9p,X6]at h<;>simpa only[rep]using b
theorem qd0:∀{xs:List AV} {us:List Value},xs.all q9p=true->y8 w β nx ow xs us->y8 w β 0 ow xs us
 |[],[],_,_=>by simp only[y8]
 |x::xs,v::us,h,b=>by
  simp only[Yf,X3]at h;simp only[y8]at b⊢;exact⟨z4u h.1 b.1,qd0 h.2 b.2⟩
 |[],_::_,_,h=>by simp only[y8]at h
 |_::_,[],_,h=>by simp only[y8]at h
theorem qp3{b:Nat}:∀{as:List AV} {us:List Value} {o:Nat},y8 w β 0 ow as us->(∀u∈us,u.oneCell'=true)->(∀(j:Nat) (u:Value),us[j]?=some u->w.cell? ⟨b,o+j,none⟩=some u)->q4e w β ow b as o
 |[],[],_,_,_,_=>by simp only[q4e]
 |x::xs,u::us,o,h,c,d=>by
  simp only[y8]at h;simp only[q4e];refine⟨⟨u,by simpa using d 0 u rfl,c u Xu,h.1⟩,qp3 h.2 (λy e=>c y (Xj _ e)) λj v f=>?_⟩;rw[show o+1+j=o+(j+1) by omega];exact d (j+1) v (by simpa using f)
 |[],_::_,_,h,_,_=>by simp only[y8]at h
 |_::_,[],_,h,_,_=>by simp only[y8]at h
end
end
section
open Go Go.RowKit
def z5y(cs:List AV)(off len:Nat):List (List AV):=((cs.drop off).take len).map λc=>[c]
def zg4(a:List (List AV)):Bool:=a.all λr=>r.all λc=>q9t c&&q9p c
theorem zg3:∀{as:List AV},zg4 (as.map λc=>[c])=true->as.all q9t=true/\as.all q9p=true
 |[],_=>⟨rfl,rfl⟩
 |a::as,h=>by
  simp only[zg4,Xi,Yf,List.all_nil,Bool.and_true,X3]at h;have:=zg3 (as:=as) (by simpa only[zg4]using h.2);simp only[Yf,X3];exact⟨⟨h.1.1,this.1⟩,h.1.2,this.2⟩
theorem z7w{w:World}{β:aF}{ow:Nat->Prop}{b:Nat}:∀{as:List AV} {us:List Value} {o:Nat},y8 w β 0 ow as us->(∀u∈us,u.oneCell'=true)->(∀(j:Nat) (u:Value),us[j]?=some u->w.cell? ⟨b,o+j,none⟩=some u)->q0p w β ow 1 b (as.map λc=>[c]) o
 |[],[],_,_,_,_=>by simp only[List.map_nil,q0p]
 |x::xs,u::us,o,h,a,d=>by
  simp only[y8]at h;simp only[Xi,q0p,q4e];refine⟨rfl,⟨⟨u,by simpa using d 0 u rfl,a u Xu,h.1⟩,trivial⟩,z7w h.2 (λy e=>a y (Xj _ e)) λj v f=>?_⟩;rw[show o+1+j=o+(j+1) by omega];exact d (j+1) v (by simpa using f)
 |[],_::_,_,h,_,_=>by simp only[y8]at h
 |_::_,[],_,h,_,_=>by simp only[y8]at h
def bE(rn:Nat->Option Nat)(hp:Hp)(gone:Nat->Prop)(nx:Nat):AV->AV->Prop
 |_,.bU=>True
 |.v x,.v y=>x=y
 |.v x,.sl _ ys=>x=.slice none 0 0/\ys=[]
 |.v x,.osl id _ off len=>x=.slice none 0 0/\off=0/\len=0/\rn id=none/\id<nx
 |.ptr j off,.ptr id c=>rn id=some j/\off=c/\id<nx
 |.apt j sz i off,.apt id d k c=>rn id=some j/\sz=d/\i=k/\off=c/\id<nx
 |.osl j sz off len,.osl id d c e=>rn id=some j/\sz=d/\off=c/\len=e/\id<nx
 |.bsl j off len,.bsl id c e=>rn id=some j/\off=c/\len=e/\id<nx
 |.osl j sz off len,.sl d ys=>sz=d/\gone j/\∃xs,q0i hp j=some (.arr sz xs)/\off+len<=xs.length/\ys=(xs.drop off).take len
 |.sl sz xs,.sl d ys=>xs=ys/\(sz=d\/xs=[])
 |.bsl j off len,.sl sz ys=>sz=1/\gone j/\∃cs,q0i hp j=some (.box cs)/\off+len<=cs.length/\zg4 (z5y cs off len)=true/\ys=z5y cs off len
 |.el sz xs i off,.el d ys k c=>sz=d/\xs=ys/\i=k/\off=c
 |.ptr j off,.el sz ys i c=>i=0/\off=c/\gone j/\∃cs,q0i hp j=some (.box cs)/\cs.all q9t=true/\cs.all q9p=true/\sz=cs.length/\ys=[cs]
 |.agg xs,.agg ys=>xs.length=ys.length/\AvLeL rn hp gone nx xs ys
 |.tup xs,.tup ys=>xs.length=ys.length/\AvLeL rn hp gone nx xs ys
 |.clo f xs,.clo g ys=>f=g/\xs.length=ys.length/\AvLeL rn hp gone nx xs ys
 |.mp j,.mp id=>rn id=some j/\id<nx
 |.erb g,.erb l=>g=l
 |.v x,.erb g=>x=.nilIface/\g=true
 |.grd g a,.grd l b=>g=l/\bE rn hp gone nx a b
 |.grd g a,b=>g=true/\bE rn hp gone nx a b
 |_,_=>False
  where
 AvLeL (rn:Nat->Option Nat) (hp:Hp) (gone:Nat->Prop) (nx:Nat):List AV->List AV->Prop
 |a::as,b::m=>bE rn hp gone nx a b/\AvLeL rn hp gone nx as m
 |[],[]=>True
 |_,_=>False
section
variable {w:World} {β β':aF} {nx nx':Nat} {A:Nat->Prop} {hp:Hp} {ow':Nat->Prop} {rn:Nat->Option Nat} {gone:Nat->Prop}
mutual
theorem q33(n:b9 w w (own β hp A) ow')(d:b8 w β nx A hp)(hb:∀id,id<nx'->β' id=(rn id).bind β)
 (q:∀j,gone j->∀o,(j,o)∈hp->∀b C,β j=some (b,C)->¬ow' b):
 ∀(a R:AV) (u:Value),bE rn hp gone nx' a R->rep w β nx (own β hp A) a u->rep w β' nx' ow' R u:=by
 intro a R u h c
 cases R with
 |bU=>simp only[rep]
 |erb y=>cases a<;>simp only[bE]at h<;>first
  |(simp only[rep]at c⊢;rw[<-h];exact c)
  |(simp only[rep]at c⊢;rw[c,h.1,h.2];simp)
  |(simp only[rep]at c;exact q33 n d hb q _ _ u h.2 (c.1 h.1))
 |v y=>cases a<;>simp only[bE]at h<;>first
  |(simp only[rep]at c⊢;rw[c];exact h)
  |(simp only[rep]at c;exact q33 n d hb q _ _ u h.2 (c.1 h.1))
 |ptr id off=>cases a<;>simp only[bE]at h<;>first
  |(simp only[rep]at c⊢
    obtain⟨t,s,p⟩:=h;obtain⟨_,b,C,B,m⟩:=c;exact⟨p,b,C,by rw[hb id p,t];exact B,by rw[m,s]⟩)
  |(simp only[rep]at c;exact q33 n d hb q _ _ u h.2 (c.1 h.1))
 |mp id=>cases a<;>simp only[bE]at h<;>first
  |(simp only[rep]at c⊢
    obtain⟨t,p⟩:=h;obtain⟨_,b,C,B,m⟩:=c;exact⟨p,b,C,by rw[hb id p,t];exact B,m⟩)
  |(simp only[rep]at c;exact q33 n d hb q _ _ u h.2 (c.1 h.1))
 |apt id sz i off=>cases a<;>simp only[bE]at h<;>first
  |(simp only[rep]at c⊢
    obtain⟨t,s,p,B,m⟩:=h;obtain⟨_,b,C,G,E⟩:=c;exact⟨m,b,C,by rw[hb id m,t];exact G,by rw[E,s,p,B]⟩)
  |(simp only[rep]at c;exact q33 n d hb q _ _ u h.2 (c.1 h.1))
 |sl sz ys=>cases a<;>simp only[bE]at h<;>first
  |(rename_i x
    simp only[rep]at c⊢;obtain⟨rfl,rfl⟩:=h;exact .inl ⟨rfl,none,0,c⟩)
  |(rename_i N xs
    obtain⟨rfl,s⟩:=h;simp only[rep]at c⊢;rcases c with c|⟨b,o,cap,p,B,m,G,E⟩
    . exact .inl c
    rcases s with rfl|rfl
    . exact .inr ⟨b,o,cap,p,B,(n.2 b m G).2,G,q29 n _ _ (λ_ _ O=>O) _ _ E⟩
    exact .inl ⟨rfl,_,_,p⟩)
  |(rename_i j N off len
    obtain⟨rfl,s,xs,p,B,rfl⟩:=h;simp only[rep]at c⊢;obtain⟨W,c⟩:=c;have X:=d.obj _ (q0k p);rcases c with⟨m,rfl,rfl,rfl⟩|⟨b,C,cap,ad,m,rfl,G,E,I⟩
    . exact .inl ⟨by simp,none,0,rfl⟩
    rcases X with⟨D,_⟩|⟨T,U,cur,e,D,z,J,P,K,L⟩
    . simp only at D;rw[m]at D;cases D
    simp only at D
    rw[m]at D;simp only[Xa,Xb]at D;obtain⟨rfl,rfl⟩:=D;have Q:((xs.drop off).take len).length=len:=by simp;omega
    rcases I with rfl|I
    . refine .inr ⟨b,off*N,cap,by rw[Q],by rw[Q];exact G,q j s _ (q0k p) b C m,(Array.getElem?_eq_some_iff.1 z).1,?_⟩
      have:=qe6 (qm6 L off) len;rw[Nat.zero_add]at this;exact q29 n _ _ (λ_ _ O=>O) _ _ this
    have:len=0:=by omega
    subst this;exact .inl ⟨by simp,_,_,rfl⟩)
  |(rename_i j off len
    obtain⟨rfl,s,cs,p,B,m,rfl⟩:=h;obtain⟨m,G⟩:=zg3 m;simp only[rep]at c⊢;obtain⟨_,b,C,cap,ad,E,rfl,I,D⟩:=c;obtain⟨T,U,cur,e,z,J,P⟩:=d.obj _ (q0k p);simp only at z;rw[E]at z;simp only[Xa,Xb]at z;obtain⟨rfl,rfl⟩:=z;have Q:(z5y cs off len).length=len:=by simp[z5y];omega
    rcases D with rfl|rfl
    . refine .inr ⟨b,off,cap,by rw[Q],by rw[Q];exact I,q j s _ (q0k p) b C E,(Array.getElem?_eq_some_iff.1 J).1,?_⟩
      have K:=q6r (q7z P off) len;have L:=q1x (w':=w) (β':=β') (ow':=ow') n 0 0 (Nat.le_refl _) (λ_ hi=>absurd hi (Nat.not_lt_zero _)) _ _ (qd0 G K);refine z7w L (q7s m K) (λk u M=>?_);rw[cell_of_row w b (off+k) cur e (0,0) J];rw[List.getElem?_take]at M
      split at M
      . simpa using M
      cases M
    exact .inl ⟨by simp[z5y],_,_,rfl⟩)
  |(simp only[rep]at c;exact q33 n d hb q _ _ u h.2 (c.1 h.1))
 |osl id sz off len=>cases a<;>simp only[bE]at h<;>first
  |(rename_i x
    obtain⟨t,s,p,B,m⟩:=h;simp only[rep]at c⊢;refine⟨m,.inl ⟨?_,s,p,c.trans t⟩⟩;rw[hb id m,B];rfl)
  |(obtain⟨t,rfl,rfl,rfl,m⟩:=h
    simp only[rep]at c⊢;rw[hb id m,t];exact⟨m,c.2⟩)
  |(simp only[rep]at c;exact q33 n d hb q _ _ u h.2 (c.1 h.1))
 |bsl id off len=>cases a<;>simp only[bE]at h<;>first
  |(obtain⟨t,rfl,rfl,m⟩:=h
    simp only[rep]at c⊢;rw[hb id m,t];exact⟨m,c.2⟩)
  |(simp only[rep]at c;exact q33 n d hb q _ _ u h.2 (c.1 h.1))
 |el sz ys i off=>cases a<;>simp only[bE]at h<;>first
  |(obtain⟨rfl,rfl,s,cs,p,B,m,rfl,rfl⟩:=h
    simp only[rep]at c⊢;obtain⟨_,b,C,G,rfl⟩:=c;obtain⟨T,U,cur,e,E,I,D⟩:=d.obj _ (q0k p);simp only at E;rw[G]at E;simp only[Xa,Xb]at E;obtain⟨rfl,rfl⟩:=E;refine⟨b,0,by simp,q _ s _ (q0k p) b C G,(Xl.1 I).1,?_⟩;simp only[q0p];refine⟨trivial,?_,trivial⟩;have z:=q1x (w':=w) (β':=β') (ow':=ow') n 0 0 (Xe _) (λ_ hi=>absurd hi (Yh _)) _ _ (qd0 m D);refine qp3 z (q7s B D) (λj u M=>?_);rw[Xp,cell_of_row w b j cur e (0,0) I]
    simpa using M)
  |(obtain⟨rfl,rfl,rfl,rfl⟩:=h
    simp only[rep]at c⊢;obtain⟨b,o,t,s,p,B⟩:=c;exact⟨b,o,t,(n.2 b s p).2,p,q29 n _ _ (λ_ _ O=>O) _ _ B⟩)
  |(simp only[rep]at c;exact q33 n d hb q _ _ u h.2 (c.1 h.1))
 |agg ys=>cases a<;>simp only[bE]at h<;>first
  |(simp only[rep]at c⊢
    obtain⟨l,t,s⟩:=c;exact⟨l,t,qd7 n d hb q _ _ l h.2 s⟩)
  |(simp only[rep]at c;exact q33 n d hb q _ _ u h.2 (c.1 h.1))
 |tup ys=>cases a<;>simp only[bE]at h<;>first
  |(simp only[rep]at c⊢
    obtain⟨l,t,s⟩:=c;exact⟨l,t,qd7 n d hb q _ _ l h.2 s⟩)
  |(simp only[rep]at c;exact q33 n d hb q _ _ u h.2 (c.1 h.1))
 |clo f ys=>cases a<;>simp only[bE]at h<;>first
  |(obtain⟨rfl,_,h⟩:=h
    simp only[rep]at c⊢;obtain⟨l,t,s⟩:=c;exact⟨l,t,qd7 n d hb q _ _ l h s⟩)
  |(simp only[rep]at c;exact q33 n d hb q _ _ u h.2 (c.1 h.1))
 |grd g b=>cases a<;>simp only[bE]at h<;>first
  |(obtain⟨rfl,h⟩:=h
    simp only[rep]at c⊢;exact⟨λS=>q33 n d hb q _ _ u h (c.1 S),c.2⟩)
 termination_by structural a=>a
theorem qd7(n:b9 w w (own β hp A) ow')(d:b8 w β nx A hp)(hb:∀id,id<nx'->β' id=(rn id).bind β)
 (q:∀j,gone j->∀o,(j,o)∈hp->∀b C,β j=some (b,C)->¬ow' b):
 ∀(as H:List AV) (us:List Value),bE.AvLeL rn hp gone nx' as H->y8 w β nx (own β hp A) as us->y8 w β' nx' ow' H us:=by
 intro as H us h c
 cases as with
 |nil=>cases H with
  |nil=>cases us<;>simp only[y8]at c⊢
  |cons b V=>simp only[bE.AvLeL]at h
 |cons a as=>cases H with
  |nil=>simp only[bE.AvLeL]at h
  |cons b V=>
   simp only[bE.AvLeL]at h
   cases us with
   |nil=>simp only[y8]at c
   |cons u us=>
    simp only[y8]at c⊢;exact⟨q33 n d hb q a b u h.1 c.1,qd7 n d hb q as V us h.2 c.2⟩
 termination_by structural as=>as
end
end
end
section
open Go Go.RowKit
def q72(nb:Nat)(l:List (Option Nat))(id:Nat):Option Nat:=if id<nb then some id else l.getD (id-nb) none
def TL(xs ys:List (List AV)):Prop:=xs=ys\/∃k,ys=xs.take k
theorem jn4(xs:List (List AV)):TL xs xs=True:=by simp[TL]
theorem q03{xs ys:List (List AV)}(h:xs=ys):TL xs ys:=.inl h
theorem jn3(xs:List (List AV))(k:Nat):TL xs (xs.take k):=.inr ⟨k,rfl⟩
def jf5(rn:Nat->Option Nat)(hp:Hp)(gone:Nat->Prop)(nx:Nat):bT->bT->Prop
 |.box as,.box a=>bE.AvLeL rn hp gone nx as a
 |.arr sz xs,.arr b ys=>sz=b/\TL xs ys
 |.con K as,.con K' a=>(K=K'/\bE.AvLeL rn hp gone nx as a)\/∃T E r,K=z5c T/\K'=j4z T E []/\as=.v (.pointer none):: .v (.slice none 0 0)::r/\bE.AvLeL rn hp gone nx r a
 |_,_=>False
def jr5:bT->Prop
 |.arr _ xs=>xs=[]
 |.con K a=>K.N/\a=[]
 |_=>False
def z90(rn:Nat->Option Nat)(hp:Hp)(gone:Nat->Prop)(nx:Nat)(id:Nat)(o':bT):Prop:=
 match rn id with
 |some j=>∃o,q0i hp j=some o/\jf5 rn hp gone nx o o'
 |none=>jr5 o'
def j55(rn:Nat->Option Nat)(hp:Hp)(gone:Nat->Prop)(nx:Nat):Hp->Prop
 |[]=>True
 |(id,o')::r=>id<nx/\z90 rn hp gone nx id o'/\j55 rn hp gone nx r
def zu3(rn:Nat->Option Nat)(hp:Hp)(gone:Nat->Prop)(nx:Nat)(env:List (Nat×AV)):List (Nat×AV)->Prop
 |[]=>True
 |(k,a)::r=>bE rn hp gone nx (q17 env k) a/\zu3 rn hp gone nx env r
def qb0(rn:Nat->Option Nat)(j:Nat):Hp->Prop
 |[]=>True
 |(id,_)::r=>rn id≠some j/\qb0 rn j r
def zu1(rn:Nat->Option Nat):Hp->Prop
 |[]=>True
 |(id,_)::r=>(∀p∈r,p.1≠id)/\(∀j,rn id=some j->qb0 rn j r)/\zu1 rn r
def Le(s s':St)(l:List (Option Nat)):Prop:=
 s'.nt=s.nt/\s'.nb=s.nb/\s.nb<=s'.nx/\zu3 (q72 s.nb l) s.hp (λj=>qb0 (q72 s.nb l) j s'.hp) s'.nx s.env s'.env/\
 j55 (q72 s.nb l) s.hp (λj=>qb0 (q72 s.nb l) j s'.hp) s'.nx s'.hp/\zu1 (q72 s.nb l) s'.hp
theorem z1x{rn:Nat->Option Nat}{j:Nat}:∀{hp:Hp},qb0 rn j hp->∀p∈hp,rn p.1≠some j
 |(id,o)::r,h,p,hp=>by
  rcases Xc.1 hp with rfl|hp
  . exact h.1
  exact z1x h.2 p hp
theorem zj6{rn:Nat->Option Nat}:∀{hp:Hp},zu1 rn hp->(hp.map (·.1)).Nodup/\∀p∈hp,∀q∈hp,∀j,rn p.1=some j->rn q.1=some j->p.1=q.1
 |[],_=>by simp
 |(id,o)::r,h=>by
  obtain⟨e,d,f⟩:=h;obtain⟨i1,i2⟩:=zj6 f;refine⟨by simp only[Xi,Yj];exact⟨λg=>by obtain⟨q,c,k⟩:=X5.1 g;exact e q c k,i1⟩,?_⟩;intro p hp q c j a b;rcases Xc.1 hp with rfl|hp<;>rcases Xc.1 c with rfl|c
  . rfl
  . exact absurd b (z1x (d j a) q c)
  . exact absurd a (z1x (d j b) p hp)
  exact i2 p hp q c j a b
theorem qp0{rn:Nat->Option Nat}{hp:Hp}{gone:Nat->Prop}{nx:Nat}:∀{hp':Hp},j55 rn hp gone nx hp'->∀p∈hp',p.1<nx/\z90 rn hp gone nx p.1 p.2
 |(id,o)::r,h,p,hp=>by
  rcases Xc.1 hp with rfl|hp
  . exact⟨h.1,h.2.1⟩
  exact qp0 h.2.2 p hp
theorem zj7{rn:Nat->Option Nat}{hp:Hp}{gone:Nat->Prop}{nx:Nat}{env:List (Nat×AV)}:∀{b:List (Nat×AV)},zu3 rn hp gone nx env b->∀t,bE rn hp gone nx (q17 env t) (q17 b t)
 |[],_,t=>by simp only[q17];cases q17 env t<;>simp only[bE]
 |(k,a)::r,h,t=>by
  simp only[q17]
  split
  . rename_i c;subst c;exact h.1
  exact zj7 h.2 t
theorem qo9{P:Program}{C:Ctx P}{s s':St}{a:Act}{w:World}{β:aF}{l:List (Option Nat)}(h:Rel C s a w β)(hl:Le s s' l):
 ∃β',Rel C s' a w β'/\∀r r' u,bE (q72 s.nb l) s.hp (λj=>qb0 (q72 s.nb l) j s'.hp) s'.nx r r'->rep w β s.nx (own β s.hp C.A) r u->rep w β' s'.nx (own β' s'.hp C.A) r' u:=by
 obtain⟨l1,l2,l3,l4,S,l6⟩:=hl
 generalize ao:q72 s.nb l=rn at l4 S l6
 have J:∀id,id<s.nb->rn id=some id:=λid hid=>by rw[<-ao];simp[q72,hid]
 let β':aF:=⟨λid=>(rn id).bind β,λid=>(rn id).elim [] β.inn⟩
 have U:=zj6 l6;have z:∀p∈s'.hp,∀b c,β' p.1=some (b,c)->∃j o,rn p.1=some j/\(j,o)∈s.hp/\β j=some (b,c):=by
  intro p hp b c m;have f:=(qp0 S p hp).2;unfold z90 at f;simp only[β']at m
  cases H:rn p.1 with
  |none=>rw[H]at m;cases m
  |some j=>
   rw[H]at f m;obtain⟨o,I,_⟩:=f;exact⟨j,o,rfl,q0k I,m⟩
 have B:∀p∈s'.hp,∀b,bof β' p.1 b->∃j o,rn p.1=some j/\(j,o)∈s.hp/\bof β j b:=by
  rintro p hp b (⟨c,m⟩|hb)
  . obtain⟨j,o,f,d,y⟩:=z p hp b c m;exact⟨j,o,f,d,.inl ⟨c,y⟩⟩
  have f:=(qp0 S p hp).2;unfold z90 at f;simp only[β']at hb
  cases H:rn p.1 with
  |none=>rw[H]at hb;cases hb
  |some j=>
   rw[H]at f hb;obtain⟨o,I,_⟩:=f;exact⟨j,o,rfl,q0k I,.inr hb⟩
 have Y:∀b,own β' s'.hp C.A b->own β s.hp C.A b:=by
  rintro b (hb|⟨p,hp,m⟩)
  . exact .inl hb
  obtain⟨j,o,_,d,y⟩:=B p hp b m;exact .inr ⟨(j,o),d,y⟩
 have N:b9 w w (own β s.hp C.A) (own β' s'.hp C.A):=⟨Xe _,λb hb _=>⟨rfl,λhx=>hb (Y b hx)⟩⟩;have L:∀id,id<s'.nx->β' id=(rn id).bind β:=λ_ _=>rfl;have Z:∀j,qb0 rn j s'.hp->∀o,(j,o)∈s.hp->∀b c,β j=some (b,c)->¬own β' s'.hp C.A b:=by
  rintro j hj o I b c m (hx|⟨p,hp,a6⟩)
  . exact h.hp.av _ I b c m hx
  obtain⟨j',o',d,y,g⟩:=B p hp b a6;have:=h.hp.bD _ I _ y b (.inl ⟨c,m⟩) g;simp only at this;subst this;exact z1x hj p hp d
 refine⟨β',?_,λr r' u H ar=>q33 N h.hp L Z r r' u H ar⟩;refine {df:=h.df,nt:=by rw[l1];exact h.nt,nb:=by rw[l2];exact h.nb,ntc:=by rw[l1];exact h.ntc,alt:=h.alt,gs:=h.gs,env:=λt=>q33 N h.hp L Z _ _ _ (zj7 l4 t) (h.env t),hp:=?_,ext:=?_}
 .
  refine⟨?_,λp hp=>(qp0 S p hp).1,U.1,?_,?_,?_,?_⟩
  .
   intro p hp;have f:=(qp0 S p hp).2;unfold z90 at f
   cases H:rn p.1 with
   |none=>
    rw[H]at f;have hn:β' p.1=none:=by simp only[β',H];rfl
    cases hp2:p.2 with
    |box as=>rw[hp2]at f;exact f.elim
    |arr sz xs=>rw[hp2]at f;exact .inl ⟨hn,f⟩
    |con K ex=>rw[hp2]at f;exact .inr ⟨hn,f⟩
   |some j=>
    rw[H]at f;obtain⟨o,I,d⟩:=f;have y:=h.hp.obj _ (q0k I);have O:β' p.1=β j:=by simp only[β',H];rfl
    cases o with
    |box as=>
     cases hp2:p.2 with
     |arr sz ys=>rw[hp2]at d;exact d.elim
     |con K W=>rw[hp2]at d;exact d.elim
     |box W=>
      rw[hp2]at d;obtain⟨b,c,cur,e,g,n,D⟩:=y;exact⟨b,c,cur,e,O.trans g,n,qd7 N h.hp L Z _ _ _ d D⟩
    |arr sz xs=>
     cases hp2:p.2 with
     |box W=>rw[hp2]at d;exact d.elim
     |con K W=>rw[hp2]at d;exact d.elim
     |arr b5 ys=>
      rw[hp2]at d;obtain⟨rfl,d⟩:=d;rcases d with rfl|⟨k,rfl⟩
      .
       rcases y with⟨g,n⟩|⟨b,c,cur,e,g,n,D,G,M,h9⟩
       . exact .inl ⟨O.trans g,n⟩
       exact .inr ⟨b,c,cur,e,O.trans g,n,D,G,M,q29 N _ _ (λ_ _ hu=>hu) _ _ h9⟩
      rcases y with⟨g,n⟩|⟨b,c,cur,e,g,n,D,G,M,h9⟩
      . exact .inl ⟨O.trans g,by rw[n,List.take_nil]⟩
      exact .inr ⟨b,c,cur,e,O.trans g,n,D,by rw[X4];omega,M,q29 N _ _ (λ_ _ hu=>hu) _ _ (qe6 h9 k)⟩
    |con K as=>
     cases hp2:p.2 with
     |box W=>rw[hp2]at d;exact d.elim
     |arr sz ys=>rw[hp2]at d;exact d.elim
     |con K' W=>
      rw[hp2]at d;rcases d with⟨rfl,d⟩|⟨T,E,r,rfl,rfl,rfl,d⟩
      .
       rcases y with⟨b,c,us,g,n,D,G⟩|⟨g,n,D⟩
       .
        refine .inl ⟨b,c,us,O.trans g,n,?_,qd7 N h.hp L Z _ _ _ d G⟩;have hi:β'.inn p.1=β.inn j:=by simp only[β',H];rfl
        rw[hi];exact K.mono N (λ_ _=>rfl) D
       subst D;refine .inr ⟨O.trans g,n,?_⟩
       cases W with
       |nil=>rfl
       |cons x r=>simp only[bE.AvLeL]at d
      rcases y with⟨b,c,us,g,n,D,G⟩|⟨_,n,_⟩
      .
       match us,D,G with
       |u1::u2::us,D,G=>
        simp only[y8,rep]at G;obtain⟨rfl,rfl,G⟩:=G;exact .inl ⟨b,c,us,O.trans g,n,⟨_,_,D,.inl rfl,.inl ⟨rfl,rfl⟩⟩,qd7 N h.hp L Z _ _ _ d G⟩
      exact n.elim
  . intro p hp q V b c c' f d;obtain⟨j,o,y,g,n⟩:=z p hp b c f;obtain⟨j',o',D,G,M⟩:=z q V b c' d;have:=h.hp.inj _ g _ G b c c' n M;simp only at this;subst this;exact U.2 p hp q V j y D
  . intro p hp b c f;obtain⟨j,o,y,g,n⟩:=z p hp b c f;exact h.hp.av _ g b c n
  .
   intro p hp X;refine List.eq_nil_iff_forall_not_mem.2 λb hb=>?_;have f:=(qp0 S p hp).2;unfold z90 at f;simp only[β']at hb
   cases H:rn p.1 with
   |none=>rw[H]at hb;cases hb
   |some j=>
    rw[H]at f hb;obtain⟨o,I,d⟩:=f;have b0:qb2 o=false:=by
     cases o<;>cases hp2:p.2<;>rw[hp2]at d X<;>first|rfl|exact d.elim|cases X
    have:=h.hp.i0 _ (q0k I) b0;simp only at this;rw[show (some j:Option Nat).elim [] β.inn=β.inn j from rfl,this]at hb
    cases hb
  intro p hp b hb;obtain⟨j,o,y,g,n⟩:=B p hp b (.inr hb);have b1:b∈β.inn j:=by
   simp only[β']at hb;rw[y]at hb;exact hb
  obtain⟨i1,i2,i3,i4⟩:=h.hp.ib _ g b b1;refine⟨i1,i2,λq V c X=>?_,λq V X=>?_⟩
  . obtain⟨j',o',_,G,M⟩:=z q V b c X;exact i3 _ G c M
  obtain⟨j',o',D,G,M⟩:=B q V b (.inr X);have:=h.hp.bD _ G _ g b M n;simp only at this;subst this;exact (U.2 p hp q V _ y D).symm
 refine {nx:=by rw[h.nb];exact l3,gh:=?_,gi:=?_,ids:=?_,blk:=?_,os:=h.ext.os,tape:=h.ext.tape,output:=h.ext.output,size:=h.ext.size,keep:=h.ext.keep}
 . intro id hid;rw[h.nb]at hid;simp only[β',J id hid];exact h.ext.gh id (by rw[h.nb];exact hid)
 . intro id hid b2;have Q:=hid;rw[h.nb]at Q;simp only[β',J id Q];exact h.ext.gi id hid b2
 .
  intro p hp;rcases Yi p.1 C.nx0 with b3|b4
  . have R:=b3;rw[h.nb]at R;have f:=(qp0 S p hp).2;unfold z90 at f;rw[J _ R]at f;obtain⟨o,I,_⟩:=f;have:=h.ext.ids (p.1,o) (q0k I);exact this
  exact .inr b4
 intro p hp b f;obtain⟨j,o,y,g,n⟩:=B p hp b f;exact h.ext.blk _ g b n
end
section
open Go Go.RowKit
def RK{P:Program}(C:Ctx P)(K:St->Prop)(a:Act)(w:World):Prop:=∃s β,Rel C s a w β/\K s
def q1s(P:Program)(t:TypeId):Option (List Value):=((P.info? t).bind (·.zero)).map (·.cells.toList)
def qc8:AV->Option (List AV)
 |.agg cs=>some cs
 |.v x=>if x.oneCell'=true then some [.v x]else none
 |.ptr id off=>some [.ptr id off]
 |.mp id=>some [.mp id]
 |.apt id sz i off=>some [.apt id sz i off]
 |.sl sz xs=>some [.sl sz xs]
 |.osl id sz off len=>some [.osl id sz off len]
 |.el sz xs i off=>some [.el sz xs i off]
 |.clo f xs=>some [.clo f xs]
 |_=>none
section
variable {P:Program} {C:Ctx P} {s:St} {a:Act} {w:World} {β:aF} {nx:Nat} {ow:Nat->Prop}
theorem q9k{x:AV}{u:Value}{cs:List AV}(h:qc8 x=some cs)(d:rep w β nx ow x u):y8 w β nx ow cs u.cells.toList:=by
 cases x<;>simp only[qc8,Xa,reduceCtorEq]at h
 .
  split at h
  .
   simp only[Xa]at h;subst h;simp only[rep]at d;subst d
   rename_i g
   cases u<;>simp[Value.oneCell']at g<;>simp[Value.cells,y8,rep]
  cases h
 all_goals subst h
 . have e:=d;simp only[rep]at d;obtain⟨_,b,c,_,rfl⟩:=d;simp only[Value.cells,y8];exact⟨e,trivial⟩
 . have e:=d;simp only[rep]at d;obtain⟨_,b,c,_,rfl⟩:=d;simp only[Value.cells,y8];exact⟨e,trivial⟩
 . have e:=d;simp only[rep]at d;rcases d with⟨_,a,c,rfl⟩|⟨b,o,cap,rfl,_⟩<;>simp only[Value.cells,y8]<;>exact⟨e,trivial⟩
 . have e:=d;simp only[rep]at d;rcases d.2 with⟨_,_,_,rfl⟩|⟨b,c,cap,ad,_,rfl,_⟩<;>simp only[Value.cells,y8]<;>exact⟨e,trivial⟩
 . have e:=d;simp only[rep]at d;obtain⟨b,o,rfl,_⟩:=d;simp only[Value.cells,y8];exact⟨e,trivial⟩
 . simp only[rep]at d;obtain⟨l,rfl,f⟩:=d;simpa only[Value.cells]using f
 . have e:=d;simp only[rep]at d;obtain⟨l,rfl,f⟩:=d;simp only[Value.cells,y8];exact⟨e,trivial⟩
 have e:=d;simp only[rep]at d;obtain⟨_,b,c,_,rfl⟩:=d;simp only[Value.cells,y8];exact⟨e,trivial⟩
theorem qw4(w:World)(β:aF)(nx:Nat)(ow:Nat->Prop):∀(zs:List Value),y8 w β nx ow (zs.map AV.v) zs
 |[]=>by simp[y8]
 |z::zs=>by simp only[Xi,y8,rep];exact⟨trivial,qw4 w β nx ow zs⟩
theorem q2d{x:Operand}(h:Rel C s a w β)(b:(y9 s.env x).aZ):rep w β s.nx (own β s.hp C.A) (y9 s.env x).st (a.eval x):=q1n (h.ev x) b
theorem j83(h:Rel C s a w β){o:Oper}{e:TypeId}{zs:List Value}{K:St->Prop}{Q:Exit->Act->World->Prop}(g:o.op=.alloc e)(b:q1s P e=some zs)(hd:dok s.nt o.dst=true)
 (j:K (({s with hp:=(s.nx,.box (zs.map AV.v))::s.hp,nx:=s.nx+1}:St).put o.dst (.ptr s.nx 0))):o.wp P a w (RK C K) Q:=by
 unfold q1s at b;simp only[Xd,Xt]at b;obtain⟨z,⟨i,hi,b⟩,rfl⟩:=b;have d:(execOp a.eval o).run P w=.ok (.value (.pointer (some ⟨w.heap.size,0,none⟩))) (w.alloc (.cells ⟨z.cells.toList⟩ e)):=by
  unfold execOp;simp only[g];simp[Instr.alloc,zeroValue,typeInfo,hi,b,newVar,newRow]
 unfold Oper.wp;rw[d];have k:=h.alloc (cs:=z.cells.toList) (e:=e) (o:=.box (z.cells.toList.map AV.v)) (c:=0) (λw' ow' _ f=>⟨w.heap.size,0,_,e,q1m _ _ _,f,qw4 _ _ _ _ _⟩);refine⟨_,_,k.put ?_ hd,j⟩;simp only[rep];exact⟨Xo _,w.heap.size,0,q1m _ _ _,rfl⟩
theorem j5f(h:Rel C s a w β){o:Oper}{e:TypeId}{zs:List Value}{K:St->Prop}{Q:Exit->Act->World->Prop}(g:o.op=.alloc e)(b:q1s P e=some zs)(hd:dok s.nt o.dst=true)
 (j:K (({s with hp:=(s.nx,.con (z5c e) (zs.map AV.v))::s.hp,nx:=s.nx+1}:St).put o.dst (.ptr s.nx 0))):o.wp P a w (RK C K) Q:=by
 unfold q1s at b;simp only[Xd,Xt]at b;obtain⟨z,⟨i,hi,b⟩,rfl⟩:=b;have d:(execOp a.eval o).run P w=.ok (.value (.pointer (some ⟨w.heap.size,0,none⟩))) (w.alloc (.cells ⟨z.cells.toList⟩ e)):=by
  unfold execOp;simp only[g];simp[Instr.alloc,zeroValue,typeInfo,hi,b,newVar,newRow]
 unfold Oper.wp;rw[d];have k:=h.alloc (cs:=z.cells.toList) (e:=e) (o:=.con (z5c e) (z.cells.toList.map AV.v)) (c:=0) (λw' ow' _ f=> .inl ⟨w.heap.size,0,_,q1m _ _ _,(Xl.1 f).1,f,qw4 _ _ _ _ _⟩);refine⟨_,_,k.put ?_ hd,j⟩;simp only[rep];exact⟨Xo _,w.heap.size,0,q1m _ _ _,rfl⟩
theorem jp1(h:Rel C s a w β){o:Oper}{e:TypeId}{x:Operand}{cs:List AV}{K:St->Prop}{Q:Exit->Act->World->Prop}(f:o.op=.box e x)(g:(y9 s.env x).aZ)(j:qc8 (y9 s.env x).st=some cs)(hd:dok s.nt o.dst=true)
 (k:K (({s with hp:=(s.nx,.box cs)::s.hp,nx:=s.nx+1}:St).put o.dst (.ptr s.nx 0))):o.wp P a w (RK C K) Q:=by
 have l:=q9k j (q2d h g);have b:(execOp a.eval o).run P w=.ok (.value (.pointer (some ⟨w.heap.size,0,none⟩))) (w.alloc (.cells ⟨(a.eval x).cells.toList⟩ e)):=by
  unfold execOp;simp only[f];simp[Instr.box,newVar,newRow]
 unfold Oper.wp;rw[b];have m:=h.alloc (cs:=(a.eval x).cells.toList) (e:=e) (o:=.box cs) (c:=0) (λw' ow' n d=>⟨w.heap.size,0,_,e,q1m _ _ _,d,q1x n _ _ (X0 _) (λid hid=>q2x _ _ _ _ hid) _ _ l⟩);refine⟨_,_,m.put ?_ hd,k⟩;simp only[rep];exact⟨Xo _,w.heap.size,0,q1m _ _ _,rfl⟩
theorem jg1(h:Rel C s a w β){o:Oper}{e:TypeId}{x:Operand}{cs:List AV}{K:St->Prop}{Q:Exit->Act->World->Prop}(f:o.op=.box e x)(g:(y9 s.env x).aZ)(j:qc8 (y9 s.env x).st=some cs)(hd:dok s.nt o.dst=true)
 (k:K (({s with hp:=(s.nx,.con (z5c e) cs)::s.hp,nx:=s.nx+1}:St).put o.dst (.ptr s.nx 0))):o.wp P a w (RK C K) Q:=by
 have l:=q9k j (q2d h g);have b:(execOp a.eval o).run P w=.ok (.value (.pointer (some ⟨w.heap.size,0,none⟩))) (w.alloc (.cells ⟨(a.eval x).cells.toList⟩ e)):=by
  unfold execOp;simp only[f];simp[Instr.box,newVar,newRow]
 unfold Oper.wp;rw[b];have m:=h.alloc (cs:=(a.eval x).cells.toList) (e:=e) (o:=.con (z5c e) cs) (c:=0) (λw' ow' n d=> .inl ⟨w.heap.size,0,_,q1m _ _ _,(Xl.1 d).1,d,q1x n _ _ (X0 _) (λid hid=>q2x _ _ _ _ hid) _ _ l⟩);refine⟨_,_,m.put ?_ hd,k⟩;simp only[rep];exact⟨Xo _,w.heap.size,0,q1m _ _ _,rfl⟩
end
end
section
open Go Go.RowKit
def q4n:Hp->Nat->Hp
 |[],_=>[]
 |(k,o)::r,id=>if k=id then q4n r id else (k,o)::q4n r id
def q6d:List Nat->Hp->Hp
 |[],hp=>hp
 |i::a,hp=>q6d a (q4n hp i)
def q80:List AV->List Nat
 |[]=>[]
 |.osl id _ _ _::r=>id::q80 r
 |_::r=>q80 r
def frz(hp:Hp):AV->AV
 |.osl id sz off len=>match q0i hp id with
  |some (.arr _ xs)=> .sl sz ((xs.drop off).take len)
  |_=> .osl id sz off len
 |a=>a
def qy4(hp:Hp):List AV->Prop
 |[]=>True
 |.osl id sz off len::r=>(match q0i hp id with
  |some (.arr a xs)=>a=sz/\off+len<=xs.length
  |_=>False)/\qy4 hp r
 |_::r=>qy4 hp r
theorem z0h{p:Nat×bT}{id:Nat}:∀{hp:Hp},p∈q4n hp id↔p∈hp/\p.1≠id
 |[]=>by simp[q4n]
 |(k,o)::r=>by
  unfold q4n
  split
  .
   rename_i c
   subst c;rw[z0h]
   constructor
   . rintro⟨a,b⟩;exact⟨Xj _ a,b⟩
   rintro⟨a,b⟩;rcases Xc.1 a with rfl|a
   . exact absurd rfl b
   exact⟨a,b⟩
  rename_i c
  simp only[Xc,z0h]
  constructor
  .
   rintro (rfl|⟨a,b⟩)
   . exact⟨.inl rfl,c⟩
   exact⟨.inr a,b⟩
  rintro⟨rfl|a,b⟩
  . exact .inl rfl
  exact .inr ⟨a,b⟩
theorem z10{p:Nat×bT}:∀{ids:List Nat} {hp:Hp},p∈q6d ids hp↔p∈hp/\p.1∉ids
 |[],hp=>by simp[q6d]
 |i::a,hp=>by simp only[q6d,z10,z0h,Xc,not_or,and_assoc]
theorem ca{id:Nat}:∀{hp:Hp},(q4n hp id).Sublist hp
 |[]=>by simp[q4n]
 |(k,o)::r=>by
  unfold q4n
  split
  . exact (ca).cons _
  exact (ca).cons_cons _
theorem q8y:∀{ids:List Nat} {hp:Hp},(q6d ids hp).Sublist hp
 |[],_=>List.Sublist.refl _
 |i::a,hp=>(q8y (ids:=a) (hp:=q4n hp i)).trans ca
section
variable {P:Program} {C:Ctx P} {s:St} {a:Act} {w:World} {β:aF} {nx:Nat} {A:Nat->Prop} {hp:Hp}
theorem j2m{hp':Hp}(c:hp'.Sublist hp){b:Nat}(h:own β hp' A b):own β hp A b:=by
 rcases h with h|⟨p,hp,h⟩
 . exact .inl h
 exact .inr ⟨p,c.subset hp,h⟩
theorem z8v{hp':Hp}(b:hp'.Sublist hp):b9 w w (own β hp A) (own β hp' A):=⟨Xe _,λ_ hb _=>⟨rfl,λh=>hb (j2m b h)⟩⟩
theorem b8.sub{hp':Hp}(h:b8 w β nx A hp)(c:hp'.Sublist hp):b8 w β nx A hp' where
 obj p hp:=q48 (z8v c) (Xe _) (λ_ _=>rfl) (h.lt p (c.subset hp)) (λ_ _=>rfl) (λ_=>rfl) (h.obj p (c.subset hp))
 lt p hp:=h.lt p (c.subset hp)
 nd:=(c.map _).nodup h.nd
 inj p hp q d:=h.inj p (c.subset hp) q (c.subset d)
 av p hp:=h.av p (c.subset hp)
 i0 p hp:=h.i0 p (c.subset hp)
 ib p hp b hb:=by
  obtain⟨e,f,g,j⟩:=h.ib p (c.subset hp) b hb;exact⟨e,f,λq d=>g q (c.subset d),λq d=>j q (c.subset d)⟩
theorem Rel.sub{hp':Hp}(h:Rel C s a w β)(b:hp'.Sublist s.hp):Rel C {s with hp:=hp'} a w β:=
 h.step (Xe _) (λ_ _=>rfl) (Xe _) (λ_ _ _=>rfl) (λ_ _ ⟨q,c,d⟩=>⟨q,b.subset c,d⟩) (h.hp.sub b) (λ_ hp=> .inl (Xk (b.subset hp))) rfl rfl ⟨rfl,λ_=>Xe _⟩
theorem z8i(d:b8 w β nx A hp){hp':Hp}(m:hp'.Sublist hp):∀{cs:List AV} {us:List Value},(∀i∈q80 cs,∀o,(i,o)∉hp')->qy4 hp cs->y8 w β nx (own β hp A) cs us->y8 w β nx (own β hp' A) (cs.map (frz hp)) us
 |[],[],_,_,_=>by simp[y8]
 |x::xs,u::us,hi,f,e=>by
  simp only[y8,Xi]at e⊢;have n:qy4 hp xs:=by cases x<;>simp only[qy4]at f<;>first|exact f|exact f.2
  have hi':∀i∈q80 xs,∀o,(i,o)∉hp':=λi t=>hi i (by cases x<;>simp only[q80]<;>first|exact t|exact Xj _ t);refine⟨?_,z8i d m hi' n e.2⟩;have keep:∀y,rep w β nx (own β hp A) y u->rep w β nx (own β hp' A) y u:=λy D=>q5i (z8v m) nx nx (Xe _) (λ_ _=>rfl) y u D
  cases x with
  |osl id sz off len=>
   simp only[frz];simp only[qy4]at f
   cases z:q0i hp id with
   |none=>exact keep _ e.1
   |some o=>
    cases o with
    |box cs=>exact keep _ e.1
    |con K cs=>exact keep _ e.1
    |arr q ys=>
     rw[z]at f;obtain⟨⟨rfl,g⟩,_⟩:=f;refine q33 (rn:=some) (gone:=λj=>∀o,(j,o)∉hp') (nx':=nx) (z8v m) d (λ_ _=>rfl) ?_ (.osl id q off len) _ u ?_ e.1
     .
      rintro j E o B b c k (G|⟨p,hp1,l⟩)
      . exact d.av _ B b c k G
      have:=d.bD _ B _ (m.subset hp1) b (.inl ⟨c,k⟩) l;simp only at this;subst this;exact E p.2 hp1
     simp only[bE];exact⟨trivial,hi id (by simp[q80]),ys,z,g,rfl⟩
  |_=>exact keep _ e.1
 |[],_::_,_,_,h=>by simp only[y8]at h
 |_::_,[],_,_,h=>by simp only[y8]at h
def q0t:Hp->Nat->bT->Hp
 |[],_,_=>[]
 |(k,o)::r,id,o'=>if k=id then (k,o')::r else (k,o)::q0t r id o'
theorem qb1{id:Nat}{o':bT}:∀{hp:Hp},(q0t hp id o').map (·.1)=hp.map (·.1)
 |[]=>rfl
 |(k,o)::r=>by
  unfold q0t
  split
  . rfl
  simp[qb1]
theorem qn1{id:Nat}{o':bT}{p:Nat×bT}:∀{hp:Hp},(hp.map (·.1)).Nodup->p∈q0t hp id o'->p=(id,o')\/(p∈hp/\p.1≠id)
 |[],_,h=>by simp[q0t]at h
 |(k,o)::r,b,h=>by
  simp only[Xi,Yj]at b;unfold q0t at h
  split at h
  .
   rename_i c
   subst c;rcases Xc.1 h with rfl|h
   . exact .inl rfl
   exact .inr ⟨Xj _ h,λd=>b.1 (by rw[<-d];exact Xk h)⟩
  rename_i c
  rcases Xc.1 h with rfl|h
  . exact .inr ⟨Xu,c⟩
  rcases qn1 b.2 h with h|⟨e,f⟩
  . exact .inl h
  exact .inr ⟨Xj _ e,f⟩
theorem qd1{id:Nat}{o':bT}{p:Nat×bT}{hp:Hp}(h:p∈q0t hp id o'):∃q∈hp,q.1=p.1:=by
 have:p.1∈(q0t hp id o').map (·.1):=Xk h;rw[qb1]at this;obtain⟨q,b,c⟩:=X5.1 this;exact⟨q,b,c⟩
theorem zq2{id:Nat}{o':bT}{q:Nat×bT}{hp:Hp}(h:q∈hp):∃p∈q0t hp id o',p.1=q.1:=by
 have:q.1∈(q0t hp id o').map (·.1):=by rw[qb1];exact Xk h
 obtain⟨p,b,c⟩:=X5.1 this;exact⟨p,b,c⟩
theorem j96{id:Nat}{o':bT}:own β (q0t hp id o') A=own β hp A:=by
 funext b
 apply propext
 constructor
 .
  rintro (h|⟨p,hp1,c⟩)
  . exact .inl h
  obtain⟨q,d,e⟩:=qd1 hp1;exact .inr ⟨q,d,by rw[e];exact c⟩
 rintro (h|⟨p,hp1,c⟩)
 . exact .inl h
 obtain⟨q,d,e⟩:=zq2 (id:=id) (o':=o') hp1;exact .inr ⟨q,d,by rw[e];exact c⟩
theorem j7i{id:Nat}{o':bT}{b:Nat}:cn β (q0t hp id o') b↔cn β hp b:=by
 constructor
 . rintro⟨p,hp1,c⟩;obtain⟨q,d,e⟩:=qd1 hp1;exact⟨q,d,by rw[e];exact c⟩
 rintro⟨p,hp1,c⟩;obtain⟨q,d,e⟩:=zq2 (id:=id) (o':=o') hp1;exact⟨q,d,by rw[e];exact c⟩
theorem Rel.write(h:Rel C s a w β){id b c:Nat}{o o':bT}{cur':Array Value}(H:q0i s.hp id=some o)(hb:β id=some (b,c))
 (I:∀w',b9 w w' (own β s.hp C.A) (own β s.hp C.A)->(w.setRow b cur')=w'->q5u w' β s.nx (own β s.hp C.A) id o')(t:qb2 o'=qb2 o:=by rfl):
 Rel C {s with hp:=q0t s.hp id o'} a (w.setRow b cur') β:=by
 have u:=q0k H;have k:=q7p (p:=(id,o)) u hb;have E:b9 w (w.setRow b cur') (own β s.hp C.A) (own β s.hp C.A):=⟨by simp,λg d _=>⟨setRow_other w b g cur' (λe=>d (.inr (e▸k))),d⟩⟩;refine h.step (Xe _) (λ_ _=>rfl) (by simp) (λg _ d=>setRow_other w b g cur' (λe=>d (e▸k))) (λg _ d=>j7i.1 d) ?_ (λp hp=>by
  obtain⟨q,f,j⟩:=qd1 hp;exact .inl (by rw[<-j];exact Xk f)) rfl rfl ⟨rfl,λ_=>Xe _⟩
 refine⟨?_,?_,by rw[qb1];exact h.hp.nd,?_,?_,?_,?_⟩
 .
  intro p hp;rw[j96];rcases qn1 h.hp.nd hp with rfl|⟨f,j⟩
  . exact I _ E rfl
  refine q48 E (Xe _) (λ_ _=>rfl) (h.hp.lt p f) (λg y=>setRow_other w b g cur' (λe=>j ?_)) (λ_=>rfl) (h.hp.obj p f);subst e;exact h.hp.bD p f _ u g y (.inl ⟨c,hb⟩)
 . intro p hp;obtain⟨q,f,j⟩:=qd1 hp;rw[<-j];exact h.hp.lt q f
 . intro p hp q J g z K f j;obtain⟨L,l,m⟩:=qd1 hp;obtain⟨M,n,N⟩:=qd1 J;rw[<-m]at f⊢;rw[<-N]at j⊢;exact h.hp.inj L l M n g z K f j
 . intro p hp g z f;obtain⟨q,j,l⟩:=qd1 hp;rw[<-l]at f;exact h.hp.av q j g z f
 .
  intro p hp G;rcases qn1 h.hp.nd hp with rfl|⟨f,j⟩
  . exact h.hp.i0 (id,o) u (t▸G)
  exact h.hp.i0 p f G
 intro p hp g d;obtain⟨q,j,l⟩:=qd1 hp;rw[<-l]at d⊢;obtain⟨i1,i2,i3,O⟩:=h.hp.ib q j g d;refine⟨by simpa using i1,i2,λr B=>?_,λr B=>?_⟩
 . obtain⟨D,m,n⟩:=qd1 B;rw[<-n];exact i3 D m
 obtain⟨D,m,n⟩:=qd1 B;rw[<-n];exact O D m
end
end
section
open Go Go.RowKit
def q4p(cs:List AV)(off:Nat)(ys:List AV):List AV:=cs.take off++ys++cs.drop (off+ys.length)
section
variable {P:Program} {C:Ctx P} {s:St} {a:Act} {w:World} {β:aF} {nx:Nat} {A:Nat->Prop} {hp:Hp} {ow:Nat->Prop}
theorem z1b{cs ys:List AV}{us vs:List Value}{off:Nat}(h:y8 w β nx ow cs us)(b:y8 w β nx ow ys vs):y8 w β nx ow (q4p cs off ys) (us.take off++vs++us.drop (off+vs.length)):=by
 unfold q4p;rw[q1t b];exact q5x (q5x (q6r h off) b) (q7z h _)
theorem zq7(off:Nat):∀(l:List Value) (k:Nat) (cells:Array Value),off+k+l.length<=cells.size->
 ((l.zipIdx k).foldl (λcs (p:Value×Nat)=>cs.setIfInBounds (off+p.2) p.1) cells).toList=cells.toList.take (off+k)++l++cells.toList.drop (off+k+l.length)
 |[],k,cells,_=>by simp
 |v::l,k,cells,h=>by
  simp only[Yo]at h;simp only[List.zipIdx_cons,List.foldl_cons];rw[zq7 off l (k+1) _ (by simp;omega),Array.toList_setIfInBounds];have:=list_seg_step cells.toList (off+k) v l (by simp;omega);rw[show off+(k+1)=off+k+1 by omega,this];simp[Yl]
theorem zq9{pl:Nat->Option (Nat×Nat)}{cells:Array Value}{i off n:Nat}{v:Value}{b:List (Nat×Value)}(hp:pl i=some (off,n))(d:v.cells.size=n)(c:off+v.cells.size<=cells.size):
 Instr.fill pl cells ((i,v)::b)=Instr.fill pl ⟨cells.toList.take off++v.cells.toList++cells.toList.drop (off+v.cells.size)⟩ b:=by
 rw[Instr.fill];simp only[hp];rw[if_neg (by simp;omega)]
 congr 1
 apply Xr;have:=zq7 off v.cells.toList 0 cells (by simpa using c);simp only[Yx,X9]at this;rw[<-this,<-Array.foldl_toList];simp
def z9g(pl:Nat->Option (Nat×Nat)):List AV->List (Nat×AV)->Option (Prop×List AV)
 |cs,[]=>some (True,cs)
 |cs,(i,x)::r=>match pl i,qc8 x with
  |some (off,n),some ys=>(z9g pl (q4p cs off ys) r).map λp=>((ys.length=n/\off+ys.length<=cs.length)/\p.1,p.2)
  |_,_=>none
def z7y(w:World)(β:aF)(nx:Nat)(ow:Nat->Prop):List (Nat×AV)->List (Nat×Value)->Prop
 |[],[]=>True
 |(i,x)::r,(j,u)::q=>i=j/\rep w β nx ow x u/\z7y w β nx ow r q
 |_,_=>False
theorem za5{pl:Nat->Option (Nat×Nat)}:∀{e:List (Nat×AV)} {vs:List (Nat×Value)} {cs r:List AV} {us:List Value} {c:Prop},z9g pl cs e=some (c,r)->c->y8 w β nx ow cs us->z7y w β nx ow e vs->
 ∃b,Instr.fill pl ⟨us⟩ vs=some ⟨b⟩/\y8 w β nx ow r b
 |[],[],cs,r,us,c,h,_,d,_=>by
  simp only[z9g,Xa,Xb]at h;obtain⟨_,rfl⟩:=h;exact⟨us,by simp[Instr.fill],d⟩
 |(i,x)::e,(j,u)::vs,cs,r,us,c,h,o,d,hp=>by
  simp only[z7y]at hp;obtain⟨rfl,p,hp⟩:=hp;unfold z9g at h
  split at h
  .
   rename_i off n ys f g
   simp only[Xd,Xb]at h;obtain⟨⟨z,B⟩,q,rfl,rfl⟩:=h;obtain⟨⟨D,E⟩,k⟩:=o;have l:=q9k g p;have m:=q1t l;have G:=q1t d;obtain⟨b,t,y⟩:=za5 q k (z1b (off:=off) d l) hp;refine⟨b,?_,y⟩;rw[zq9 f (by simp at m;omega) (by simp at m⊢;omega)]
   simpa using t
  cases h
 |[],_::_,_,_,_,_,_,_,_,hp=>by simp only[z7y]at hp
 |_::_,[],_,_,_,_,_,_,_,hp=>by simp only[z7y]at hp
def q3m(P:Program)(t:TypeId):Option (List (Nat×Nat)):=match P.underlying t with
 |some (.struct fs)=>fs.toList.mapM λf=>(P.info? f.type).map λi=>(f.offset,i.size)
 |some (.array n e)=>if (P.info? e).isSome=true then some ((Y0 n).map λi=>(i*szT P e,szT P e))else none
 |_=>none
def z8s(P:Program)(ev:Operand->AV)(t:TypeId)(parts:List (Nat×Operand)):Option (Prop×AV):=
 match q1s P t,q3m P t with
 |some zs,some pl=>(z9g (pl[·]?) (zs.map AV.v) (parts.map λp=>(p.1,(ev p.2).st))).map λp=>((q5b P t=true/\q1b P t=true/\bW (parts.map λp=>ev p.2))/\p.1,.agg p.2)
 |_,_=>none
theorem zx4{ev:Operand->AV}{ρ:Operand->Value}(b:∀x,rep w β nx ow (ev x) (ρ x)):∀(xs:List (Nat×Operand)),bW (xs.map λp=>ev p.2)->z7y w β nx ow (xs.map λp=>(p.1,(ev p.2).st)) (xs.map λp=>(p.1,ρ p.2))
 |[],_=>by simp[z7y]
 |x::xs,h=>by
  simp only[Xi,bW]at h;simp only[Xi,z7y];exact⟨trivial,q1n (b x.2) h.1,zx4 b xs h.2⟩
theorem za4{pl b:Nat->Option (Nat×Nat)}:∀{vs:List (Nat×Value)} {cells r:Array Value},(∀i x,pl i=some x->b i=some x)->Instr.fill pl cells vs=some r->Instr.fill b cells vs=some r
 |[],cells,r,_,h=>by simpa [Instr.fill]using h
 |(i,v)::vs,cells,r,hp,h=>by
  rw[Instr.fill]at h⊢
  cases hi:pl i with
  |none=>simp[hi]at h
  |some x=>
   rw[hp i x hi];simp only[hi]at h⊢
   split at h
   . cases h
   rename_i c
   rw[if_neg c];exact za4 hp h
theorem j0x{ev:Operand->AV}{ρ:Operand->Value}(u:∀x,rep w β nx ow (ev x) (ρ x)){t:TypeId}{parts:Array (Nat×Operand)}{c:Prop}{r:AV}(h:z8s P ev t parts.toList=some (c,r))(G:c):
 ∃z,(Instr.build t (parts.map λ(i,x)=>(i,ρ x))).run P w=.ok z w/\rep w β nx ow r z:=by
 unfold z8s at h
 split at h
 .
  rename_i zs pl l b
  simp only[Xd,Xb]at h;obtain⟨⟨K,L⟩,H,rfl,rfl⟩:=h;obtain⟨⟨M,N,c3⟩,y⟩:=G;obtain⟨m,D,I⟩:=za5 H y (qw4 w β nx ow zs) (zx4 u _ c3);refine⟨.agg ⟨m⟩,?_,by simp only[rep];exact⟨m,rfl,I⟩⟩;unfold q1s at l;simp only[Xd,Xt]at l;obtain⟨z,⟨i,hi,l⟩,rfl⟩:=l;apply run_build;have f:(parts.map λ(i,x)=>(i,ρ x)).toList=parts.toList.map λp=>(p.1,ρ p.2):=by simp
  rw[f];unfold Program.built;simp only[hi];unfold q3m at b
  split at b
  .
   rename_i fs hd
   simp only[hd,l,b];rw[show (λx=>pl.toArray[x]?)=(λx=>pl[x]?)from funext λx=>by simp];exact D
  .
   rename_i n e hd
   split at b
   case isFalse=>cases b
   rename_i d
   simp only[Xa]at b;subst b;simp only[hd,l]
   cases o:P.info? e with
   |none=>rw[o]at d;cases d
   |some J=>
    simp only;have B:szT P e=J.size:=by simp[szT,o]
    refine za4 ?_ D;intro j x E;simp only[Ye,Xd]at E;obtain⟨k,q,rfl⟩:=E;rw[List.getElem?_range]at q
    . simp only[Xa]at q;rw[<-q,B]
    rcases Yi j n with g|g
    . exact g
    rw[Ys (by simpa using g)]at q;cases q
  cases b
 cases h
end
def j42:Option Nat->AV->AV
 |some sz,.v (.slice none 0 0)=> .sl sz []
 |_,a=>a
def q21:List (Option Nat)->List AV->List AV
 |n::ns,a::as=>j42 n a::q21 ns as
 |_,as=>as
def j41(P:Program):Nat->TypeId->List (Option Nat)
 |0,_=>[]
 |n+1,t=>match P.underlying t with
  |some (.slice e)=>[some (szT P e)]
  |some (.struct fs)=>fs.toList.flatMap λf=>j41 P n f.type
  |some (.array k e)=>(List.replicate k (j41 P n e)).flatten
  |_=>List.replicate (szT P t) none
def q89(P:Program)(t:TypeId):List (Option Nat):=j41 P 9 t
def z0z(hp:Hp)(P:Program)(t:TypeId):List (Option Nat):=match hp with
 |(_,.con K _)::_=>if K.raw=true then []else q89 P t
 |_=>q89 P t
theorem j6g{P:Program}{t:TypeId}:z0z [] P t=q89 P t:=rfl
theorem j6i{P:Program}{t:TypeId}{i:Nat}{cs:List AV}{r:Hp}:z0z ((i,.box cs)::r) P t=q89 P t:=rfl
theorem j6j{P:Program}{t:TypeId}{i n:Nat}{xs:List (List AV)}{r:Hp}:z0z ((i,.arr n xs)::r) P t=q89 P t:=rfl
theorem j6h{P:Program}{t:TypeId}{i:Nat}{K:Con}{a:List AV}{r:Hp}:z0z ((i,.con K a)::r) P t=if K.raw=true then []else q89 P t:=rfl
section
variable {w:World} {β:aF} {nx:Nat} {ow:Nat->Prop}
theorem j8v{n:Option Nat}{a:AV}{u:Value}(h:rep w β nx ow a u):rep w β nx ow (j42 n a) u:=by
 unfold j42
 split
 . simp only[rep]at h⊢;exact .inl ⟨trivial,none,0,h⟩
 exact h
theorem z2x:∀{ns:List (Option Nat)} {as:List AV} {us:List Value},y8 w β nx ow as us->y8 w β nx ow (q21 ns as) us
 |[],as,us,h=>by simpa only[q21]using h
 |n::ns,[],us,h=>by simpa only[q21]using h
 |n::ns,a::as,[],h=>by simp only[y8]at h
 |n::ns,a::as,u::us,h=>by
  simp only[y8,q21]at h⊢;exact⟨j8v h.1,z2x h.2⟩
theorem qd2:∀{ns:List (Option Nat)} {as:List AV},(q21 ns as).length=as.length
 |[],as=>by simp only[q21]
 |n::ns,[]=>by simp only[q21]
 |n::ns,a::as=>by simp only[q21,Yo,qd2]
theorem q9z{ns:List (Option Nat)}:∀{a:List (List AV)} {us:List Value},y8 w β nx ow a.flatten us->y8 w β nx ow (a.map (q21 ns)).flatten us
 |[],us,h=>by simpa using h
 |r::a,us,h=>by
  simp only[Xx,Xi]at h⊢;have b:=q6r h r.length;have c:=q7z h r.length;rw[List.take_left]at b;rw[List.drop_left]at c;have:=q5x (z2x (ns:=ns) b) (q9z (ns:=ns) c)
  rwa [List.take_append_drop]at this
end
end
section
open Go Go.RowKit
section
variable {P:Program} {C:Ctx P} {s:St} {a:Act} {w:World} {β:aF} {nx:Nat} {A:Nat->Prop} {hp:Hp} {ow:Nat->Prop}
theorem z2u{t:TypeId}{b off:Nat}{cur:Array Value}{e:TypeId}{u:Value}(c:q1b P t=true)(d:w.heap[b]?=some (.cells cur e (0,0)))(f:u.cells.size=szT P t)(g:off+u.cells.size<=cur.size)
 (j:∀v∈u.cells.toList,v.oneCell'=true):
 (storeVar t ⟨b,off,none⟩ u).run P w=.ok () (w.setRow b ⟨cur.toList.take off++u.cells.toList++cur.toList.drop (off+u.cells.toList.length)⟩):=by
 unfold storeVar;have:=run_storeCells_at P b off e u.cells.toList 0 cur w d (by simpa using g) j;simp only[Sem.run_bind,run_sizeOf c,Result.andThen_ok,Sem.run_ite];rw[if_neg (by simp[f])]
 simpa using this
theorem j7z(h:Rel C s a w β){o:Oper}{t:TypeId}{x y:Operand}{id off:Nat}{cs ys:List AV}{K:St->Prop}{Q:Exit->Act->World->Prop}(G:o.op=.store t x y)(l:(y9 s.env x).aZ)(m:(y9 s.env y).aZ)
 (H:(y9 s.env x).st=.ptr id off)(z:q0i s.hp id=some (.box cs))(I:qc8 (y9 s.env y).st=some ys)(J:q1b P t=true)(R:ys.length=szT P t)(S:off+ys.length<=cs.length)(L:ys.all q9t=true)(hd:dok s.nt o.dst=true)
 (M:K (({s with hp:=q0t s.hp id (.box (q4p cs off ys))}:St).put o.dst (.v undef))):o.wp P a w (RK C K) Q:=by
 have f:=q2d h l;rw[H]at f;simp only[rep]at f;obtain⟨N,b,c,hb,n⟩:=f;have g:=q9k I (q2d h m);have d:=q1t g;obtain⟨T,U,cur,e,k,B,D⟩:=h.hp.obj _ (q0k z);simp only at k;rw[hb]at k;simp only[Xa,Xb]at k;obtain⟨rfl,rfl⟩:=k;have p:=q1t D;have j:(execOp a.eval o).run P w=.ok .skip (w.setRow b ⟨cur.toList.take off++(a.eval y).cells.toList++cur.toList.drop (off+(a.eval y).cells.toList.length)⟩):=by
  unfold execOp;simp only[G,n];have:=z2u (P:=P) (off:=off) (u:=a.eval y) J B (by simp at d;omega) (by simp at d p;omega) (q7s L g);simp[Instr.storeAt,Instr.sureAddr,this]
 unfold Oper.wp;rw[j];have O:=h.write (cur':=⟨cur.toList.take off++(a.eval y).cells.toList++cur.toList.drop (off+(a.eval y).cells.toList.length)⟩) (o':=.box (q4p cs off ys)) z hb (λw' E q=>
  ⟨b,c,_,e,hb,by rw[<-q];exact setRow_heap w b cur _ e (0,0) B,z1b (q1x E _ _ (Xe _) (λ_ _=>rfl) _ _ D) (q1x E _ _ (Xe _) (λ_ _=>rfl) _ _ g)⟩)
 exact⟨_,_,O.put (by simp only[rep]) hd,M⟩
theorem ze0(h:Rel C s a w β){o:Oper}{t:TypeId}{x y:Operand}{id off n b c:Nat}{k:Con}{cs ys:List AV}{K:St->Prop}{Q:Exit->Act->World->Prop}(V:o.op=.store t x y)(J:(y9 s.env y).aZ)
 (hb:β id=some (b,c))(L:a.eval x=.pointer (some ⟨b,n+off,none⟩))(R:k.k=some n)(H:q0i s.hp id=some (.con k cs))(W:qc8 (y9 s.env y).st=some ys)(X:q1b P t=true)(h2:ys.length=szT P t)(h3:off+ys.length<=cs.length)(Y:ys.all q9t=true)(hd:dok s.nt o.dst=true)
 (Z:K (({s with hp:=q0t s.hp id (.con k (q4p cs off ys))}:St).put o.dst (.v undef))):o.wp P a w (RK C K) Q:=by
 have m:=q9k W (q2d h J);have g:=q1t m;rcases h.hp.obj _ (q0k H)with⟨b',c',us,j,M,S,U⟩|⟨j,_⟩
 rotate_left
 . simp only at j;rw[hb]at j;cases j
 simp only at j;rw[hb]at j;simp only[Xa,Xb]at j;obtain⟨rfl,rfl⟩:=j;have N:=q1t U;obtain⟨d,f,T,O,p⟩:=k.cells R S;have D:∀B∈β.inn id,B≠b:=λB q e=>(h.hp.ib _ (q0k H) B q).2.2.1 _ (q0k H) c (by rw[e];exact hb);have E:(⟨d++us++f⟩:Array Value).toList.length=n+us.length+f.length:=by show (d++us++f).length=_;rw[Xg,Xg,O]
 have l:(execOp a.eval o).run P w=.ok .skip (w.setRow b ⟨(d++us++f).take (n+off)++(a.eval y).cells.toList++(d++us++f).drop (n+off+(a.eval y).cells.toList.length)⟩):=by
  unfold execOp;simp only[V,L];have:=z2u (P:=P) (off:=n+off) (u:=a.eval y) X p (by simp at g;omega) (by simp at g N E⊢;omega) (q7s Y m);simp[Instr.storeAt,Instr.sureAddr,this]
 have a6:off+(a.eval y).cells.toList.length<=us.length:=by omega
 have z:(d++us++f).take (n+off)++(a.eval y).cells.toList++(d++us++f).drop (n+off+(a.eval y).cells.toList.length)=d++(us.take off++(a.eval y).cells.toList++us.drop (off+(a.eval y).cells.toList.length))++f:=by
  rw[Yd d us f,List.take_append,List.take_of_length_le (by omega:d.length<=n+off),List.drop_append,List.drop_eq_nil_of_le (by omega:d.length<=n+off+_),O,Ya,Yp,show n+off+(a.eval y).cells.toList.length-n=off+(a.eval y).cells.toList.length by omega,
   List.take_append_of_le_length (by omega),List.drop_append_of_le_length (by omega)]
  simp only[Yd]
 rw[z]at l;unfold Oper.wp;rw[l];have h8:=h.write (cur':=⟨d++(us.take off++(a.eval y).cells.toList++us.drop (off+(a.eval y).cells.toList.length))++f⟩) (o':=.con k (q4p cs off ys)) H hb (λw' I G=>
  .inl ⟨b,c,_,hb,Xf M I.1,k.wr (w:=w) (us:=us) R O S p (by simp only[Xg,X4,Yn];omega) (by rw[<-G];exact setRow_heap w b _ _ T (0,0) p) (λB q=>by rw[<-G];exact setRow_other w b B _ (D B q)) I,
   z1b (q1x I _ _ (Xe _) (λ_ _=>rfl) _ _ U) (q1x I _ _ (Xe _) (λ_ _=>rfl) _ _ m)⟩)
 exact⟨_,_,h8.put (by simp only[rep]) hd,Z⟩
theorem j5b(h:Rel C s a w β){o:Oper}{t:TypeId}{x y:Operand}{id off n:Nat}{k:Con}{cs ys:List AV}{K:St->Prop}{Q:Exit->Act->World->Prop}(j:o.op=.store t x y)(e:(y9 s.env x).aZ)(f:(y9 s.env y).aZ)
 (l:(y9 s.env x).st=.ptr id off)(m:k.k=some n)(p:n<=off)(q:q0i s.hp id=some (.con k cs))(u:qc8 (y9 s.env y).st=some ys)(z:q1b P t=true)(B:ys.length=szT P t)(D:off-n+ys.length<=cs.length)(E:ys.all q9t=true)(hd:dok s.nt o.dst=true)
 (G:K (({s with hp:=q0t s.hp id (.con k (q4p cs (off-n) ys))}:St).put o.dst (.v undef))):o.wp P a w (RK C K) Q:=by
 have d:=q2d h e;rw[l]at d;simp only[rep]at d;obtain⟨H,b,c,hb,g⟩:=d;exact ze0 h j f hb (by rw[g,show n+(off-n)=off by omega]) m q u z B D E hd G
theorem j5a(h:Rel C s a w β){o:Oper}{t:TypeId}{x y:Operand}{id sz i off n:Nat}{k:Con}{cs ys:List AV}{K:St->Prop}{Q:Exit->Act->World->Prop}(l:o.op=.store t x y)(e:(y9 s.env x).aZ)(f:(y9 s.env y).aZ)
 (m:(y9 s.env x).st=.apt id sz i off)(p:k.k=some n)(g:n=i*sz)(q:q0i s.hp id=some (.con k cs))(u:qc8 (y9 s.env y).st=some ys)(z:q1b P t=true)(B:ys.length=szT P t)(D:off+ys.length<=cs.length)(E:ys.all q9t=true)(hd:dok s.nt o.dst=true)
 (G:K (({s with hp:=q0t s.hp id (.con k (q4p cs off ys))}:St).put o.dst (.v undef))):o.wp P a w (RK C K) Q:=by
 have d:=q2d h e;rw[m]at d;simp only[rep]at d;obtain⟨H,b,c,hb,j⟩:=d;exact ze0 h l f hb (by rw[j,g]) p q u z B D E hd G
theorem z7x{b:Nat}:∀{as:List AV} {o:Nat},(∀j,j<as.length->∃u,w.cell? ⟨b,o+j,none⟩=some u/\u.oneCell'=true/\rep w β 0 ow (as.getD j .bU) u)->q4e w β ow b as o
 |[],_,_=>by simp only[q4e]
 |x::xs,o,h=>by
  simp only[q4e];refine⟨by simpa using h 0 (by simp),z7x λj c=>?_⟩;obtain⟨u,d,e,f⟩:=h (j+1) (by simpa using c);exact⟨u,by rw[show o+1+j=o+(j+1) by omega];exact d,e,by simpa using f⟩
theorem j3m{b:Nat}{as:List AV}{o:Nat}(h:q4e w β ow b as o){j:Nat}(e:j<as.length):∃u,w.cell? ⟨b,o+j,none⟩=some u/\u.oneCell'=true/\rep w β 0 ow (as.getD j .bU) u:=by
 obtain⟨us,c,f,g⟩:=qk6 h;have k:=q1t c;have d:us[j]?=some (us.getD j undef):=by rw[Xq,Xn (by omega)];rfl
 exact⟨us.getD j undef,g j _ d,f _ (X8 d),qv3 c j e⟩
theorem z7j{sz b:Nat}:∀{xs:List (List AV)} {o:Nat},(∀i,i<xs.length->(q3g xs i).length=sz/\q4e w β ow b (q3g xs i) (o+i*sz))->q0p w β ow sz b xs o
 |[],_,_=>by simp only[q0p]
 |r::e,o,h=>by
  simp only[q0p];have c:=h 0 (by simp);simp only[q3g,List.getD_cons_zero,Nat.zero_mul,Yx]at c;refine⟨c.1,c.2,z7j λi hi=>?_⟩;have d:=h (i+1) (by simpa using hi);simp only[q3g,Yw]at d⊢;rw[show o+sz+i*sz=o+(i+1)*sz by rw[Xs];omega];exact d
theorem j2d(l vs:List Value)(p q:Nat)(hp:p<=l.length):(l.take p++vs++l.drop (p+vs.length))[q]?=if q<p then l[q]? else if q<p+vs.length then vs[q-p]? else l[q]?:=by
 have b:(l.take p).length=p:=by rw[X4];omega
 split
 . rw[Yd,Xm (by omega),Xv,if_pos (by omega)]
 split
 . rw[Xm (by rw[Xg,b];omega),Xw (by omega),b]
 rw[Xw (by rw[Xg,b];omega),Yb,Xg,b]
 congr 1
 omega
theorem j5c{ns:List (Option Nat)}(h:Rel C s a w β){o:Oper}{t:TypeId}{x y:Operand}{id sz i off:Nat}{xs:List (List AV)}{ys:List AV}{K:St->Prop}{Q:Exit->Act->World->Prop}(ho:o.op=.store t x y)(S:(y9 s.env x).aZ)(T:(y9 s.env y).aZ)
 (m:(y9 s.env x).st=.apt id sz i off)(hy:qc8 (y9 s.env y).st=some ys)(hf:qy4 s.hp ys)(hg:q0i (q6d (q80 ys) s.hp) id=some (.arr sz xs))(h1:q1b P t=true)(h2:ys.length=szT P t)(h3:i<xs.length/\off+ys.length<=sz)(h4:ys.all q9t=true)
 (h5:(ys.map (frz s.hp)).all q9p=true)(hd:dok s.nt o.dst=true)
 (hK:K (({s with hp:=q0t (q6d (q80 ys) s.hp) id (.arr sz (xs.set i (q4p (q3g xs i) off (q21 ns (ys.map (frz s.hp))))))}:St).put o.dst (.v undef))):o.wp P a w (RK C K) Q:=by
 have z:=q2d h S;rw[m]at z;simp only[rep]at z;obtain⟨b1,b,c,hb,U⟩:=z;have n:=q9k hy (q2d h T);have D:=q1t n;have E:=z8i h.hp (q8y (ids:=q80 ys)) (λj f o' V=>(z10.1 V).2 f) hf n;have hs:=h.sub (q8y (ids:=q80 ys));rcases hs.hp.obj _ (q0k hg)with⟨p,_⟩|⟨b',c',cur,e,p,N,h8,h9,W,G⟩
 . simp only at p;rw[hb]at p;cases p
 simp only at p;rw[hb]at p;simp only[Xa,Xb]at p;obtain⟨rfl,rfl⟩:=p;have H:=qs5 G i h3.1;have ar:i*sz+off+ys.length<=cur.size:=by
  have:(i+1)*sz<=c*sz:=Xz _ (by omega);rw[Xs]at this;omega
 have d:(a.eval y).cells.toList.length=ys.length:=D.symm;have I:(execOp a.eval o).run P w=.ok .skip (w.setRow b ⟨cur.toList.take (i*sz+off)++(a.eval y).cells.toList++cur.toList.drop (i*sz+off+(a.eval y).cells.toList.length)⟩):=by
  unfold execOp;simp only[ho,U];have:=z2u (P:=P) (off:=i*sz+off) (u:=a.eval y) h1 N (by simp at d;omega) (by simp at d;omega) (q7s h4 n);simp[Instr.storeAt,Instr.sureAddr,this]
 unfold Oper.wp;rw[I];have X:=hs.write (cur':=⟨cur.toList.take (i*sz+off)++(a.eval y).cells.toList++cur.toList.drop (i*sz+off+(a.eval y).cells.toList.length)⟩) (o':=.arr sz (xs.set i (q4p (q3g xs i) off (q21 ns (ys.map (frz s.hp)))))) hg hb (λw' Y J=>by
  have g:∀q,w'.cell? ⟨b,q,none⟩=(cur.toList.take (i*sz+off)++(a.eval y).cells.toList++cur.toList.drop (i*sz+off+(a.eval y).cells.toList.length))[q]?:=λq=>by
   rw[<-J,cell_setRow_same w b q cur _ e (0,0) N];simp
  have l:∀q,w.cell? ⟨b,q,none⟩=cur.toList[q]?:=λq=>by rw[cell_of_row w b q cur e (0,0) N];simp
  have Z:(cur.toList.take (i*sz+off)).length=i*sz+off:=by rw[List.length_take];simp;omega
  refine .inr ⟨b,c,_,e,hb,by rw[<-J];exact setRow_heap w b cur _ e (0,0) N,?_,by simpa using h9,W,?_⟩
  . simp only[List.size_toArray,List.length_append,List.length_take,List.length_drop,Array.length_toList,d]at*;omega
  have a6:=q1x Y _ _ (Nat.le_refl _) (λ_ _=>rfl) _ _ (z2x (ns:=ns) (qd0 h5 E));refine z7j λk hk=>?_;simp only[List.length_set]at hk;obtain⟨g1,g2⟩:=qs5 G k hk;simp only[Nat.zero_add]at g2 H⊢
  by_cases L:k=i
  .
   subst L;have e1:q3g (xs.set k (q4p (q3g xs k) off (q21 ns (ys.map (frz s.hp))))) k=q4p (q3g xs k) off (q21 ns (ys.map (frz s.hp))):=by
    simp[q3g,hk]
   rw[e1];obtain⟨us,B,O,R⟩:=qk6 g2;have ao:=q1x Y _ _ (Nat.le_refl _) (λ_ _=>rfl) _ _ B;have q3:=q1t B;refine⟨?_,qp3 (z1b (off:=off) ao a6) (λx m=>by
    simp only[List.mem_append]at m;rcases m with (m|m)|m
    . exact O x (List.mem_of_mem_take m)
    . exact q7s h4 n x m
    exact O x (List.mem_of_mem_drop m)) λj u f=>?_⟩
   . simp only[q4p,List.length_append,List.length_take,List.length_drop,qd2,List.length_map,g1];omega
   rw[g];have b2:us.length=sz:=by omega
   rw[j2d _ _ _ _ (by omega)]at f;rw[j2d _ _ _ _ (by simp;omega)]
   by_cases c1:j<off
   . rw[if_pos c1]at f;rw[if_pos (by omega),<-l];exact R j u f
   rw[if_neg c1]at f;rw[if_neg (by omega)]
   by_cases c2:j<off+(a.eval y).cells.toList.length
   . rw[if_pos c2]at f;rw[if_pos (by omega),show k*sz+j-(k*sz+off)=j-off by omega];exact f
   rw[if_neg c2]at f;rw[if_neg (by omega),<-l];exact R j u f
  have e1:q3g (xs.set i (q4p (q3g xs i) off (q21 ns (ys.map (frz s.hp))))) k=q3g xs k:=by
   simp[q3g,Ne.symm L]
  rw[e1];refine⟨g1,z7x λj f=>?_⟩;obtain⟨u,B,O,R⟩:=j3m g2 f;refine⟨u,?_,O,q5i Y _ _ (Nat.le_refl _) (λ_ _=>rfl) _ _ R⟩;rw[g];rw[l]at B;rw[g1]at f;rcases Nat.lt_or_ge k i with M|b0
  . have:(k+1)*sz<=i*sz:=Nat.mul_le_mul_right _ M;rw[Nat.add_mul]at this;rw[List.append_assoc,List.getElem?_append_left (by rw[Z];omega),List.getElem?_take,if_pos (by omega)];exact B
  have:(i+1)*sz<=k*sz:=Nat.mul_le_mul_right _ (by omega);rw[Nat.add_mul]at this;rw[List.getElem?_append_right (by rw[List.length_append,Z,d];omega),List.getElem?_drop,List.length_append,Z,d];rw[show i*sz+off+ys.length+(k*sz+j-(i*sz+off+ys.length))=k*sz+j by omega];exact B)
 exact⟨_,_,X.put (by simp only[rep]) hd,hK⟩
end
end
section
open Go Go.RowKit
def q26(P:Program)(t:TypeId):Nat:=((P.info? t).map (·.bytes)).getD 0
def z0x(hp:Hp):AV->Option (Nat×List (List AV)×Prop)
 |.sl sz xs=>some (sz,xs,True)
 |.v (.slice none 0 0)=>some (0,[],True)
 |.osl id sz off len=>match q0i hp id with
  |some (.arr a xs)=>some (sz,(xs.drop off).take len,a=sz/\off+len<=xs.length)
  |_=>none
 |.bsl id off len=>match q0i hp id with
  |some (.box cs)=>some (1,((cs.drop off).take len).map (λc=>[c]),off+len<=cs.length/\cs.all q9t=true/\cs.all q9p=true)
  |_=>none
 |_=>none
section
variable {P:Program} {C:Ctx P} {s:St} {a:Act} {w:World} {β:aF} {nx:Nat} {A:Nat->Prop} {hp:Hp} {ow:Nat->Prop}
theorem qg7{sz:Nat}:∀{xs:List (List AV)},(∀r∈xs,r.length=sz)->xs.flatten.length=xs.length*sz
 |[],_=>by simp
 |r::c,h=>by
  simp only[Xx,Xg,Yo,qg7 λr b=>h r (Xj _ b),h r Xu,Xs];omega
theorem q93{sz b:Nat}:∀{xs:List (List AV)} {o:Nat},q0p w β ow sz b xs o->∀r∈xs,r.length=sz
 |r::d,o,h,x,c=>by
  simp only[q0p]at h;rcases Xc.1 c with rfl|c
  . exact h.1
  exact q93 h.2.2 x c
theorem qm5{sz b:Nat}:∀{xs:List (List AV)} {o:Nat},q0p w β ow sz b xs o->∃us,y8 w β 0 ow xs.flatten us/\(∀u∈us,u.oneCell'=true)/\∀(j:Nat) (u:Value),us[j]?=some u->w.cell? ⟨b,o+j,none⟩=some u
 |[],o,_=>⟨[],by simp[y8],by simp,by simp⟩
 |r::q,o,h=>by
  simp only[q0p]at h;obtain⟨us,k,d,l⟩:=qk6 h.2.1;obtain⟨vs,m,e,n⟩:=qm5 h.2.2;have t:=q1t k;refine⟨us++vs,by simp only[Xx];exact q5x k m,λx p=>(Yr.1 p).elim (d x) (e x),?_⟩;intro j u c;rcases Yi j us.length with f|g
  . rw[Xm f]at c;exact l j u c
  rw[Xw g]at c;have:=n _ u c
  rwa [show o+sz+(j-us.length)=o+j by omega]at this
theorem q63{sz b:Nat}:∀{xs:List (List AV)} {us:List Value} {o:Nat},(∀r∈xs,r.length=sz)->y8 w β 0 ow xs.flatten us->(∀u∈us,u.oneCell'=true)->(∀(j:Nat) (u:Value),us[j]?=some u->w.cell? ⟨b,o+j,none⟩=some u)->q0p w β ow sz b xs o
 |[],_,_,_,_,_,_=>by simp only[q0p]
 |r::p,us,o,f,h,g,k=>by
  have n:=f r Xu;have d:=q1t h;simp only[Xx,Xg]at d;have l:=q6r h r.length;have m:=q7z h r.length;simp only[Xx,List.take_left,List.drop_left]at l m;simp only[q0p];refine⟨n,qp3 l (λx e=>g x (Yt e)) λj u c=>?_,q63 (λx e=>f x (Xj _ e)) m (λx e=>g x (Yu e)) λj u c=>?_⟩
  .
   rw[Xv]at c
   split at c
   . exact k j u c
   cases c
  rw[Yb]at c;have:=k _ u c
  rwa [show o+(r.length+j)=o+sz+j by omega]at this
theorem z4s(p:b8 w β nx A hp){y:AV}{sz:Nat}{ys:List (List AV)}{c:Prop}{u:Value}(h:z0x hp y=some (sz,ys,c))(O:c)(g:rep w β nx (own β hp A) y u):
 ∃ad cap us,u=.slice ad ys.length cap/\y8 w β 0 (own β hp A) ys.flatten us/\(ys=[]\/∀r∈ys,r.length=sz)/\(ad=none->ys=[])/\(∀v∈us,v.oneCell'=true)/\∀x,ad=some x->∀(j:Nat) (v:Value),us[j]?=some v->w.cell? (x.add j)=some v:=by
 unfold z0x at h
 split at h
 .
  simp only[Xa,Xb]at h;obtain⟨rfl,rfl,_⟩:=h;simp only[rep]at g;rcases g with⟨rfl,ad,cap,rfl⟩|⟨b,o,cap,rfl,_,_,_,f⟩
  . exact⟨ad,cap,[],rfl,by simp[y8],.inl rfl,λ_=>rfl,by simp,λ_ _ _ _ d=>by simp at d⟩
  obtain⟨us,D,G,q⟩:=qm5 f;exact⟨_,cap,us,rfl,D,.inr (q93 f),(λm=>by cases m),G,λx k j v d=>by
   simp only[Xa]at k;subst k;rw[q7q];exact q j v d⟩
 . simp only[Xa,Xb]at h;obtain⟨rfl,rfl,_⟩:=h;simp only[rep]at g;exact⟨none,0,[],g,by simp[y8],.inl rfl,λ_=>rfl,by simp,λ_ _ _ _ d=>by simp at d⟩
 .
  rename_i id T off len
  split at h
  .
   rename_i Q xs H
   simp only[Xa,Xb]at h;obtain⟨rfl,rfl,rfl⟩:=h;obtain⟨rfl,t⟩:=O;simp only[rep]at g;have I:((xs.drop off).take len).length=len:=by simp;omega
   rcases g.2 with⟨z,rfl,rfl,rfl⟩|⟨b,c,cap,ad,z,rfl,U,E,R⟩
   . exact⟨none,0,[],by simp,by simp[y8],.inl (by simp),λ_=>by simp,by simp,λ_ _ _ _ d=>by simp at d⟩
   rcases p.obj _ (q0k H)with⟨f,_⟩|⟨V,Z,cur,e,f,D,q,S,h9,J⟩
   . simp only at f;rw[z]at f;cases f
   simp only at f;rw[z]at f;simp only[Xa,Xb]at f;obtain⟨rfl,rfl⟩:=f;rcases R with rfl|R
   .
    have n:=qe6 (qm6 J off) len;rw[Xp]at n;obtain⟨us,K,B,L⟩:=qm5 n;exact⟨_,cap,us,by rw[I],K,.inr (q93 n),(λm=>by cases m),B,λx k j v d=>by
     simp only[Xa]at k;subst k;rw[q7q];exact L j v d⟩
   have:len=0:=by omega
   subst this;exact⟨some ad,cap,[],by simp,by simp[y8],.inl (by simp),(λm=>by cases m),by simp,λ_ _ _ _ d=>by simp at d⟩
  cases h
 .
  rename_i id off len
  split at h
  .
   rename_i xs H
   simp only[Xa,Xb]at h;obtain⟨rfl,rfl,rfl⟩:=h;obtain⟨t,W,M⟩:=O;simp only[rep]at g;have I:((xs.drop off).take len).length=len:=by simp;omega
   have N:(((xs.drop off).take len).map (λc=>[c])).flatten=(xs.drop off).take len:=by
    generalize (xs.drop off).take len=l
    induction l with
    |nil=>rfl
    |cons x l X=>simp only[Xi,Xx,X];rfl
   obtain⟨_,b,C,cap,a,z,rfl,U,E⟩:=g;obtain⟨V,C',cur,e,f,D,q⟩:=p.obj _ (q0k H);simp only at f;rw[z]at f;simp only[Xa,Xb]at f;obtain⟨rfl,rfl⟩:=f;have S:=q6r (q7z (qd0 M q) off) len;refine⟨some a,cap,_,by rw[List.length_map,I],by rw[N];exact S,.inr (λr g=>by obtain⟨c,_,rfl⟩:=X5.1 g;rfl),(λm=>by cases m),λv Y=>q7s W q v (Yu (Yt Y)),?_⟩;intro x k j v d;simp only[Xa]at k;subst k;rcases E with rfl|E
   .
    rw[q7q];rw[Xv]at d
    split at d
    .
     rw[Yb]at d;rw[cell_of_row w b (off+j) cur e (0,0) D]
     simpa using d
    cases d
   subst E;simp at d
  cases h
 cases h
theorem z3u{size n cap:Nat}{ad:Option Addr}{news:List Value}(b:news.length=n*size)(c:ad=none->news=[])(h:∀x,ad=some x->∀(j:Nat) (v:Value),news[j]?=some v->w.cell? (x.add j)=some v):
 (Builtin.firstCells size n (.slice ad n cap)).run P w=.ok ⟨news⟩ w:=by
 cases ad with
 |none=>rw[c rfl];simp[Builtin.firstCells]
 |some x=>exact run_firstCells_some w size n x n cap news b (h x rfl)
theorem zx0(t ty e:TypeId)(i:TypeInfo)(o:P.underlying t=some (.slice e))(hi:P.info? e=some i)(g n cap:Nat)(cur:Array Value)(l:TypeId)(p:w.heap[g]?=some (.cells cur l (0,0)))
 (ad:Option Addr)(m c:Nat)(news:List Value)(q:news.length=m*i.size)(y:ad=none->news=[])(b:∀x,ad=some x->∀(j:Nat) (v:Value),news[j]?=some v->w.cell? (x.add j)=some v)
 (z:∀u∈news,u.oneCell'=true)(d:n+m<=cap)(f:n*i.size+news.length<=cur.size):
 (Builtin.append_ #[t,t] ty #[.slice (some ⟨g,0,none⟩) n cap,.slice ad m c]).run P w=
  .ok (.slice (some ⟨g,0,none⟩) (n+m) cap) (w.setRow g (cur.toList.take (n*i.size)++news++cur.toList.drop (n*i.size+news.length)).toArray):=by
 have B:=z3u (P:=P) (cap:=c) q y b;have k:=run_storeCells_at P g (n*i.size) l news 0 cur w p (by simpa using f) z;simp only[Yx]at k;simp[Builtin.append_,run_underlying o,sizeOf,typeInfo,hi,Builtin.lenOf,d,B,Addr.add_lit,k]
theorem ji2(t ty e:TypeId)(i:TypeInfo)(z:Value)(G:P.underlying t=some (.slice e))(hi:P.info? e=some i)(S:i.zero=some z)(y:z.cells.size=i.size)
 (v:Value)(n:Nat)(b:List Value)(U:(v=.slice none 0 0/\n=0/\b=[])\/∃g cap cur p,v=.slice (some ⟨g,0,none⟩) n cap/\w.heap[g]?=some (.cells cur p (0,0))/\n<=cap/\cap*i.size<=cur.size/\cur.toList.take (n*i.size)=b)
 (ad:Option Addr)(m c:Nat)(news:List Value)(l:news.length=m*i.size)(J:ad=none->m=0)(d:∀x,ad=some x->∀(j:Nat) (v:Value),news[j]?=some v->w.cell? (x.add j)=some v)
 (V:∀u∈news,u.oneCell'=true)(B:n+m<=maxLen)(hb:(n+m)*i.bytes<=140737488355328):
 (∃g cap cur p,v=.slice (some ⟨g,0,none⟩) n cap/\w.heap[g]?=some (.cells cur p (0,0))/\n+m<=cap/\(Builtin.append_ #[t,t] ty #[v,.slice ad m c]).run P w=
  .ok (.slice (some ⟨g,0,none⟩) (n+m) cap) (w.setRow g ⟨cur.toList.take (n*i.size)++news++cur.toList.drop (n*i.size+news.length)⟩))\/
 (v=.slice none 0 0/\m=0/\(Builtin.append_ #[t,t] ty #[v,.slice ad m c]).run P w=.ok (.slice none 0 0) w)\/
 (∃H o,n+m<=H/\H<=maxLen/\(b++news++o).length=H*i.size/\(Builtin.append_ #[t,t] ty #[v,.slice ad m c]).run P w=
  .ok (.slice (some ⟨w.heap.size,0,none⟩) (n+m) H) (w.drew.alloc (.cells ⟨b++news++o⟩ e))):=by
 have I:n+m<=9223372036854775807:=by simp only[maxLen]at B;omega
 have K:ad=none->news=[]:=λW=>Xh (by rw[l,J W];simp);rcases U with⟨rfl,rfl,rfl⟩|⟨g,cap,cur,p,rfl,L,M,N,k⟩
 .
  by_cases T:m=0
  . subst T;refine .inr (.inl ⟨rfl,rfl,?_⟩);have O:news=[]:=Xh (by simpa using l);subst O;have X:=z3u (P:=P) (w:=w) (size:=i.size) (n:=0) (cap:=c) (ad:=ad) (news:=[]) (by simp) (λ_=>rfl) (λ_ _ _ _ q=>by simp at q);simp[Builtin.append_,run_underlying G,sizeOf,typeInfo,hi,Builtin.lenOf,X]
  right;right
  cases ad with
  |none=>exact absurd (J rfl) T
  |some x=>
   have Q:=run_append_nil (P:=P) w t ty e i z G hi S x m c news l (d x rfl) (by omega) (by omega) (by simp only[Xp]at hb;omega);have R:=grownCap_ge w m 0 e;refine⟨grownCap w m 0 e,(Builtin.zeroCells z.cells (grownCap w m 0 e-m)).toList,by omega,grownCap_le_maxLen w m 0 e (by omega),?_,?_⟩
   .
    simp only[Ya,Xg,X9,size_zeroCells,l,y,<-Xs]
    congr 1;omega
   rw[Q];simp only[Xp,Ya]
   congr 3
   apply Xr;simp
 have D:b.length=n*i.size:=by
  rw[<-k,X4];have:n*i.size<=cap*i.size:=Xz _ M;simp;omega
 by_cases f:n+m<=cap
 .
  left
  have E:n*i.size+news.length<=cur.size:=by rw[l,<-Xs];exact Yc (Xz _ f) N
  exact⟨g,cap,cur,p,rfl,L,f,zx0 t ty e i G hi g n cap cur p L ad m c news l K d V f E⟩
 right;right
 cases ad with
 |none=>exact absurd (J rfl) (by omega)
 |some x=>
  have holds:∀(j:Nat) (u:Value),b[j]?=some u->w.cell? ((⟨g,0,none⟩:Addr).add j)=some u:=by
   intro j u q;rw[q7q,Xp,cell_of_row w g j cur p (0,0) L];rw[<-k,Xv]at q
   split at q
   . simpa using q
   cases q
  have Q:=run_append_grow (P:=P) w t ty e i z G hi S ⟨g,0,none⟩ n cap b D holds x m c news l (d x rfl) (by omega) (by omega) (growslice_fits (by omega) hb);have R:=grownCap_ge w (n+m) cap e;refine⟨grownCap w (n+m) cap e,(Builtin.zeroCells z.cells (grownCap w (n+m) cap e-(n+m))).toList,by omega,grownCap_le_maxLen w (n+m) cap e B,?_,?_⟩
  .
   simp only[Xg,X9,size_zeroCells,l,D,y,<-Xs]
   congr 1;omega
  rw[Q]
  congr 3
  apply Xr;simp
end
end
section
open Go Go.RowKit
def zu0(hp:Hp):AV->Option (Nat×List (List AV)×List Nat×Prop)
 |.v (.slice none 0 0)=>some (0,[],[],True)
 |.osl id sz off len=>match q0i hp id with
  |some (.arr a xs)=>some (sz,xs,[id],a=sz/\off=0/\len=xs.length)
  |_=>none
 |_=>none
section
variable {P:Program} {C:Ctx P} {s:St} {a:Act} {w:World} {β:aF} {nx:Nat} {A:Nat->Prop} {hp:Hp} {ow:Nat->Prop}
theorem b8.fX{w':World}(h:b8 w β nx A hp){bc:Option (Nat×Nat)}{o:bT}{hp1:Hp}(j:hp1.Sublist hp)
 (y:b9 w w' (own β hp A) (own (upd β nx bc) ((nx,o)::hp1) A))(z:∀f,cn β hp1 f->w'.heap[f]?=w.heap[f]?)
 (k:∀b c,bc=some (b,c)->¬cn β hp1 b/\¬A b)(B:qb2 o=false)(D:q5u w' (upd β nx bc) (nx+1) (own (upd β nx bc) ((nx,o)::hp1) A) nx o):
 b8 w' (upd β nx bc) (nx+1) A ((nx,o)::hp1):=by
 have e:∀p∈hp1,p.1<nx:=λp hp'=>h.lt p (j.subset hp');refine⟨?_,?_,?_,?_,?_,?_,?_⟩
 .
  intro p hp';rcases Xc.1 hp' with rfl|hp'
  . exact D
  exact q48 y (X0 _) (λid hid=>q2x _ _ _ _ hid) (e p hp') (λf t=>z f ⟨p,hp',t⟩) (λ_=>q5r _ _ _ _ (e p hp')) (h.obj p (j.subset hp'))
 .
  intro p hp';rcases Xc.1 hp' with rfl|hp'
  . exact Xo _
  exact Yy (e p hp')
 . simp only[Xi,Yj];refine⟨?_,(j.map _).nodup h.nd⟩;intro E;obtain⟨q,G,H⟩:=X5.1 E;exact Nat.ne_of_lt (e q G) H
 .
  intro p hp1 q d f u I g m;rcases Xc.1 hp1 with rfl|hp1<;>rcases Xc.1 d with rfl|d
  . rfl
  . rw[q1m]at g;rw[q2x _ _ _ _ (e q d)]at m;exact absurd (q7p d m) (k _ _ g).1
  . rw[q1m]at m;rw[q2x _ _ _ _ (e p hp1)]at g;exact absurd (q7p hp1 g) (k _ _ m).1
  rw[q2x _ _ _ _ (e p hp1)]at g;rw[q2x _ _ _ _ (e q d)]at m;exact h.inj p (j.subset hp1) q (j.subset d) f u I g m
 .
  intro p hp1 f u g;rcases Xc.1 hp1 with rfl|hp1
  . rw[q1m]at g;exact (k _ _ g).2
  rw[q2x _ _ _ _ (e p hp1)]at g;exact h.av p (j.subset hp1) f u g
 .
  intro p hp1 n;rcases Xc.1 hp1 with rfl|hp1
  . exact q9y _ _ _
  rw[q5r _ _ _ _ (e p hp1)];exact h.i0 p (j.subset hp1) n
 intro p hp1 f hb;rcases Xc.1 hp1 with rfl|hp1
 . rw[q9y]at hb;cases hb
 rw[q5r _ _ _ _ (e p hp1)]at hb;obtain⟨i1,i2,i3,J⟩:=h.ib p (j.subset hp1) f hb;refine⟨Xf i1 y.1,i2,λq d C n=>?_,λq d l=>?_⟩
 .
  rcases Xc.1 d with rfl|d
  . rw[q1m]at n;exact (k _ _ n).1 ⟨p,hp1,.inr hb⟩
  rw[q2x _ _ _ _ (e q d)]at n;exact i3 q (j.subset d) C n
 rcases Xc.1 d with rfl|d
 . rw[q9y]at l;cases l
 rw[q5r _ _ _ _ (e q d)]at l;exact J q (j.subset d) l
theorem Rel.more(h:Rel C s a w β){w':World}{bc:Option (Nat×Nat)}{o:bT}{hp1:Hp}(m:hp1.Sublist s.hp)(n:w.heap.size<=w'.heap.size)
 (E:∀b,b<w.heap.size->(∀c,bc≠some (b,c))->w'.heap[b]?=w.heap[b]?)
 (d:∀b c,bc=some (b,c)->b<w.heap.size->cn β s.hp b/\¬cn β hp1 b)
 (I:∀ow',b9 w w' (own β s.hp C.A) ow'->q5u w' (upd β s.nx bc) (s.nx+1) ow' s.nx o)(J:w'.os=w.os)(K:w'.tape=w.tape)(L:w'.output=w.output/\(dkF=true->w.drawn<=w'.drawn))(y:qb2 o=false:=by rfl):
 Rel C {s with hp:=(s.nx,o)::hp1,nx:=s.nx+1} a w' (upd β s.nx bc):=by
 have k:∀b,cn β s.hp b->b<w.heap.size:=λb ⟨q,j,e⟩=>h.hp.cC q j b e;have f:∀b,cn β hp1 b->cn β s.hp b:=λb ⟨q,j,e⟩=>⟨q,m.subset j,e⟩;have G:∀b,b<w.heap.size->cn (upd β s.nx bc) ((s.nx,o)::hp1) b->cn β s.hp b:=by
  rintro b hb ⟨q,j,e⟩;rcases Xc.1 j with rfl|j
  . obtain⟨M,e⟩:=z2o e;exact (d b M e hb).1
  exact⟨q,m.subset j,(z2i (h.hp.lt q (m.subset j))).1 e⟩
 have t:∀b,b<w.heap.size->¬cn β s.hp b->w'.heap[b]?=w.heap[b]?:=λb hb g=>E b hb λc e=>g (d b c e hb).1;have H:b9 w w' (own β s.hp C.A) (own (upd β s.nx bc) ((s.nx,o)::hp1) C.A):=
  ⟨n,λb g hb=>⟨t b hb (λl=>g (.inr l)),λz=>by
   rcases z with B|B
   . exact g (.inl B)
   exact g (.inr (G b hb B))⟩⟩
 refine h.step (X0 _) (λid hid=>q2x _ _ _ _ hid) n t G ?_ ?_ J K L
 .
  refine h.hp.fX m H (λb hb=>E b (k b (f b hb)) λc e=>(d b c e (k b (f b hb))).2 hb) (λb c e=>?_) y (I _ H);rcases Yi b w.heap.size with u|N
  . refine⟨(d b c e u).2,λl=>?_⟩;obtain⟨q,j,D⟩:=(d b c e u).1;exact h.hp.dM q j b D l
  refine⟨λl=>?_,λl=>?_⟩
  . have:=k b (f b l);omega
  have:=h.alt b l;have:=h.ext.size;omega
 intro p hp;rcases Xc.1 hp with rfl|hp
 . exact .inr (Xe _)
 exact .inl (Xk (m.subset hp))
theorem q8z{e:TypeId}(b:q1b P e=true):∃i,P.info? e=some i/\i.size=szT P e/\i.bytes=q26 P e:=by
 obtain⟨i,d,hi,_,c⟩:=qx0 b;exact⟨i,hi,c,by simp[q26,hi]⟩
theorem z4j{o:Oper}{cl:Call}{b:Builtin}{x y:Operand}{ts:List TypeId}(f:o.op=.call cl)(d:cl.callee=.builtin b)(c:cl.args.toList=[x,y])(e:cl.argTypes.toList=ts)(hb:b=.append):
 (execOp a.eval o).run P w=((Builtin.append_ ⟨ts⟩ o.type #[a.eval x,a.eval y]).run P w).andThen λv w'=> .ok (.value v) w':=by
 have g:cl.args=#[x,y]:=Xr c;have j:cl.argTypes=⟨ts⟩:=Xr e;subst hb;unfold execOp;simp only[f];simp[resolve,d,g,j,invoke,builtin]
theorem zn3(h:Rel C s a w β){o:Oper}{cl:Call}{x y:Operand}{t e:TypeId}{szx szy:Nat}{xs ys:List (List AV)}{ids:List Nat}{cb cs:Prop}{zs:List Value}{K:St->Prop}{Q:Exit->Act->World->Prop}
 (ho:o.op=.call cl)(d3:cl.callee=.builtin .append)(U:cl.args.toList=[x,y])(d4:cl.argTypes.toList=[t,t])(d5:(y9 s.env x).aZ)(d6:(y9 s.env y).aZ)
 (f:zu0 s.hp (y9 s.env x).st=some (szx,xs,ids,cb))(d7:cb)(b0:z0x s.hp (y9 s.env y).st=some (szy,ys,cs))(d8:cs)(he:aK P t=some e)(hT:q1b P e=true)
 (hz:q1s P e=some zs)(dc:zs.length=szT P e)(L:ids=[]\/szx=szT P e)(hy:ys=[]\/szy=szT P e)(b1:0<q26 P e)(b2:(xs.length+ys.length)*q26 P e<=140737488355328)(hd:dok s.nt o.dst=true)
 (hK:K (({s with hp:=(s.nx,.arr (szT P e) (xs++ys))::q6d ids s.hp,nx:=s.nx+1}:St).put o.dst (.osl s.nx (szT P e) 0 (xs.length+ys.length)))):o.wp P a w (RK C K) Q:=by
 obtain⟨i,hi,k,dd⟩:=q8z hT;have b3:xs.length+ys.length<=maxLen:=by
  have:xs.length+ys.length<=(xs.length+ys.length)*q26 P e:=Nat.le_mul_of_pos_right _ b1;simp only[maxLen];omega
 unfold q1s at hz;simp only[Xd,Xt]at hz;obtain⟨z,⟨i',hi',hz⟩,rfl⟩:=hz;rw[hi]at hi';simp only[Xa]at hi';subst hi';have dk:z.cells.size=i.size:=by rw[k,<-dc];simp
 obtain⟨ad,cap,us,hu,hL,l,V,N,M⟩:=z4s h.hp b0 d8 (q2d h d6);have b4:us.length=ys.length*i.size:=by
  rw[<-q1t hL,k];rcases l with rfl|l
  . simp
  rcases hy with rfl|rfl
  . simp
  exact qg7 l
 have ds:ys=[]\/∀r∈ys,r.length=szT P e:=by
  rcases l with m|m
  . exact .inl m
  rcases hy with D|D
  . exact .inl D
  exact .inr (by rw[<-D];exact m)
 have b5:∀r∈ys,r.length=szT P e:=by
  rcases ds with rfl|m
  . simp
  exact m
 have n:=q2d h d5;have O:=z4j (P:=P) (a:=a) (w:=w) ho d3 U d4 rfl
 have hv:∃d,(a.eval x=.slice none 0 0/\xs.length=0/\d=[]\/∃g cap cur G,a.eval x=.slice (some ⟨g,0,none⟩) xs.length cap/\w.heap[g]?=some (.cells cur G (0,0))/\xs.length<=cap/\cap*i.size<=cur.size/\cur.toList.take (xs.length*i.size)=d)/\
  y8 w β 0 (own β s.hp C.A) xs.flatten d/\(∀u∈d,u.oneCell'=true)/\(∀r∈xs,r.length=szT P e)/\
  (∀g cap,a.eval x=.slice (some ⟨g,0,none⟩) xs.length cap->∃c cur G,cur.size=c*szT P e/\cap<=c/\c<=maxLen/\w.heap[g]?=some (.cells cur G (0,0))/\cn β s.hp g/\¬cn β (q6d ids s.hp) g):=by
  unfold zu0 at f
  split at f
  .
   rename_i heq
   simp only[Xa,Xb]at f;obtain⟨rfl,rfl,rfl,_⟩:=f;rw[heq]at n;simp only[rep]at n;exact⟨[],.inl ⟨n,rfl,rfl⟩,by simp[y8],by simp,by simp,λg cap p=>by rw[n]at p;cases p⟩
  .
   rename_i id sz off len heq
   split at f
   .
    rename_i dT b6 p
    simp only[Xa,Xb]at f;obtain⟨rfl,rfl,rfl,rfl⟩:=f;obtain⟨rfl,rfl,rfl⟩:=d7;have bi:dT=szT P e:=by
     rcases L with L|L
     . cases L
     exact L
    subst bi;rw[heq]at n;simp only[rep]at n;rcases n.2 with⟨D,_,h2,h3⟩|⟨b,c,R,eo,D,h2,h3,h4,h5⟩
    . have e0:b6=[]:=Xh h2;subst e0;exact⟨[],.inl ⟨h3,rfl,rfl⟩,by simp[y8],by simp,by simp,λg cap p=>by rw[h3]at p;cases p⟩
    rcases h.hp.obj _ (q0k p)with⟨S,_⟩|⟨b',c',cur,G,S,h7,h8,h9,e1,W⟩
    . simp only at S;rw[D]at S;cases S
    simp only at S;rw[D]at S;simp only[Xa,Xb]at S;obtain⟨rfl,rfl⟩:=S;rcases h5 with rfl|⟨_,h5⟩
    .
     obtain⟨d,bk,bs,e3⟩:=qm5 W;have er:d.length=b6.length*i.size:=by rw[<-q1t bk,k];exact qg7 (q93 W)
     have bv:R*i.size<=cur.size:=by rw[h8,k];exact Xz _ (by omega)
     refine⟨d,.inr ⟨b,R,cur,G,by rw[h2];simp,h7,h3,bv,?_⟩,bk,bs,q93 W,λg e4 X=>?_⟩
     .
      apply List.ext_getElem?;intro j;rw[Xv]
      split
      .
       rename_i Y
       have c1:j<d.length:=by omega
       have c2:=e3 j _ (Xn c1);rw[Xp,cell_of_row w b j cur G (0,0) h7]at c2;rw[Xn c1]
       simpa using c2
      rename_i Y
      rw[Ys (by omega)]
     rw[h2]at X;simp only[Value.slice.injEq,Xa,Addr.mk.injEq]at X;obtain⟨⟨rfl,_⟩,_,rfl⟩:=X;refine⟨c,cur,G,h8,by omega,e1,h7,q7p (q0k p) D,?_⟩;rintro⟨q,hq,c4⟩;have c5:=z10.1 hq;have:=h.hp.bD q c5.1 _ (q0k p) b c4 (.inl ⟨c,D⟩);exact c5.2 (by rw[this];simp)
    exact absurd rfl h5
   cases f
  cases f
 obtain⟨d,hv,c6,e5,c7,e6⟩:=hv;have Z:d.length=xs.length*i.size:=by rw[<-q1t c6,k];exact qg7 c7
 have c8:∀r∈xs++ys,r.length=szT P e:=λr J=>(Yr.1 J).elim (c7 r) (b5 r);have H:∀(w':World) (ow':Nat->Prop) (b:Nat),b9 w w' (own β s.hp C.A) ow'->(∀(j:Nat) (u:Value),(d++us)[j]?=some u->w'.cell? ⟨b,0+j,none⟩=some u)->
  q0p w' (upd β s.nx (some (b,0))) ow' (szT P e) b (xs++ys) 0:=λw' ow' b hA hc=>by
  refine q63 c8 ?_ (λu hu=>(Yr.1 hu).elim (e5 u) (N u)) hc;rw[List.flatten_append];exact q1x hA 0 0 (Xe _) (λ_ hi=>absurd hi (Yh _)) _ _ (q5x c6 hL)
 have B:∀(w':World) (bc:Option (Nat×Nat)) (v:Value),(Builtin.append_ #[t,t] o.type #[a.eval x,a.eval y]).run P w=.ok v w'->
  Rel C {s with hp:=(s.nx,.arr (szT P e) (xs++ys))::q6d ids s.hp,nx:=s.nx+1} a w' (upd β s.nx bc)->
  rep w' (upd β s.nx bc) (s.nx+1) (own (upd β s.nx bc) ((s.nx,.arr (szT P e) (xs++ys))::q6d ids s.hp) C.A) (.osl s.nx (szT P e) 0 (xs.length+ys.length)) v->o.wp P a w (RK C K) Q:=by
  intro w' bc v J hR ea;unfold Oper.wp;rw[O,show (⟨[t,t]⟩:Array TypeId)=#[t,t]from rfl,J];exact⟨_,_,hR.put ea hd,hK⟩
 rw[hu]at O B;rcases ji2 (P:=P) (w:=w) t o.type e i z (q0l he) hi hz dk (a.eval x) xs.length d hv ad ys.length cap us b4 (λm=>by rw[V m];rfl) M N b3 (by rw[dd];exact b2)with
  ⟨g,cp,cur,G,I,p,a6,J⟩|⟨I,hm,J⟩|⟨nc,c9,T,cc,cd,J⟩
 .
  obtain⟨c,ek,e2,es,c4,eb,ao,ef,ei⟩:=e6 g cp I;rw[p]at ao;simp only[Xa,Obj.cells.injEq,and_true]at ao;obtain⟨rfl,rfl⟩:=ao;have holds:cur.toList.take (xs.length*i.size)=d:=by
   rcases hv with⟨m,_⟩|⟨g',et,cur',ex,m,D,_,_,h2⟩
   . rw[I]at m;cases m
   rw[I]at m;simp only[Value.slice.injEq,Xa,Addr.mk.injEq]at m;obtain⟨⟨rfl,_⟩,_⟩:=m;rw[p]at D;simp only[Xa,Obj.cells.injEq,and_true]at D;obtain⟨rfl,rfl⟩:=D;exact h2
  have cz:(xs.length+ys.length)*i.size<=c*i.size:=Xz _ (by omega);rw[Xs,<-b4,k]at cz;rw[k]at J holds Z;refine B _ (some (g,c)) _ J (h.more q8y (by simp) (λb _ hb=>setRow_other w g b _ (λhe=>hb c (by rw[he]))) (λb c' E _=>by
   simp only[Xa,Xb]at E;rw[<-E.1];exact⟨ef,ei⟩) (λow' hA=>?_) rfl rfl ⟨rfl,λ_=>by first|exact Xe _|exact X0 _⟩) ?_
  .
   refine .inr ⟨g,c,_,G,q1m _ _ _,setRow_heap w g cur _ G (0,0) p,?_,by rw[Xg];omega,eb,?_⟩
   . simp only[List.size_toArray,Xg,X4,Yn,X9];omega
   have:=H _ ow' g hA (λj u Y=>by
    rw[Xp,cell_setRow_same w g j cur _ G (0,0) p];simp only[Yg];rw[holds,Xm (Xy.1 Y).1];exact Y)
   exact q29 (b9.refl _ _) _ _ (λ_ _ L=>L) _ _ this
  simp only[rep];exact⟨Xo _,.inr ⟨g,c,cp,⟨g,0,none⟩,q1m _ _ _,rfl,a6,by omega,.inl (by simp)⟩⟩
 .
  have d0:ys=[]:=Xh hm;have d1:xs.length=0:=by
   rcases hv with⟨_,m,_⟩|⟨g,cp,cur,G,m,_⟩
   . exact m
   rw[I]at m;cases m
  have ar:xs=[]:=Xh d1;refine B w none _ J (h.more (q8y) (Xe _) (λ_ _ _=>rfl) (λb c E=>by cases E) (λow' _=>?_) rfl rfl ⟨rfl,λ_=>by first|exact Xe _|exact X0 _⟩) ?_
  . exact .inl ⟨q1m _ _ _,by rw[d0,ar];rfl⟩
  simp only[rep];exact⟨Xo _,.inl ⟨q1m _ _ _,by trivial,by omega,by trivial⟩⟩
 have d2:w.heap.size<=(w.drew.alloc (.cells ⟨d++us++c9⟩ e)).heap.size:=by simp
 refine B _ (some (w.heap.size,nc)) _ J (h.more q8y d2 (λb hb _=>Below.heap_alloc w.drew _ b hb) (λb c E hb=>by simp only[Xa,Xb]at E;omega) (λow' hA=>?_) rfl rfl ⟨rfl,λ_=>by first|exact Xe _|exact X0 _⟩) ?_
 .
  refine .inr ⟨w.heap.size,nc,_,e,q1m _ _ _,heap_alloc_new w.drew _,?_,by rw[Xg];exact T,cc,?_⟩
  . rw[<-k,<-cd];simp
  have:=H _ ow' w.heap.size hA (λj u Y=>by
   rw[Xp,cell_of_row _ w.heap.size j _ e (0,0) (heap_alloc_new w.drew _)];simp only[Yg];rw[Xm (Xy.1 Y).1];exact Y)
  exact q29 (b9.refl _ _) _ _ (λ_ _ L=>L) _ _ this
 simp only[rep];exact⟨Xo _,.inr ⟨w.heap.size,nc,nc,⟨w.heap.size,0,none⟩,q1m _ _ _,rfl,T,by omega,.inl (by simp)⟩⟩
end
end
end Go.Proofs.YtdcdfkdhomekeaaGreat

/-
  Rows of typed things, calls of functions with contracts, regions whose order is open, what arguments are. No condition beyond those that each theorem names.
-/
import Derived.Test.YtomicnbiniapfaaGreatLibB
import Derived.DeepKeys
import Derived.Below
import Derived.Deep.Slices
import Derived.Deep.Fields
import Derived.OpenShut
import Derived.WideShapes
set_option linter.unusedSimpArgs false
set_option linter.unusedVariables false
set_option linter.unusedSectionVars false
open Array renaming getElem?_eq_getElem->Xa,getD_eq_getD_getElem?->Xc,getElem?_eq_some_iff->Xf,any_eq_true'->Xm,mem_toList_iff->Xr,getElem?_replicate->Xz
open Option renaming some.injEq->Xb,map_eq_some_iff->Xe,getD_some->Xk
open Bool renaming and_eq_true->Xd,or_eq_true->Xi
open List renaming replicate->Xg,drop_drop->Xh,range->Xj,getElem?_eq_getElem->Xo,mem_range->Xp,all_eq_true->Xq,eq_nil_of_length_eq_zero->Xu,take_succ_cons->Xv,length_append->Xw,flatten_cons->Xx,cons_append->X0,length_cons->X3,getElem?_cons_zero->X4,cons.injEq->X6,drop_of_length_le->X7,getElem_cons_zero->X9,take_of_length_le->Ya,drop_zero->Yc,map_cons->Yd,getD_cons_zero->Ye,getD_cons_succ->Yf,drop_succ_cons->Yg,replicate_succ->Yh,mem_cons_self->Yi,append->Yk
open Classical renaming byContradiction->Xl
open Nat renaming zero_add->Xs,add_zero->Xt,lt_or_ge->Xy,add_left_cancel_iff->X5,le_refl->X8,testBit_or->Yb,le_trans->Yj,add_mul->Yl
namespace Go.Proofs.YtomicnbiniapfaaGreat
section
open Go Go.RowKit
def k0e(P:Program)(x:Code)(Q:Exit->St->Prop)(s:St):Prop:=vc P x Q s
class Row(α:Type) where
 sz:Nat
 row:α->List AV
def enc{α:Type}[Row α](l:List α):List (List AV):=l.map Row.row
theorem q17{α:Type}[Row α](l:List α):(enc l).length=l.length:=by simp[enc]
theorem q45{α:Type}[Row α]:enc ([]:List α)=[]:=rfl
theorem q2x{α:Type}[Row α](a b:List α):enc (a++b)=enc a++enc b:=by simp[enc]
theorem z2c{α:Type}[Row α](l:List α)(n:Nat):(enc l).take n=enc (l.take n):=by simp[enc]
theorem z5m{α:Type}[Row α](l:List α)(n:Nat):(enc l).drop n=enc (l.drop n):=by simp[enc]
theorem q4y{α:Type}[Row α](l:List α)(n:Nat)(x:α):(enc l).set n (Row.row x)=enc (l.set n x):=by simp[enc]
def idx{α:Type}(l:List α)(i:Int):Option α:=if 0<=i then l[i.toNat]? else none
theorem q83{α:Type}[Row α]{l:List α}{i:Int}{x:α}(h:idx l i=some x):0<=i/\i<l.length/\q3l (enc l) i.toNat=Row.row x:=by
 unfold idx at h
 split at h
 .
  rename_i I
  obtain⟨G,T⟩:=List.getElem?_eq_some_iff.1 h;refine⟨I,by omega,?_⟩;simp[q3l,enc,G,T]
 cases h
instance:Row Int:=⟨1,fun n=>[.v (.int .i64 n)]⟩
instance:Row Bool:=⟨1,fun b=>[.v (.bool b)]⟩
instance:Row UInt8:=⟨1,fun x=>[.v (.int .u8 x.toNat)]⟩
instance {α:Type}[Row α]:Row (List α):=⟨1,fun l=>[.sl (Row.sz α) (enc l)]⟩
structure dF where
 s:List UInt8
instance:Row dF:=⟨1,fun x=>[.v (.string ⟨⟨x.s⟩⟩)]⟩
theorem jp6(x:dF):Row.row x=[.v (.string ⟨⟨x.s⟩⟩)]:=rfl
theorem jw4:Row.sz dF=1:=rfl
theorem qq3(n:Int):Row.row n=[.v (.int .i64 n)]:=rfl
theorem qi7(b:Bool):Row.row b=[.v (.bool b)]:=rfl
theorem zl3(x:UInt8):Row.row x=[.v (.int .u8 x.toNat)]:=rfl
theorem q6l{α:Type}[Row α](l:List α):Row.row l=[.sl (Row.sz α) (enc l)]:=rfl
theorem j81:Row.sz Int=1:=rfl
theorem j48:Row.sz Bool=1:=rfl
theorem jj9:Row.sz UInt8=1:=rfl
theorem j47{α:Type}[Row α]:Row.sz (List α)=1:=rfl
def u7{α:Type}(c:Prop)[Decidable c](k:Option α):Option α:=if c then k else none
def q9{α β:Type}(x:Option α)(k:α->Option β):Option β:=x.bind k
theorem q06{α:Type}{c:Prop}[Decidable c]{k:Option α}{r:α}(h:u7 c k=some r):c/\k=some r:=by
 unfold u7 at h;split at h
 . exact⟨by assumption,h⟩
 cases h
theorem w9{α β:Type}{x:Option α}{k:α->Option β}{r:β}(h:q9 x k=some r):∃a,x=some a/\k a=some r:=Option.bind_eq_some_iff.1 h
theorem q1k{α:Type}{b:Bool}{x y:Option α}{r:α}(h:(if b=true then x else y)=some r)(hb:b=true):x=some r:=by rw[if_pos hb]at h;exact h
theorem q1l{α:Type}{b:Bool}{x y:Option α}{r:α}(h:(if b=true then x else y)=some r)(hb:b=false):y=some r:=by rw[if_neg (by simp[hb])]at h;exact h
def rounds:Nat:=18446744073709551616
def d9{G R:Type}(body:(G->Option R)->G->Option R):Nat->G->Option R
 |0,_=>none
 |n+1,s=>body (d9 body n) s
theorem qc8{G R:Type}{body:(G->Option R)->G->Option R}{n:Nat}{s:G}{r:R}(h:d9 body n s=some r):∃m,n=m+1/\body (d9 body m) s=some r:=by
 cases n with
 |zero=>cases h
 |succ m=>exact⟨m,rfl,h⟩
theorem qk7{P:Program}{s:St}{f:FuncId}{args args':List AV}{K:St->AV->Prop}{r:AV}(h:aZ P f args' 0 r)(G:args=args')(I:q0j args'=true)(T:K s r):qg1 P s f args K:=by
 subst G;exact z9j (hp1:=[]) (hp2:=s.hp) (by simp) (h.up I s.nx) (fun Z hp' nx' W=>by
  obtain⟨rfl,rfl,rfl⟩:=W;exact T)
end
section
open Go Go.RowKit
def q4b(ops:Array Oper):Nat->Nat->Nat->Bool
 |0,_,_=>false
 |n+1,i,j=>match ops[i]? with
  |some G=>G.after.any fun e=>Region.binds .any e&&(e.on==j||q4b ops n e.on j)
  |none=>false
def z2p(ops:Array Oper)(k:Nat):Bool:=(Xj ops.size).all fun i=>decide (i<k)||(Xj i).all fun j=>q4b ops ops.size i j
theorem z6v{ops:Array Oper}{k:Nat}(h:z2p ops k=true):∀i,i<ops.size->k<=i->∀j,j<i->q4b ops ops.size i j=true:=by
 intro i hi T j I;simp only[z2p,Xq,Xp,Xi,decide_eq_true_eq]at h;rcases h i hi with G|G
 . omega
 exact G j I
theorem q9u{ops:Array Oper}{listed:Nat->Prop}(I:∀i G,ops[i]?=some G->listed i->∀e∈G.after,Region.binds .any e=true->listed e.on):
 ∀(n i j:Nat) (G:Oper),ops[i]?=some G->(∀e∈G.after,Region.binds .any e=true->listed e.on)->q4b ops n i j=true->listed j
 |0,_,_,_,_,_,h=>by simp[q4b]at h
 |n+1,i,j,G,W,hd,h=>by
  unfold q4b at h;rw[W]at h;obtain⟨e,he,hb⟩:=Xm.1 h;simp only[Xd,Xi,beq_iff_eq]at hb;rcases hb.2 with T|T
  . rw[<-T];exact hd e he hb.1
  cases Z:ops[e.on]? with
  |none=>cases n<;>simp[q4b,Z]at T
  |some oe=>exact q9u I n e.on j oe Z (I e.on oe Z (hd e he hb.1)) T
section
variable {P:Program} {C:Ctx P} {hp:Hp} {nx nb nt:Nat} {β:aI}
theorem j0n{ops:Array Oper}{k:Nat}(bv:z8e ops=true)(ht:z2p ops k=true){Q:Exit->Act->World->Prop}{K:St->Prop}(hQ:∀a w,RK C K a w->Q .normal a w):
 ∀(W m:Nat) (listed:Array Bool) (s:St) (a:Act) (w:World) (β:aI),k<=m->m<=ops.size->listed.size=ops.size->(∀i,i<ops.size->(listed.getD i false=true↔i<m))->ops.size-m<=W->
  z2j s.nt ops.toList=true->Rel C s a w β->qk3 P ops (ops.toList.drop m) s K->wpAny P .any ops Q W listed a w:=by
 obtain⟨a6,_⟩:=z2o bv;have c0:=z6v ht;intro W
 induction W with
 |zero=>
  intro m listed s a w β hk hm b1 hL hf ak hR hv;have aq:m=ops.size:=by omega
  subst aq;refine⟨?_,?_⟩
  .
   cases hr:Region.ready .any ops listed with
   |nil=>rfl
   |cons i l=>
    have:i∈Region.ready .any ops listed:=by rw[hr];exact Yi
    obtain⟨I,o,ho,_⟩:=mem_ready.1 this;have hi:=(Xf.1 ho).1;have hl:=(hL i hi).2 hi;have Z:i<listed.size:=by omega
    simp only[Xc,Xa Z,Xk]at hl I;rw[hl]at I;cases I
  rw[X7 (by simp)]at hv;exact hQ a w ⟨s,β,hR,hv⟩
 |succ W ih=>
  intro m listed s a w β hk hm b1 hL hf ak hR hv;rcases Xy m ops.size with an|c1
  .
   have ao:ops[m]?=some ops[m]:=Xa an;have aj:m∈Region.ready .any ops listed:=mem_ready.2 ⟨by
    have c2:m<listed.size:=by omega
    have:=hL m an;simp only[Array.getD_eq_getD_getElem?,Array.getElem?_eq_getElem c2,Option.getD_some]at this⊢
    cases hx:listed[m]with
    |false=>rfl
    |true=>rw[hx]at this;have:=this.1 rfl;omega,ops[m],ao,fun e he hb=>(hL e.on (Nat.lt_trans (a6 m _ ao e he hb) an)).2 (a6 m _ ao e he hb)⟩
   refine⟨fun h0=>(by rw[h0]at aj;cases aj),fun i hi=>?_⟩;have c3:i=m:=by
    obtain⟨I,o,ho,he⟩:=mem_ready.1 hi;have b2:=(Xf.1 ho).1;have Z:i<listed.size:=by omega
    have c4:¬listed.getD i false=true:=by
     simp only[Xc,Xa Z,Xk]at I⊢;simp[I]
    have c1:m<=i:=Nat.le_of_not_lt fun b3=>c4 ((hL i b2).2 b3);rcases Xy m i with c5|cl
    .
     have c6:∀i oi,ops[i]?=some oi->(i<ops.size/\i<m)->∀e∈oi.after,Region.binds .any e=true->(e.on<ops.size/\e.on<m):=fun i oi c7 hi e he hb=>by
      have:=a6 i oi c7 e he hb;omega
     have:=q9u (listed:=fun i=>i<ops.size/\i<m) c6 ops.size i m o ho (fun e b4 b5=>by
      have I:=a6 i o ho e b4 b5;have h2:=he e b4 b5;exact⟨by omega,(hL e.on (by omega)).1 h2⟩) (c0 i b2 (by omega) m c5)
     omega
    omega
   subst c3;have ar:ops.toList.drop i=ops[i]::ops.toList.drop (i+1):=by
    rw[List.drop_eq_getElem_cons (by simpa using an)];simp
   rw[ar]at hv;have hd:dok s.nt ops[i].dst=true:=Xq.1 ak _ (Xr.2 (Array.getElem_mem an));have I:=zu6 (Q:=Q) hR hd hv;have G:∀a' w',a'.tmps.size=a.tmps.size->RK C (fun s'=>qk3 P ops (ops.toList.drop (i+1)) s' K) a' w'->wpAny P .any ops Q W (listed.setIfInBounds i true) a' w':=by
    rintro a' w' b6 ⟨s',β',bi,c8⟩;have c9:s'.nt=s.nt:=by rw[<-bi.nt,b6,hR.nt]
    refine ih (i+1) _ s' a' w' β' (by omega) (by omega) (by simpa using b1) (fun j hj=>?_) (by omega) (by rw[c9];exact ak) bi c8;have Z:i<listed.size:=by omega
    by_cases bs:i=j
    . subst bs;simp[Z]
    have:=hL j hj;simp only[Xc,Array.getElem?_setIfInBounds,if_neg bs]at this⊢;rw[this];omega
   unfold wpOp;rw[ao];simp only;have T:∀v,(a.put ops[i].dst v).tmps.size=a.tmps.size:=fun v=>by
    cases cb:ops[i].dst<;>simp[Act.put]
   split
   .
    rename_i hw
    rw[if_pos hw]at I
    left
    unfold Oper.wp at I⊢
    generalize (execOp a.eval ops[i]).run P w=cc at I⊢
    cases cc with
    |ok n w'=>
     cases n<;>simp only[Oper.upon]at I⊢
     . exact G _ _ (T _) I
     . exact G _ _ (T _) I
     .
      exact I.mono fun e cp he=>by
       cases e<;>first|exact G _ _ (T _) he|exact he
     .
      refine G _ _ ?_ I
      cases cb:ops[i].dst<;>simp[Act.put]
     exact I.mono fun _ _ he=>G _ _ (T _) he
    |halt x w'=>cases x<;>simp only[Oper.upon]at I⊢<;>exact I
   rename_i hw
   rw[if_neg hw]at I;exact G _ _ (T _) I
  have aq:m=ops.size:=by omega
  subst aq;have cd:Region.ready .any ops listed=[]:=by
   cases hr:Region.ready .any ops listed with
   |nil=>rfl
   |cons i l=>
    have:i∈Region.ready .any ops listed:=by rw[hr];exact Yi
    obtain⟨I,o,ho,_⟩:=mem_ready.1 this;have hi:=(Xf.1 ho).1;have hl:=(hL i hi).2 hi;have Z:i<listed.size:=by omega
    simp only[Xc,Xa Z,Xk]at hl I;rw[hl]at I;cases I
  rw[X7 (by simp)]at hv;refine⟨fun _=>hQ a w ⟨s,β,hR,hv⟩,fun i hi=>(by rw[cd]at hi;cases hi)⟩
end
end
section
open Go Go.RowKit
def cI(P:Program)(C:Ctx P)(nb nx nx' nt:Nat)(hp hp':Hp)(E:Nat->AV)(o:Oper)(r:AV):Prop:=
 ∀(a:Act) (w:World) (β:aI),Rel C ⟨nb,[],hp,nx,nt⟩ a w β->(∀t,rep w β nx (own β hp C.A) (E t) (a.tmps.getD t undef))->
  ∀(K:Act->World->Prop) (Q:Exit->Act->World->Prop),(∀G w' β',Rel C ⟨nb,[],hp',nx',nt⟩ G w' β'->(∀t,rep w' β' nx' (own β' hp' C.A) (q5u E o.dst r t) (G.tmps.getD t undef))->K G w')->o.wp P a w K Q
def j7k(P:Program)(C:Ctx P)(ops:Array Oper)(nb nx nx' nt:Nat)(hp hp':Hp)(E:Nat->AV)(o:Oper)(r:AV):Prop:=
 ∀(a:Act) (w:World) (β:aI),Rel C ⟨nb,[],hp,nx,nt⟩ a w β->(∀t,rep w β nx (own β hp C.A) (E t) (a.tmps.getD t undef))->
  ∀(K:Act->World->Prop) (Q:Exit->Act->World->Prop),(∀G w' β',Rel C ⟨nb,[],hp',nx',nt⟩ G w' β'->(∀t,rep w' β' nx' (own β' hp' C.A) (q5u E o.dst r t) (G.tmps.getD t undef))->K G w')->
   if Region.wanted o (yielded ops a.tmps)then o.wp P a w K Q else K (a.put o.dst undef) w
theorem cI.g{P:Program}{C:Ctx P}{ops:Array Oper}{nb nx nx' nt:Nat}{hp hp':Hp}{E:Nat->AV}{o:Oper}{r:AV}(G:o.guard=none)(h:cI P C nb nx nx' nt hp hp' E o r):j7k P C ops nb nx nx' nt hp hp' E o r:=
 fun a w β I T K Q W=>by rw[if_pos (by simp[Region.wanted,G])];exact h a w β I T K Q W
def qh2(ops:Array Oper)(k:Nat)(listed:Array Bool):Prop:=∀i G,ops[i]?=some G->listed.getD i false=true->i<k/\∀e∈G.after,Region.binds .any e=true->listed.getD e.on false=true
def qs2(G:Oper)(j:Nat)(listed:Array Bool):Prop:=listed.getD j false=false/\∀e∈G.after,Region.binds .any e=true->listed.getD e.on false=true
section
variable {P:Program} {C:Ctx P} {nb nt:Nat}
theorem z9u{ops:Array Oper}{k:Nat}{r E0:Nat->AV}{Ej:Nat->Nat->AV}(dP:z8e ops=true)(ht:z2p ops k=true)(d5:k<=ops.size)(d6:z2j nt ops.toList=true)(dQ:∀j,j<k->bp ops r E0 (· <j) (Ej j))
 (F:List Nat)(cb:Nat->Bool)(H:Array Bool->Hp)(N:Array Bool->Nat)
 (hq:∀listed j W,listed.size=ops.size->j<k->ops[j]?=some W->qh2 ops k listed->(∀f∈F,listed.getD f false=true)->qs2 W j listed->cb j=false->QG P (H listed) (N listed) ops (Ej j) W (r j)/\H (listed.setIfInBounds j true)=H listed/\N (listed.setIfInBounds j true)=N listed)
 (he:∀listed j W,listed.size=ops.size->j<k->ops[j]?=some W->qh2 ops k listed->(∀f∈F,listed.getD f false=true)->qs2 W j listed->cb j=true->∀E,bp ops r E0 (fun i=>listed.getD i false=true) E->(∀t∈W.looksAt ops,E t=Ej j t)->
  j7k P C ops nb (N listed) (N (listed.setIfInBounds j true)) nt (H listed) (H (listed.setIfInBounds j true)) E W (r j))
 {Q:Exit->Act->World->Prop}{Ef:Nat->AV}(d7:bp ops r E0 (· <k) Ef)
 (hQ:∀T listed a w β,listed.size=ops.size->(∀i,i<ops.size->(listed.getD i false=true↔i<k))->ops.size-k<=T->Rel C ⟨nb,[],H listed,N listed,nt⟩ a w β->(∀t,rep w β (N listed) (own β (H listed) C.A) (Ef t) (a.tmps.getD t undef))->wpAny P .any ops Q T listed a w):
 ∀(T:Nat) (listed:Array Bool) (a:Act) (w:World) (β:aI) (E:Nat->AV),listed.size=ops.size->((Xj ops.size).filter fun i=>!listed.getD i true).length<=T->
  qh2 ops k listed->Rel C ⟨nb,[],H listed,N listed,nt⟩ a w β->(∀t,rep w β (N listed) (own β (H listed) C.A) (E t) (a.tmps.getD t undef))->bp ops r E0 (fun i=>listed.getD i false=true) E->(∀f∈F,listed.getD f false=true)->wpAny P .any ops Q T listed a w:=by
 obtain⟨c6,d8⟩:=z2o dP;have dR:=z6v ht;have b6:∀(listed:Array Bool),listed.size=ops.size->(∀i,i<ops.size->(listed.getD i false=true↔i<k))->ops.size-k<=((Xj ops.size).filter fun i=>!listed.getD i true).length:=by
  intro listed ao hL;have h1:((Xj ops.size).filter fun i=>!listed.getD i true)=(Xj ops.size).filter fun i=>!decide (i<k):=List.filter_congr fun i hi=>by
   have b4:i<ops.size:=Xp.1 hi;have cc:i<listed.size:=by omega
   have:=hL i b4;simp only[Xc,Xa cc,Xk]at this⊢
   by_cases b5:i<k
   . simp[b5,this.2 b5]
   cases hx:listed[i]with
   |false=>simp[b5]
   |true=>exact absurd (this.1 hx) b5
  rw[h1];have h2:∀n,n-k<=((Xj n).filter fun i=>!decide (i<k)).length:=by
   intro n
   induction n with
   |zero=>simp
   |succ n ih=>
    rw[List.range_succ,List.filter_append,Xw]
    by_cases dS:n<k
    .
     have:n+1-k=0:=by omega
     omega
    simp[dS];omega
  exact h2 _
 intro T
 induction T with
 |zero=>
  intro listed a w β E ao bv aq hR hE hI hF;have cd:∀i,i<ops.size->listed.getD i false=true:=by
   intro i hi;have cc:i<listed.size:=by omega
   cases hx:listed.getD i false with
   |true=>rfl
   |false=>
    have:i∈(Xj ops.size).filter fun i=>!listed.getD i true:=List.mem_filter.2 ⟨Xp.2 hi,by
     simp only[Xc,Xa cc,Xk]at hx⊢;simp[hx]⟩
    have:=List.length_pos_of_mem this;omega
  have aj:∀i,i<ops.size->(listed.getD i false=true↔i<k):=fun i hi=>⟨fun h=>(aq i _ (Xa hi) h).1,fun _=>cd i hi⟩;refine hQ 0 listed a w β ao aj (Yj (b6 _ ao aj) bv) hR fun t=>?_;rw[<-(hI.iff (L':=(· <k)) fun i hi=>aj i hi).uniq d7 t];exact hE t
 |succ T ih=>
  intro listed a w β E ao bv aq hR hE hI hF
  by_cases c0:∀i,i<k->listed.getD i false=true
  . have aj:∀i,i<ops.size->(listed.getD i false=true↔i<k):=fun i hi=>⟨fun h=>(aq i _ (Xa hi) h).1,fun h=>c0 i h⟩;refine hQ (T+1) listed a w β ao aj (Yj (b6 _ ao aj) bv) hR fun t=>?_;rw[<-(hI.iff (L':=(· <k)) fun i hi=>aj i hi).uniq d7 t];exact hE t
  have cl:∃i,i<k/\listed.getD i false=false:=Xl fun hn=>c0 fun i hi=>by
   cases hx:listed.getD i false with
   |true=>rfl
   |false=>exact absurd ⟨i,hi,hx⟩ hn
  obtain⟨i0,dc,c7⟩:=cl;refine⟨fun cd=>?_,fun j hj=>?_⟩
  .
   exfalso
   have cp:∀n i,i<n->i<k->listed.getD i false=true:=by
    intro n
    induction n with
    |zero=>intro i hi;omega
    |succ n dd=>
     intro i hi b5;rcases Xy i n with d0|e1
     . exact dd i d0 b5
     have dT:i=n:=by omega
     subst dT;have b4:i<ops.size:=by omega
     by_cases hl:listed.getD i false=true
     . exact hl
     exfalso
     have I:ops[i]?=some ops[i]:=Xa b4;have:i∈Region.ready .any ops listed:=mem_ready.2 ⟨by
      have dU:i<listed.size:=by omega
      simp only[Array.getD_eq_getD_getElem?,Array.getElem?_eq_getElem dU,Option.getD_some]at hl⊢
      simpa using hl,ops[i],I,fun e he hb=>dd e.on (c6 i _ I e he hb) (Nat.lt_trans (c6 i _ I e he hb) b5)⟩
     rw[cd]at this
     cases this
   have:=cp k i0 dc dc;rw[c7]at this
   cases this
  obtain⟨d1,W,ak,a6⟩:=mem_ready.1 hj;have c1:j<ops.size:=(Xf.1 ak).1;have dk:j<listed.size:=by omega
  have d2:¬listed.getD j false=true:=by
   simp only[Xc,Xa dk,Xk]at d1⊢;simp[d1]
  have bs:j<k:=by
   rcases Xy j k with h|h
   . exact h
   exfalso
   have:=q9u (listed:=fun i=>listed.getD i false=true) (fun i oi I Z=>(aq i oi I Z).2) ops.size j i0 W ak a6 (dR j c1 h i0 (by omega));rw[c7]at this
   cases this
  have c8:qs2 W j listed:=⟨by simpa using d2,a6⟩;have ds:q1y ops j=W.dst:=by simp[q1y,ak]
  have dV:∀i oi,i<j->ops[i]?=some oi->¬listed.getD i false=true->oi.apart ops W=true:=fun i oi b2 I Z=>d8 i j oi W b2 I ak fun e he hb heq=>Z (by rw[<-heq];exact a6 e he hb);have dI:∀i oi,j<i->ops[i]?=some oi->listed.getD i false=true->W.apart ops oi=true:=fun i oi b2 I Z=>d8 j i W oi b2 ak I fun e he hb heq=>d2 (by rw[<-heq];exact (aq i oi I Z).2 e he hb);have dJ:∀t∈W.looksAt ops,E t=Ej j t:=hI.agree (dQ j bs) c1 d2
   (fun i b2 Z d hd=>by
    have b4:i<ops.size:=Nat.lt_trans b2 c1;have I:ops[i]?=some ops[i]:=Xa b4;exact (Oper.apart_spec (dV i _ b2 I Z)).1 d (by simpa [q1y,I]using hd))
   (fun i b2 b4 Z d hd=>by
    have I:ops[i]?=some ops[i]:=Xa b4;exact (Oper.apart_spec (dI i _ b2 I Z)).2.2 d (by simpa [q1y,I]using hd))
  have d3:=hI.step c1 fun k' bs d5 dW d hd dX=>by
   have c9:ops[k']?=some ops[k']:=Xa d5;exact (Oper.apart_spec (dI k' _ bs c9 dW)).2.1 d (by rw[<-ds];exact hd) (by simpa [q1y,c9]using dX)
  have G:∀(i:Nat) (b:Bool),(listed.setIfInBounds j true).getD i b=if j=i then true else listed.getD i b:=fun i b=>by
   by_cases ar:j=i
   . subst ar;rw[if_pos rfl];simp[dk]
   rw[if_neg ar];simp[ar]
  have c2:dok nt W.dst=true:=by
   have:=Xq.1 d6 W (Xr.2 (Array.mem_of_getElem? ak));exact this
  have c3:∀a' w' β',Rel C ⟨nb,[],H (listed.setIfInBounds j true),N (listed.setIfInBounds j true),nt⟩ a' w' β'->(∀t,rep w' β' (N (listed.setIfInBounds j true)) (own β' (H (listed.setIfInBounds j true)) C.A) (q5u E W.dst (r j) t) (a'.tmps.getD t undef))->
   wpAny P .any ops Q T (listed.setIfInBounds j true) a' w':=by
   intro a' w' β' an c4;refine ih _ a' w' β' (q5u E (q1y ops j) (r j)) (by simpa using ao) ?_ ?_ an (by rw[ds];exact c4) ?_ ?_
   . have:=z9e (p:=fun i=>!listed.getD i true) (q:=fun i=>!(listed.setIfInBounds j true).getD i true) (x:=j) List.nodup_range (Xp.2 c1) (by simp only[d1];rfl) (by simp only[G,if_true];rfl) (fun y hy=>by simp only[G,if_neg (Ne.symm hy)]);omega
   .
    intro i oi I Z;rw[G]at Z
    by_cases ar:j=i
    .
     subst ar;rw[ak]at I;simp only[Xb]at I;subst I;refine⟨bs,fun e he hb=>?_⟩;rw[G]
     split
     . rfl
     exact a6 e he hb
    rw[if_neg ar]at Z;refine⟨(aq i oi I Z).1,fun e he hb=>?_⟩;rw[G]
    split
    . rfl
    exact (aq i oi I Z).2 e he hb
   .
    refine d3.iff fun i _=>?_;rw[G]
    constructor
    .
     rintro (h1|h1)
     .
      split
      . rfl
      exact h1
     rw[if_pos h1.symm]
    intro h1
    by_cases ar:j=i
    . exact .inr ar.symm
    rw[if_neg ar]at h1;exact .inl h1
   intro f hf;rw[G]
   split
   . rfl
   exact hF f hf
  have dK:∀v w' β' hp0 nx0,Rel C ⟨nb,[],hp0,nx0,nt⟩ a w' β'->rep w' β' nx0 (own β' hp0 C.A) (r j) v->(∀t,rep w' β' nx0 (own β' hp0 C.A) (E t) (a.tmps.getD t undef))->
   Rel C ⟨nb,[],hp0,nx0,nt⟩ (a.put W.dst v) w' β'/\∀t,rep w' β' nx0 (own β' hp0 C.A) (q5u E W.dst (r j) t) ((a.put W.dst v).tmps.getD t undef):=by
   intro v w' β' hp0 nx0 an hv c4;refine⟨?_,?_⟩
   .
    have hz:(a.put W.dst v).tmps.size=a.tmps.size:=by cases d4:W.dst<;>simp[Act.put]
    have hf:(a.put W.dst v).defers=a.defers:=by cases d4:W.dst<;>rfl
    exact {df:=by rw[hf];exact an.df,nt:=by rw[hz];exact an.nt,ntc:=an.ntc,nb:=an.nb,alt:=an.alt,gs:=an.gs,hp:=an.hp,ext:=an.ext,env:=fun t=>by simp only[q0x,rep]}
   intro t
   cases d4:W.dst with
   |none=>simp only[q5u,Act.put];exact c4 t
   |some d=>
    simp only[q5u,Act.put];have d0:d<a.tmps.size:=by
     rw[d4]at c2;simp only[dok,decide_eq_true_eq]at c2;rw[hR.nt];exact c2
    rw[z5e _ _ _ _ _ d0]
    split
    . exact hv
    exact c4 t
  have dL:∀x,rep w β (N listed) (own β (H listed) C.A) (evF E x) (a.eval x):=fun x=>by
   cases x with
   |tmp t=>exact hE t
   |const v=>simp only[evF,rep,Act.eval]
   |global g=>simp only[evF,rep,Act.eval]
   |func f=>simp only[evF,rep,Act.eval];exact⟨[],rfl,by simp[y9]⟩
  unfold wpOp;rw[ak];simp only
  cases dM:cb j with
  |true=>
   have bi:=he listed j W ao bs ak aq hF c8 dM E hI dJ a w β hR hE _ Q c3
   by_cases hw:Region.wanted W (yielded ops a.tmps)=true
   . rw[if_pos hw]at bi⊢;exact .inl bi
   rw[if_neg hw]at bi⊢;exact bi
  |false=>
   obtain⟨dY,dN,dO⟩:=hq listed j W ao bs ak aq hF c8 dM;have b3:=j33 (fun t ht=>(dJ t ht).symm) dY;have b1:∀v w',bD w w'->rep w' β (N listed) (own β (H listed) C.A) (r j) v->wpAny P .any ops Q T (listed.setIfInBounds j true) (a.put W.dst v) w':=fun v w' c5 hv=>by
    obtain⟨h1,h2⟩:=dK v w' β (H listed) (N listed) (hR.still c5) hv (fun t=>z9x (s:=⟨nb,[],H listed,N listed,nt⟩) (C:=C) c5 (hE t));exact c3 _ w' β (by rw[dN,dO];exact h1) (by rw[dN,dO];exact h2)
   unfold QG at b3
   split at b3
   .
    rename_i hg
    rw[if_pos (by simp[Region.wanted,hg])];exact .inl (z9m hR dL b3 b1)
   rename_i g e0 hg
   split at b3
   .
    rename_i d hd
    split at b3
    .
     rename_i gb dZ
     obtain⟨r0,h1,h2⟩:=b3;have hw:=qt0 hg hd dZ (hE d);rw[hw]
     cases gb with
     |true=>
      rw[if_pos rfl];exact .inl (z9m hR dL (h1 rfl) fun v w' c5 hv=>b1 v w' c5 (by rw[h2];exact z4v hv))
     |false=>
      rw[if_neg (by simp)];exact b1 undef w (bD.refl w) (by rw[h2];exact z3c)
    exact b3.elim
   exact b3.elim
end
end
section
open Go Go.RowKit
section
variable {P:Program}
theorem j78{ops:Array Oper}{s:St}{K:St->Prop}(k:Nat)(hm:P.follows .mixedOrders=true)(hk:k<=ops.size)(ht:z2p ops k=true)
 (h:vcQ P ops (ops.toList.take k) s fun s'=>qk3 P ops (ops.toList.drop k) s' K):z2n P ops s K:=by
 intro id Z C a w β hR Q' hQ;simp only[okB,Xd,Bool.not_true,Bool.false_or]at Z;obtain⟨W,I⟩:=Z;obtain⟨r,h1,h2⟩:=j0i (ops.toList.take k) s 0 h;have hf:=qs3 (ops:=ops) r s k hk;obtain⟨e1,e2,e3,e4⟩:=z8v r (ops.toList.take k) 0 s;have a6:bD w {w with drawn:=w.drawn+1}:=⟨rfl,rfl,⟨rfl,fun _=>by first|exact X8 _|exact Nat.le_succ _⟩,X8 _,fun _ _=>rfl⟩;have ak:Rel C ⟨s.nb,[],s.hp,s.nx,s.nt⟩ a {w with drawn:=w.drawn+1} β:=by
  have:=hR.still (w':={w with drawn:=w.drawn+1}) a6;exact {df:=this.df,nt:=this.nt,ntc:=this.ntc,nb:=this.nb,alt:=this.alt,gs:=this.gs,hp:=this.hp,ext:=this.ext,env:=fun t=>by simp only[q0x,rep]}
 have an:=(hR.still (w':={w with drawn:=w.drawn+1}) a6).env;refine wp_region_any hm (z9u (C:=C) (nb:=s.nb) (nt:=s.nt) (r:=r) (E0:=q0x s.env) (Ej:=fun j=>q0x (q1s (ops.toList.take j) r 0 s).env) (k:=k) I ht hk W (fun j hj=>qs3 r s j (by omega)) [] (fun _=>false) (fun _=>s.hp) (fun _=>s.nx)
  (fun listed j oj _ hj ao _ _ _ _=>⟨?_,rfl,rfl⟩) (fun _ _ _ _ _ _ _ _ _ hx=>by cases hx) hf (fun aj listed a' w' β' aq T ar G b1=>?_)
  ops.size (Array.replicate ops.size false) a _ β (q0x s.env) (by simp) ?_ ?_ ak an ?_ (fun _ h=>by cases h))
 . have:=h1 j oj (by rw[List.getElem?_take,if_pos hj];simpa using ao);rw[Xs,List.take_take,Nat.min_eq_left (by omega)]at this;exact this
 . refine j0n (k:=k) (K:=K) I ht (fun a w ⟨s',β',G,b2⟩=>hQ _ _ _ _ _ G ⟨rfl,b2⟩) aj k listed (q1s (ops.toList.take k) r 0 s) a' w' β' (X8 _) hk aq T ar (by rw[e3];exact W) ?_ h2;exact {df:=G.df,nt:=by rw[e3];exact G.nt,ntc:=by rw[e3];exact G.ntc,nb:=by rw[e4];exact G.nb,alt:=G.alt,gs:=G.gs,hp:=by rw[e1,e2];exact G.hp,ext:=by rw[e1,e2];exact G.ext,env:=fun t=>by rw[e1,e2];exact b1 t}
 . exact Yj (List.length_filter_le _ _) (by simp)
 .
  intro i oi _ T;simp[Xz]at T
  split at T<;>simp at T
 refine fun t=> .inr ⟨fun i _ T=>?_,rfl⟩;simp[Xz]at T
 split at T<;>simp at T
end
end
section
open Go Go.RowKit
def bF(G:List Nat)(i:Nat)(I:List Edge):Nat:=I.foldr (fun e m=>if Region.binds .any e&&decide (e.on<i)then (1 <<< e.on) ||| (G.getD e.on 0 ||| m)else m) 0
def qy3(G:List Nat):Nat->List Oper->Bool
 |_,[]=>true
 |i,o::r=>((G.getD i 0 ||| bF G i o.after.toList)==bF G i o.after.toList)&&qy3 G (i+1) r
theorem z7e{G:List Nat}{i j:Nat}:∀{I:List Edge},(bF G i I).testBit j=true->∃e∈I,Region.binds .any e=true/\e.on<i/\(e.on=j\/(G.getD e.on 0).testBit j=true)
 |[],h=>by simp[bF]at h
 |e::I,h=>by
  have he:bF G i (e::I)=if Region.binds .any e&&decide (e.on<i)then (1 <<< e.on) ||| (G.getD e.on 0 ||| bF G i I)else bF G i I:=rfl
  rw[he]at h
  split at h
  .
   rename_i hb
   simp only[Xd,decide_eq_true_eq]at hb;rw[Yb,Yb,Xi,Xi]at h;rcases h with h|h|h
   .
    refine⟨e,by simp,hb.1,hb.2,.inl ?_⟩;rw[Nat.one_shiftLeft,Nat.testBit_two_pow]at h
    simpa using h
   . exact⟨e,by simp,hb.1,hb.2,.inr h⟩
   obtain⟨T,W,Z⟩:=z7e h;exact⟨T,by simp[W],Z⟩
  obtain⟨T,W,Z⟩:=z7e h;exact⟨T,by simp[W],Z⟩
theorem zn3{G:List Nat}:∀{l:List Oper} {k i:Nat} {o:Oper},qy3 G k l=true->l[i]?=some o->∀j,(G.getD (k+i) 0).testBit j=true->(bF G (k+i) o.after.toList).testBit j=true
 |[],_,_,_,_,h,_,_=>by simp at h
 |o::l,k,0,o',h,hi,j,hb=>by
  simp only[X4,Xb]at hi;subst hi;simp only[qy3,Xd,beq_iff_eq]at h;rw[Xt]at hb⊢;rw[<-h.1,Yb,hb,Bool.true_or]
 |o::l,k,i+1,o',h,hi,j,hb=>by
  simp only[qy3,Xd]at h;rw[show k+(i+1)=k+1+i by omega]at hb⊢;exact zn3 h.2 (by simpa using hi) j hb
theorem zc6{ops:Array Oper}:∀{n m i j:Nat},n<=m->q4b ops n i j=true->q4b ops m i j=true
 |0,_,_,_,_,h=>by simp[q4b]at h
 |n+1,0,_,_,G,_=>by omega
 |n+1,m+1,i,j,G,h=>by
  unfold q4b at h⊢
  split at h
  .
   rename_i Z I
   try simp only[I]
   obtain⟨e,T,hb⟩:=Xm.1 h;refine Xm.2 ⟨e,T,?_⟩;simp only[Xd,Xi]at hb⊢;refine⟨hb.1,hb.2.imp id fun W=>zc6 (by omega) W⟩
  cases h
theorem j1k{ops:Array Oper}{G:List Nat}(h:qy3 G 0 ops.toList=true):∀(i j:Nat),i<ops.size->(G.getD i 0).testBit j=true->q4b ops ops.size i j=true:=by
 have key:∀(i j:Nat),i<ops.size->(G.getD i 0).testBit j=true->q4b ops (i+1) i j=true:=by
  intro i
  induction i using Nat.strongRecOn with
  |_ i Z=>
   intro j hi hb;have ho:ops.toList[i]?=some ops[i]:=by simp[hi]
   have W:=zn3 h ho j (by rw[Xs];exact hb);rw[Xs]at W;obtain⟨e,he,I,T,h2⟩:=z7e W;unfold q4b;rw[Xa hi];refine Xm.2 ⟨e,Xr.1 he,?_⟩;simp only[Xd,Xi,beq_iff_eq];refine⟨I,h2.imp id fun h3=>zc6 (by omega) (Z e.on T j (by omega) h3)⟩
 intro i j hi hb;exact zc6 (by omega) (key i j hi hb)
def zd5(G:List Nat)(n k:Nat):Bool:=(Xj n).all fun i=>decide (i<k)||(G.getD i 0 &&& (2^i-1))==2^i-1
theorem j0o{ops:Array Oper}{I:List Nat}{k:Nat}(h:qy3 I 0 ops.toList=true)(T:zd5 I ops.size k=true):z2p ops k=true:=by
 simp only[zd5,z2p,Xq,Xp,Xi,decide_eq_true_eq,beq_iff_eq]at T⊢;intro i hi;rcases T i hi with G|G
 . exact .inl G
 refine .inr fun j Z=>j1k h i j hi ?_;have W:(2^i-1).testBit j=true:=by rw[Nat.testBit_two_pow_sub_one];simpa using Z
 rw[<-G,Nat.testBit_and,Xd]at W;exact W.1
theorem q0a{P:Program}{ops:Array Oper}{s:St}{K:St->Prop}(k:Nat)(I:List Nat)(T:P.follows .mixedOrders=true)(G:qy3 I 0 ops.toList=true)(W:k<=ops.size)(Z:zd5 I ops.size k=true)
 (h:vcQ P ops (ops.toList.take k) s fun s'=>qk3 P ops (ops.toList.drop k) s' K):z2n P ops s K:=j78 k T W (j0o G Z) h
end
section
open Go Go.RowKit
theorem zw6{id:Nat}{o o':bj}:∀{hp:Hp},q0i hp id=some o->(hp.map (·.1)).Nodup->hp.Perm ((id,o)::q4l hp id)/\(q0u hp id o').Perm ((id,o')::q4l hp id)
 |[],h,_=>by simp[q0i]at h
 |(k,q)::r,h,G=>by
  simp only[Yd,List.nodup_cons]at G;unfold q0i at h
  split at h
  .
   rename_i I
   simp only[Xb]at h;subst I;subst h;have hd:q4l r k=r:=by
    have:∀(r:Hp),k∉r.map (·.1)->q4l r k=r:=by
     intro r
     induction r with
     |nil=>intro _;rfl
     |cons p r W=>
      intro T;simp only[Yd,List.mem_cons,not_or]at T;unfold q4l;rw[if_neg (Ne.symm T.1),W T.2]
    exact this r G.1
   simp[q4l,q0u,hd]
  rename_i I
  obtain⟨Z,h2⟩:=zw6 (o':=o') h G.2;simp only[q4l,q0u,if_neg I];exact⟨(Z.cons _).trans (List.Perm.swap _ _ _),(h2.cons _).trans (List.Perm.swap _ _ _)⟩
end
section
open Go Go.RowKit
theorem k2x(b:Bool):(b==true)=b:=by cases b<;>rfl
theorem k2y(b:Bool):(b==false)=!b:=by cases b<;>rfl
theorem k2o(b:Bool):((!b)=true)=(b=false):=by cases b<;>simp
theorem k2p(b:Bool):((!b)=false)=(b=true):=by cases b<;>simp
theorem jj1{α:Type}(x:α)(l r:List α):Yk (x::l) r=x::Yk l r:=rfl
theorem jt8{α:Type}(r:List α):Yk [] r=r:=rfl
section
variable (P:Program) (Q:Exit->St->Prop) (s:St)
def jk2(ops:Array Oper)(r:List Oper)(K:St->Prop)(s:St):Prop:=qk3 P ops r s K
theorem jd7(ops r K)(s:St):jk2 P ops r K s=qk3 P ops r s K:=rfl
theorem j7v(ops)(K:St->Prop):qk3 P ops [] s K=K s:=rfl
theorem j5h(ops o r)(K:St->Prop):qk3 P ops (o::r) s K=vcG P ops o s (jk2 P ops r K):=rfl
theorem jn4:vc P .skip Q s=Q .normal s:=rfl
theorem jb9(i):vc P (.label i) Q s=Q .normal s:=rfl
theorem jv9:vc P .ret Q s=Q .ret s:=rfl
theorem jn6(i):vc P (.exit i) Q s=Q (.exit i) s:=rfl
theorem j7u(id ops G):vc P (.region id ops G) Q s=if G=true then z2n P ops s (Q .normal)else qk3 P ops ops.toList s (Q .normal):=rfl
def z1m(b:Code):Exit->St->Prop:=q6t (dE P b Q) Q
theorem jx1(b:Code):z1m P Q b .normal s=dE P b Q s:=rfl
theorem jx2(b:Code)(i):z1m P Q b (.exit i) s=Q (.exit i) s:=rfl
theorem jx0(b:Code):z1m P Q b .ret s=Q .ret s:=rfl
theorem j0h(a b):vc P (.seq a b) Q s=if bC a=true then wpV P (.seq a b) Q s else vc P a (z1m P Q b) s:=rfl
theorem jn7(c x y):vc P (.cond c x y) Q s=match x8 s.env c with
 |.v (.bool b)=>(b=true->k0e P x Q s)/\(b=false->k0e P y Q s)
 |_=>False:=rfl
theorem jc0(i c):vc P (.block i c) Q s=vc P c (qf7 i Q) s:=rfl
theorem jn5(c):vc P (.loop c) Q s=wpV P (.loop c) Q s:=rfl
variable (N:St->Prop)
theorem jo2:q6t N Q .normal s=N s:=rfl
theorem jo3(i):q6t N Q (.exit i) s=Q (.exit i) s:=rfl
theorem jo1:q6t N Q .ret s=Q .ret s:=rfl
theorem ji5(i):qf7 i Q .normal s=Q .normal s:=rfl
theorem ji6(i j):qf7 i Q (.exit j) s=if j=i then Q .normal s else Q (.exit j) s:=rfl
theorem ji4(i):qf7 i Q .ret s=Q .ret s:=rfl
variable (res:List ResultVar) (R:AV->Hp->Nat->Prop)
theorem jx4:z7a P res R .normal s=match z1o P s.hp s.env res with
 |some (c,G)=>c/\z4u s (oneOf G) R
 |none=>False:=rfl
theorem jx3:z7a P res R .ret s=match z1o P s.hp s.env res with
 |some (c,G)=>c/\z4u s (oneOf G) R
 |none=>False:=rfl
end
def quK(P:Program)(ops:Array Oper)(r:List Oper)(K:St->Prop)(s:St)(dst:Option Nat)(x:AV):Prop:=vcQ P ops r (s.put dst x) K
theorem jx6(P:Program)(ops:Array Oper)(r:List Oper)(K:St->Prop)(s:St)(dst:Option Nat)(x:AV):quK P ops r K s dst x=vcQ P ops r (s.put dst x) K:=rfl
theorem jn9(P:Program)(ops:Array Oper)(s:St)(K:St->Prop):vcQ P ops [] s K=K s:=rfl
theorem jc1(P:Program)(ops:Array Oper)(o:Oper)(r:List Oper)(s:St)(K:St->Prop):vcQ P ops (o::r) s K=qG P ops s o (quK P ops r K s o.dst):=rfl
def exQ(P:Program)(f:FuncId)(args:List AV)(nx:Nat)(g:Bool)(K:AV->Prop):Prop:=∃r,(g=true->aZ P f args nx r)/\K r
def exK(g:Bool)(K:AV->Prop)(r:AV):Prop:=K (mkG g r)
theorem k01(g:Bool)(K:AV->Prop)(r:AV):exK g K r=K (mkG g r):=rfl
theorem k0r(P:Program)(s:St)(op:Op)(K:AV->Prop):qG.qO P s op K=match qt2 P s.hp (x8 s.env) op with
 |some (c,r)=>c/\K r
 |none=>qG.qX P s op true K:=rfl
def z7s(P:Program)(o:Oper)(K:AV->Prop)(s:St)(g:Bool):Prop:=(g=true->qG.qO P s o.op (exK true K))/\(g=false->K (mkG false .bk))
theorem jd0(P:Program)(o:Oper)(K:AV->Prop)(s:St):z7s P o K s true=qG.qO P s o.op (exK true K):=by simp[z7s]
theorem jd1(P:Program)(o:Oper)(K:AV->Prop)(s:St):z7s P o K s false=K (mkG false .bk):=by simp[z7s]
theorem k0s(P:Program)(ops:Array Oper)(s:St)(o:Oper)(K:AV->Prop):qG P ops s o K=match o.guard with
 |none=>qG.qO P s o.op K
 |some (j,G)=>match q1y ops j with
  |some d=>match z2w (q0x s.env d) G with
   |some g=>if zk9 o.op=true then z7s P o K s g else match qt2 P s.hp (x8 s.env) o.op with
    |some (c,r)=>(g=true->c)/\K (mkG g r)
    |none=>if bsO o.op=true then qG.qX P s o.op g (exK g K)else z7s P o K s g
   |none=>False
  |none=>False:=rfl
def qXs(P:Program)(s:St)(op:Op)(g:Bool)(K:AV->Prop):Prop:=match op with
 |.call c=>match c.callee,c.args.toList,c.argTypes.toList with
  |.value T,args,_=>match (x8 s.env T).st with
   |.clo f G=>(g=true->(True/\(x8 s.env T).aU/\bm (args.map (x8 s.env))/\q0j ((args.map fun x=>(x8 s.env x).st)++G)=true))/\exQ P f ((args.map fun x=>(x8 s.env x).st)++G) 0 g K
   |_=>False
  |_,_,_=>False
 |.buildSlice t n parts=>match aO P t,z0s (parts.toList.map fun p=>(x8 s.env p.2).st)with
  |some e,some I=>match q1w P e with
   |some zs=>(g=true->q19 P e=true/\zs.length=szT P e/\0<szT P e/\n*szT P e<=16777216/\qg9 parts.toList 0=true/\parts.toList.length=n/\bm (parts.toList.map fun p=>x8 s.env p.2)/\qv8 (szT P e) I=true/\
    I.flatten.all qg3=true/\I.flatten.all qf9=true)/\K (.sl (szT P e) (I.map (q1v (z2l s.hp P e))))
   |none=>False
  |_,_=>False
 |.makeSlice t l c=>match (x8 s.env l).st,(x8 s.env c).st,aO P t with
  |.v (.int _ n),.v (.int _ m),some e=>match q1w P e with
   |some zs=>(g=true->(x8 s.env l).aU/\(x8 s.env c).aU/\m=n/\q19 P e=true/\zs.length=szT P e/\0<szT P e/\0<q2h P e/\0<=n/\n*q2h P e<=140737488355328/\zs.all (·.oneCell')=true)/\
    K (.sl (szT P e) (Xg n.toNat (q1v (z2l s.hp P e) (zs.map AV.v))))
   |none=>False
  |_,_,_=>False
 |_=>False
theorem k0q(P:Program)(s:St)(op:Op)(g:Bool)(K:AV->Prop):qG.qX P s op g K=qXs P s op g K:=by
 unfold qG.qX qXs
 cases op<;>try rfl
 rename_i c
 simp only
 cases c.callee<;>try rfl
 rename_i W
 simp only
 cases (x8 s.env W).st<;>try rfl
 simp only[exQ];apply propext
 constructor
 . rintro⟨r,I,T⟩;exact⟨fun G=>(I G).1,r,fun G=>(I G).2,T⟩
 rintro⟨I,r,T,Z⟩;exact⟨r,fun G=>⟨I G,T G⟩,Z⟩
theorem br{P:Program}{f:FuncId}{args args':List AV}{nx:Nat}{g:Bool}{K:AV->Prop}{r:AV}(h:g=true->aZ P f args' 0 r)(G:args=args')(I:q0j args'=true)(T:K r):exQ P f args nx g K:=by
 subst G;exact⟨r,fun W=>(h W).up I nx,T⟩
theorem jp3{P:Program}{Q:Exit->St->Prop}{s:St}{x y:Code}(h:vc P x (z1m P Q y) s):wpV P (.seq x y) Q s:=jw9 h
attribute [go_sem] k0a k0c k0b k0d jy2 j8s j8u j8v j8t ji3 ji8 Nat.reduceSub j04 j6e q1v bsO and_assoc Nat.lt_irrefl Option.isSome_some Option.isSome_none jn4 jb9 jv9 jn6 j7u j0h jn7 jc0 jn5 bC ck jd7 ji2 j7v j5h vcG zk9 jd2 jd3 vcO vcX jx6 jn9 jc1 k01 jd0 jd1 k0r k0s k0q qXs z2w mkG q1y qt2 fop n1 x8 q0x qx4 St.put jo2 jo3 jo1 jx1 jx2 jx0 ji5 ji6 ji4 jx4 jx3 z1o oneOf AV.st AV.aU cz Option.map_some Option.map_none j7e zp5 unR j6h j6j j6p j06 j07 zo4 zn8 ze2 qc7 zl0 qf6 z9a zc2 ze5 eqR qo3 eqA j2x j01 j6t j0a z2i z0s qi6 q0i q0u q4l q74 bm q9w frz z10 qf9 qg3 qg9 qv8 Yd List.map_nil Xx List.flatten_nil List.all_cons List.all_nil List.append_nil List.nil_append X0 X3 List.length_nil List.getElem?_toArray X4 List.getElem?_cons_succ Option.bind_some if_true if_false true_and and_true and_self Bool.false_eq_true Bool.true_eq_false Bool.or_false Bool.false_or Bool.or_true Bool.true_or Bool.and_false Bool.false_and Bool.and_true Bool.true_and Bool.not_true Bool.not_false beq_self_eq_true j60 ne_eq not_false_eq_true not_true_eq_false forall_const Yc Xs Xt false_implies implies_true true_implies Ye Yf Yg Xv List.take_zero List.set_cons_zero List.set_cons_succ true_or or_true or_false false_or Value.oneCell' Nat.add_eq_left X5 Nat.add_assoc decide_eq_true_eq decide_eq_false_iff_not ge_iff_le gt_iff_lt Int.toNat_natCast beq_iff_eq Xd decide_true decide_false Int.natCast_nonneg imp_self Int.natCast_eq_zero jj1 jt8 lits k2x k2y bne q81 k2o k2p undef
attribute [go_sem] z7t ju1 j0c j7j zd1 jm6 j0b qh5 be be.AvLeL q82 q0x q0i Nat.sub_self Nat.add_sub_cancel_left Ye Yf List.getD_nil if_true if_false true_and and_true and_self Xb exists_eq_left' Nat.lt_succ_self Nat.add_eq_left Nat.left_eq_add zm5 forall_const List.mem_nil_iff false_implies implies_true not_false_eq_true ne_eq exists_eq_left X8 Nat.le_add_right Nat.lt_add_right_iff_pos X5 j6b Nat.add_assoc jh9 qq3 qi7 zl3 jp6 jw4 q6l j81 j48 jj9 j47 q17 q45 z2c z5m q0q q0j j3t
end
section
open Go Go.RowKit
def zo3(g:TypeId->Option (List (Option IntKind)))(c:TypeId->Nat):List Field->Nat->Option (List (Option IntKind))
 |[],_=>some []
 |f::r,o=>if f.name="_"\/f.offset≠o then none else match g f.type with
  |some G=>if c f.type=G.length then (zo3 g c r (o+G.length)).map (G++·)else none
  |none=>none
def qn1(P:Program):Nat->TypeId->Option (List (Option IntKind))
 |0,_=>none
 |m+1,t=>if q19 P t=true then match P.underlying t with
  |some .bool=>some [none]
  |some (.int k)=>some [some k]
  |some (.struct I)=>if P.stoodInHeld t=true then none else zo3 (qn1 P m) (szT P) I.toList 0
  |some (.array n e)=>match qn1 P m e with
   |some G=>if szT P e=G.length/\P.cellsOf e=G.length then some (Xg n G).flatten else none
   |none=>none
  |_=>none else none
def VT(P:Program)(t:TypeId)(us:List Value)(x:Value):Prop:=match P.underlying t with
 |some (.struct _)=>x=.agg ⟨us⟩
 |some (.array _ _)=>x=.agg ⟨us⟩
 |_=>us=[x]
theorem z3k:∀{us:List Value} {G},q20 us=some G->us.length=G.length
 |[],G,h=>by simp[q20]at h;subst h;rfl
 |u::r,G,h=>by
  cases u<;>simp only[q20,Xe,reduceCtorEq]at h
  all_goals (obtain⟨s,I,rfl⟩:=h;simp[z3k I])
theorem qr7:∀{G I:List (Option IntKind)} {us:List Value},q20 us=some (G++I)->q20 (us.take G.length)=some G/\q20 (us.drop G.length)=some I
 |[],I,us,h=>by simpa [q20]using h
 |a::G,I,[],h=>by simp[q20]at h
 |a::G,I,u::us,h=>by
  cases u<;>simp only[q20,Xe,reduceCtorEq,X0,X6]at h
  all_goals
   obtain⟨s,T,rfl,rfl⟩:=h;have:=qr7 T;simp[q20,this.1,this.2]
theorem zb8:∀{G:List (Option IntKind)} {us vs:List Value},q20 (us.take G.length)=some G->q20 (vs.take G.length)=some G->eqV us vs=(eqV (us.take G.length) (vs.take G.length)&&eqV (us.drop G.length) (vs.drop G.length))
 |[],us,vs,_,_=>by simp[eqV]
 |a::G,[],vs,h,_=>by simp[q20]at h
 |a::G,u::us,[],_,h=>by simp[q20]at h
 |a::G,u::us,v::vs,h,I=>by
  simp only[X3,Xv]at h I
  cases u<;>simp only[q20,Xe,reduceCtorEq,X6]at h
  all_goals
   obtain⟨s,W,rfl,rfl⟩:=h
   cases v<;>simp only[q20,Xe,reduceCtorEq,X6,Xb]at I
   all_goals
    obtain⟨s',Z,T⟩:=I
    first
     |(exfalso;simp at T;done)
     |(have h4:=T.2
       subst h4;have:=zb8 W Z;simp only[eqV,X3,Xv,Yg,this,Bool.and_assoc])
theorem zb6{P:Program}{m:Nat}{t:TypeId}{G}(h:qn1 P m t=some G):q19 P t=true:=by
 cases m with
 |zero=>simp[qn1]at h
 |succ m=>
  unfold qn1 at h
  split at h
  . assumption
  cases h
theorem qy9{P:Program}{w:World}{m:Nat}{t:TypeId}{I}(h:qn1 P m t=some I)(hz:szT P t=I.length)(us:List Value)(off:Nat)(hs:q20 ((us.drop off).take I.length)=some I):
 ∃x,(part t ⟨us⟩ off).run P w=.ok x w/\VT P t ((us.drop off).take I.length) x:=by
 have T:=zb6 h
 cases m with
 |zero=>simp[qn1]at h
 |succ m=>
  unfold qn1 at h;rw[if_pos T]at h;have one:∀k,I=[k]->∃u,(us.drop off).take I.length=[u]/\us[off]?=some u:=by
   rintro k rfl;have hl:=z3k hs
   cases hd:us.drop off with
   |nil=>rw[hd]at hl;simp at hl
   |cons u r=>
    refine⟨u,by simp,?_⟩;have:=List.getElem?_drop (xs:=us) (i:=off) (j:=0);rw[hd]at this
    simpa using this.symm
  split at h
  .
   rename_i G
   simp only[Xb]at h;obtain⟨u,W,Z⟩:=one none h.symm;refine⟨u,?_,by rw[W];simp[VT,G]⟩;unfold part;simp[ql7 T,q6s,G,Z]
  .
   rename_i k G
   simp only[Xb]at h;obtain⟨u,W,Z⟩:=one (some k) h.symm;refine⟨u,?_,by rw[W];simp[VT,G]⟩;unfold part;simp[ql7 T,q6s,G,Z]
  .
   rename_i fs G
   refine⟨.agg ⟨(us.drop off).take I.length⟩,?_,by simp[VT,G]⟩;unfold part;simp[ql7 T,q6s,G,run_sizeOf T,hz]
  .
   rename_i n e G
   refine⟨.agg ⟨(us.drop off).take I.length⟩,?_,by simp[VT,G]⟩;unfold part;simp[ql7 T,q6s,G,run_sizeOf T,hz]
  cases h
theorem z9s{P:Program}{w:World}{m d:Nat}
 (IH:∀t G,qn1 P m t=some G->∀us vs x y,VT P t us x->VT P t vs y->q20 us=some G->q20 vs=some G->(Op.equalIn (d+m) t x y).run P w=.ok (eqV us vs) w):
 ∀(I:List Field) (o:Nat) (G),zo3 (qn1 P m) (szT P) I o=some G->∀us vs:List Value,q20 (us.drop o)=some G->q20 (vs.drop o)=some G->
  (Op.eqFields (d+m) ⟨us⟩ ⟨vs⟩ I).run P w=.ok (eqV (us.drop o) (vs.drop o)) w
 |[],o,G,h,us,vs,T,h2=>by
  simp only[zo3,Xb]at h;subst h;have e1:=z3k T;have e2:us.drop o=[]:=Xu (by simpa using e1);rw[e2];simp[Op.eqFields,eqV]
 |f::I,o,G,h,us,vs,T,h2=>by
  unfold zo3 at h
  split at h
  . cases h
  rename_i hc
  split at h
  .
   rename_i s W
   split at h
   .
    rename_i hz
    simp only[Xe]at h;obtain⟨r,hr,rfl⟩:=h;have hn:f.name≠"_":=fun Z=>hc (.inl Z);have ho:f.offset=o:=Xl fun Z=>hc (.inr Z);obtain⟨a1,a2⟩:=qr7 T;obtain⟨b1,b2⟩:=qr7 h2;obtain⟨x,p1,v1⟩:=qy9 (w:=w) W hz us o a1;obtain⟨y,p2,v2⟩:=qy9 (w:=w) W hz vs o b1;have p3:=IH _ _ W _ _ _ _ v1 v2 a1 b1;rw[Xh]at a2 b2;have p4:=z9s IH I (o+s.length) r hr us vs a2 b2;rw[zb8 a1 b1,Xh,Xh];simp only[Op.eqFields,hn,ne_eq,not_false_eq_true,if_true,Sem.run_bind,ho,p1,p2,p3,Result.andThen_ok]
    cases eqV ((us.drop o).take s.length) ((vs.drop o).take s.length)
    . simp
    simpa using p4
   cases h
  cases h
theorem zb9{P:Program}{w:World}{m d:Nat}{e:TypeId}{s:List (Option IntKind)}(I:qn1 P m e=some s)(T:szT P e=s.length)
 (IH:∀us vs x y,VT P e us x->VT P e vs y->q20 us=some s->q20 vs=some s->(Op.equalIn (d+m) e x y).run P w=.ok (eqV us vs) w)(us vs:List Value):
 ∀(n o:Nat),q20 (us.drop (o*s.length))=some (Xg n s).flatten->q20 (vs.drop (o*s.length))=some (Xg n s).flatten->
  (Op.eqItems (d+m) e s.length ⟨us⟩ ⟨vs⟩ (List.range' o n)).run P w=.ok (eqV (us.drop (o*s.length)) (vs.drop (o*s.length))) w
 |0,o,G,W=>by
  have e1:=z3k G;have e2:us.drop (o*s.length)=[]:=Xu (by simpa using e1);rw[e2];simp[Op.eqItems,eqV]
 |n+1,o,G,W=>by
  rw[Yh,Xx]at G W;obtain⟨a1,a2⟩:=qr7 G;obtain⟨Z,b2⟩:=qr7 W;obtain⟨x,p1,v1⟩:=qy9 (w:=w) I T us (o*s.length) a1;obtain⟨y,p2,v2⟩:=qy9 (w:=w) I T vs (o*s.length) Z;have p3:=IH _ _ _ _ v1 v2 a1 Z;have eo:o*s.length+s.length=(o+1)*s.length:=by rw[Yl,Nat.one_mul]
  rw[Xh,eo]at a2 b2;have p4:=zb9 I T IH us vs n (o+1) a2 b2;rw[zb8 a1 Z,Xh,Xh,eo];simp only[List.range'_succ,Op.eqItems,Sem.run_bind,p1,p2,p3,Result.andThen_ok]
  cases eqV ((us.drop (o*s.length)).take s.length) ((vs.drop (o*s.length)).take s.length)
  . simp
  simpa using p4
theorem z5l{P:Program}{w:World}(d:Nat):∀(m:Nat) (t:TypeId) (I),qn1 P m t=some I->∀us vs x y,VT P t us x->VT P t vs y->q20 us=some I->q20 vs=some I->
 (Op.equalIn (d+m) t x y).run P w=.ok (eqV us vs) w
 |0,t,I,h,_,_,_,_,_,_,_,_=>by simp[qn1]at h
 |m+1,t,I,h,us,vs,x,y,T,W,Z,h2=>by
  have hh:=zb6 h;unfold qn1 at h;rw[if_pos hh]at h
  split at h
  .
   rename_i G
   simp only[Xb]at h;subst h;simp only[VT,G]at T W;subst T;subst W
   cases x<;>simp[q20]at Z
   cases y<;>simp[q20]at h2
   rw[show d+(m+1)=d+m+1 from rfl,run_equalIn_bool w (d+m) t _ _ G];simp[eqV]
  .
   rename_i k G
   simp only[Xb]at h;subst h;simp only[VT,G]at T W;subst T;subst W
   cases x<;>simp[q20]at Z
   cases y<;>simp[q20]at h2
   subst Z;subst h2;rw[show d+(m+1)=d+m+1 from rfl,run_equalIn_int w (d+m) t _ _ _ _ G];simp[eqV]
  .
   rename_i fs G
   split at h
   . cases h
   rename_i aj
   simp only[VT,G]at T W;subst T;subst W;have a6:P.fieldsOf t=fs:=by simp[Program.fieldsOf,G]
   rw[show d+(m+1)=d+m+1 from rfl,run_equalIn_struct w (d+m) t _ _ (by rw[a6];exact G) (by simpa using aj),a6];have:=z9s (w:=w) (d:=d) (fun t I h=>z5l d m t I h) fs.toList 0 I h us vs (by simpa using Z) (by simpa using h2)
   simpa using this
  .
   rename_i n e G
   split at h
   .
    rename_i s hs
    split at h
    .
     rename_i hz
     simp only[Xb]at h;subst h;simp only[VT,G]at T W;subst T;subst W;obtain⟨i,_,hi,_,_⟩:=z0e (zb6 hs);rw[show d+(m+1)=d+m+1 from rfl,run_equalIn_array w (d+m) _ _ G hi,hz.2,List.range_eq_range'];have:=zb9 (w:=w) (d:=d) hs hz.1 (fun us vs x y=>z5l d m e s hs us vs x y) us vs n 0 (by simpa using Z) (by simpa using h2)
     simpa using this
    cases h
   cases h
  cases h
theorem k0k{P:Program}{t:TypeId}{I}(W:P.eqGuardType P.depth t=false)(T:q6s P t=true)(h:qn1 P 9 t=some I):EqT P t I:=by
 refine⟨W,fun us vs Z h2 w=>?_⟩;have G:∀us,VT P t us (.agg ⟨us⟩):=by
  intro us;unfold VT;unfold q6s at T
  split at T<;>rename_i G<;>first|(rw[G])|cases T
 exact z5l 9991 9 t I h us vs _ _ (G _) (G _) Z h2
end
section
open Go Go.RowKit
theorem j1a(b:Nat):¬own noG [] (fun _=>False) b:=by
 rintro (h|⟨p,hp,_⟩)
 . exact h
 cases hp
theorem j7b{P:Program}{f:FuncId}{args:List AV}{v:Value}(hb:q02 P f=true)(h:aZ P f args 0 (.v v))(w:World)(T:GLW P w)(vs:List Value)
 (W:y9 w noG 0 (own noG [] (fun _=>False)) args vs):Calls P f ⟨vs⟩ w fun e w'=>e=.returned v/\Below w.heap.size w w':=by
 refine ((h w noG (fun _=>False) vs (fun b hb=>hb.elim) W aV.nil ⟨T,fun _ _ _ _ ⟨_,h,_⟩=>by cases h⟩).1 hb).mono ?_;rintro e w' ⟨u,r,hp',nx',β',rfl,⟨rfl,rfl,rfl⟩,I,hh,G⟩;simp only[rep]at I;subst I;exact⟨rfl,G.os,G.tape,G.output.1,G.size,fun k Z=>G.keep k Z (by rintro⟨q,hq,_⟩;cases hq)⟩
end
section
open Go Go.RowKit
theorem z1b(P:Program)(t:TypeId):P.cellsOf t=szT P t:=rfl
section
variable {H:Type} {enc:TypeId×Value->H} {P:Program} {w:World} {base:Nat} {spare:Nat->Bool} {held:Bool}
end
end
section
open Go Go.RowKit Go.WideShapes
inductive CT where
 |int(k:IntKind)
 |bool
 |str
 |sl(row:List CT)
mutual
def z9d:CT->AV->Prop
 |.int k,a=>∃n,a=.v (.int k n)/\(Lit.int k n).wf=true
 |.bool,a=>∃b,a=.v (.bool b)
 |.str,a=>∃s:ByteArray,a=.v (.string s)/\s.size<=maxLen
 |.sl row,a=>∃G,a=.sl row.length G/\G.length<=maxLen/\∀r∈G,q46 row r
def q46:List CT->List AV->Prop
 |[],I=>I=[]
 |c::cs,I=>∃a r,I=a::r/\z9d c a/\q46 cs r
end
def j2r(g:TypeId->Option (List CT))(c:TypeId->Nat):List Field->Nat->Option (List CT)
 |[],_=>some []
 |f::r,o=>if f.offset≠o then none else match g f.type with
  |some G=>if c f.type=G.length then (j2r g c r (o+G.length)).map (G++·)else none
  |none=>none
def z13(P:Program):Nat->TypeId->Option (List CT)
 |0,_=>none
 |m+1,t=>match P.underlying t with
  |some .bool=>some [.bool]
  |some (.int k)=>some [.int k]
  |some .string=>some [.str]
  |some (.slice e)=>match z13 P m e with
   |some row=>if szT P e=row.length/\0<row.length then some [.sl row]else none
   |none=>none
  |some (.struct G)=>j2r (z13 P m) (szT P) G.toList 0
  |some (.array n e)=>match z13 P m e with
   |some row=>if szT P e=row.length then some (Xg n row).flatten else none
   |none=>none
  |_=>none
def z0l(w:World)(β:aI)(ow:Nat->Prop)(I:List CT)(us:List Value):Prop:=∃G,q46 I G/\y9 w β 0 ow G us/\∀u∈us,u.oneCell'=true
section
variable {w:World} {β:aI} {ow:Nat->Prop}
theorem za2:∀{I:List CT} {G:List AV},q46 I G->G.length=I.length
 |[],G,h=>by simp only[q46]at h;subst h;rfl
 |c::cs,G,h=>by
  simp only[q46]at h;obtain⟨a,r,rfl,_,T⟩:=h;simp[za2 T]
theorem zv8:∀{T G:List CT} {a1 a2:List AV},q46 T a1->q46 G a2->q46 (T++G) (a1++a2)
 |[],G,a1,a2,h,I=>by simp only[q46]at h;subst h;simpa using I
 |c::cs,G,a1,a2,h,I=>by
  simp only[q46]at h;obtain⟨a,r,rfl,W,Z⟩:=h;simp only[X0,q46];exact⟨a,r++a2,rfl,W,zv8 Z I⟩
theorem zg8{G I:List CT}{T W:List Value}(Z:z0l w β ow G T)(h2:z0l w β ow I W):z0l w β ow (G++I) (T++W):=by
 obtain⟨a1,p1,q1,r1⟩:=Z;obtain⟨a2,p2,q2,r2⟩:=h2;exact⟨a1++a2,zv8 p1 p2,q6m q1 q2,fun u hu=>(List.mem_append.1 hu).elim (r1 u) (r2 u)⟩
theorem z7v{b:Nat}:∀(as:List AV) (us:List Value) (o:Nat),(∀j (T:j<us.length),w.cell? ⟨b,o+j,none⟩=some us[j])->(∀u∈us,u.oneCell'=true)->y9 w β 0 ow as us->q4c w β ow b as o
 |[],_,_,_,_,_=>by simp[q4c]
 |a::as,[],_,_,_,h=>by simp only[y9]at h
 |a::as,u::us,o,G,I,h=>by
  simp only[y9]at h;simp only[q4c];refine⟨⟨u,by have:=G 0 (by simp);simpa only[Xt,X9]using this,I u (by simp),h.1⟩,z7v as us (o+1) (fun j T=>?_) (fun v W=>I v (by simp[W])) h.2⟩;have:=G (j+1) (by simp;omega);rw[show o+1+j=o+(j+1) by omega,this];simp
theorem zl6{b sz:Nat}:∀(L:List (List AV)) (o:Nat),(∀i (hi:i<L.length),L[i].length=sz/\q4c w β ow b L[i] (o+i*sz))->q0p w β ow sz b L o
 |[],o,_=>by simp[q0p]
 |r::I,o,h=>by
  have G:=h 0 (by simp);simp only[X9,Nat.zero_mul,Xt]at G;simp only[q0p];refine⟨G.1,G.2,zl6 I (o+sz) (fun i hi=>?_)⟩;have:=h (i+1) (by simp;omega);simp only[List.getElem_cons_succ]at this;refine⟨this.1,?_⟩;rw[show o+sz+i*sz=o+(i+1)*sz by rw[Yl];omega];exact this.2
variable {H:Type} {enc:TypeId×Value->H} {P:Program} {base:Nat} {spare:Nat->Bool} {held:Bool}
theorem zu8{m n:Nat}(IH:∀t I,z13 P m t=some I->szT P t=I.length->∀T cs x,DataW.trod enc P w base spare held T t cs=some x->z0l w β ow I cs)(cs:List Value):
 ∀(Z:List Field) (o:Nat) (W),j2r (z13 P m) (szT P) Z o=some W->(∀f∈Z,∃y,DataW.trod enc P w base spare held n f.type ((cs.drop f.offset).take (P.cellsOf f.type))=some y)->
  z0l w β ow W ((cs.drop o).take W.length)
 |[],o,W,h,_=>by
  simp only[j2r,Xb]at h;subst h;exact⟨[],by simp[q46],by simp[y9],by simp⟩
 |f::Z,o,W,h,G=>by
  unfold j2r at h
  split at h
  . cases h
  rename_i hc
  split at h
  .
   rename_i s hs
   split at h
   .
    rename_i hz
    simp only[Xe]at h;obtain⟨r,hr,rfl⟩:=h;have ho:f.offset=o:=Xl hc;obtain⟨y,hy⟩:=G f (by simp);rw[ho,z1b,hz]at hy;have h1:=IH _ _ hs hz _ _ _ hy;have h2:=zu8 IH cs Z (o+s.length) r hr (fun g hg=>G g (by simp[hg]));have he:(cs.drop o).take (s++r).length=(cs.drop o).take s.length++(cs.drop (o+s.length)).take r.length:=by
     rw[Xw,List.take_add,Xh]
    rw[he];exact zg8 h1 h2
   cases h
  cases h
theorem j0m{e:TypeId}{row:List CT}(cs:List Value)(I:szT P e=row.length):∀(n o:Nat),(∀i,i<n->z0l w β ow row ((cs.drop (o+i*row.length)).take row.length))->
 z0l w β ow (Xg n row).flatten ((cs.drop o).take (Xg n row).flatten.length)
 |0,o,_=>⟨[],by simp[q46],by simp[y9],by simp⟩
 |n+1,o,h=>by
  have G:=h 0 (by omega);simp only[Nat.zero_mul,Xt]at G;have T:=j0m cs I n (o+row.length) (fun i hi=>by
   have:=h (i+1) (by omega);rw[show o+row.length+i*row.length=o+(i+1)*row.length by rw[Yl];omega];exact this)
  rw[Yh,Xx,Xw,List.take_add,Xh];exact zg8 G T
theorem z3j(ak:∀b,¬ow b):∀(m:Nat) (t:TypeId) (T),z13 P m t=some T->szT P t=T.length->∀a6 cs x,DataW.trod enc P w base spare held a6 t cs=some x->z0l w β ow T cs
 |0,t,T,h,_,_,_,_,_=>by simp[z13]at h
 |m+1,t,T,h,hz,a6,cs,x,hx=>by
  unfold z13 at h
  split at h
  .
   rename_i hu
   simp only[Xb]at h;subst h;obtain⟨b,rfl,_⟩:=DataW.trod_bool hu hx;exact⟨[.v (.bool b)],by simp[q46,z9d],by simp[y9,rep],by simp[Value.oneCell']⟩
  .
   rename_i k hu
   simp only[Xb]at h;subst h;obtain⟨n,rfl,_,hw⟩:=DataW.trod_int hu hx;exact⟨[.v (.int k n)],by simp[q46,z9d,hw],by simp[y9,rep],by simp[Value.oneCell']⟩
  .
   rename_i hu
   simp only[Xb]at h;subst h;obtain⟨s,rfl,_,hw⟩:=DataW.trod_string hu hx;exact⟨[.v (.string s)],by simp[q46,z9d,hw],by simp[y9,rep],by simp[Value.oneCell']⟩
  .
   rename_i e hu
   split at h
   .
    rename_i row aj
    split at h
    .
     rename_i I
     obtain⟨I,aq⟩:=I;simp only[Xb]at h;subst h;rcases Go.Deep.open_slice hu hx with⟨rfl,_⟩|⟨a,len,cap,M,n,D,Pl,rfl,_,hl,hm,hM,_,hi⟩
     . exact⟨[.sl row.length []],by simp[q46,z9d],by simp[y9,rep],by simp[Value.oneCell']⟩
     have c3:len<=M:=by rw[hM];split<;>omega
     rw[z1b,I]at hi;obtain⟨f,hf⟩:=Go.Deep.choose_lt (α:=List AV×List Value) (n:=len) (p:=fun i q=>w.cells? base (a.add (i*row.length)) row.length=some q.2/\q46 row q.1/\y9 w β 0 ow q.1 q.2/\∀u∈q.2,u.oneCell'=true) (fun i W=>by
      obtain⟨b2,hc,b3⟩:=hi i (by omega);obtain⟨b4,k1,k2,k3⟩:=z3j ak m e row aj I _ _ _ b3;exact⟨(b4,b2),hc,k1,k2,k3⟩)
     have Z:∀i,i<len->(f i).2.length=row.length/\∀j,j<row.length->w.cell? (a.add (i*row.length+j))=(f i).2[j]?:=fun i W=>by
      obtain⟨_,an,b5⟩:=World.cells?_some (hf i W).1;refine⟨by rw[q1p (hf i W).2.2.1 |>.symm,za2 (hf i W).2.1],fun j hj=>?_⟩;rw[<-Go.Deep.add_add];exact b5 j hj
     refine⟨[.sl row.length ((Xj len).map fun i=>(f i).1)],?_,?_,by simp[Value.oneCell']⟩
     . simp only[q46,z9d];refine⟨_,_,rfl,⟨_,rfl,by simp;omega,fun r hr=>?_⟩,rfl⟩;obtain⟨i,b6,rfl⟩:=List.mem_map.1 hr;exact (hf i (by simpa using b6)).2.1
     simp only[y9,rep];refine⟨?_,trivial⟩;rcases Nat.eq_zero_or_pos len with h0|h0
     . subst h0;exact .inl ⟨by simp,_,_,rfl⟩
     right
     have G:=(Z 0 h0).2 0 aq;have bi:=(Z 0 h0).1;rw[Xo (by omega)]at G;obtain⟨b,o,ar⟩:=a;have bs:ar=none:=by simpa [Addr.add]using World.cell?_spot G
     subst bs;have ao:∀i,(⟨b,o,none⟩:Addr).add i=⟨b,o+i,none⟩:=fun i=>by
      unfold Addr.add;split
      . rename_i h;subst h;rfl
      rfl
     refine⟨b,o,cap,by simp,by simpa using hl,ak b,?_,zl6 _ _ (fun i hi'=>?_)⟩
     .
      rw[ao]at G;unfold World.cell? at G
      split at G
      .
       rename_i heq
       exact (Xf.1 heq).1
      cases G
     have W:i<len:=by simpa using hi'
     have h1:=hf i W;have h2:=Z i W;simp only[List.getElem_map,List.getElem_range];refine⟨za2 h1.2.1,z7v _ _ _ (fun j hj=>?_) h1.2.2.2 h1.2.2.1⟩;have:=h2.2 j (by omega);rw[ao,Xo hj]at this;rw[show o+i*row.length+j=o+(i*row.length+j) by omega];exact this
    cases h
   cases h
  .
   rename_i fs hu
   obtain⟨ys,n,_,_,hl,an,hf⟩:=DataW.trod_struct hu hx;have:=zu8 (enc:=enc) (w:=w) (base:=base) (spare:=spare) (held:=held) (n:=n) (fun t sh h hz a6 cs x=>z3j ak m t sh h hz a6 cs x) cs fs.toList 0 T h (fun f bv=>by
    obtain⟨j,hj,c0⟩:=List.getElem_of_mem bv;have b1:fs[j]?=some f:=by
     rw[<-Array.getElem?_toList,List.getElem?_eq_getElem hj,c0]
    have h1:=hf j f b1;have c1:j<ys.length:=by
     have:j<fs.size:=(Array.getElem?_eq_some_iff.1 b1).1;omega
    rw[List.getElem?_eq_getElem c1]at h1;exact⟨_,h1⟩)
   have c2:cs.length=T.length:=by rw[hl,z1b,hz]
   rw[Yc,Ya (by omega)]at this;exact this
  .
   rename_i n e hu
   split at h
   .
    rename_i row aj
    split at h
    .
     rename_i I
     simp only[Xb]at h;subst h;obtain⟨ys,fu,_,_,hl,an,hf⟩:=DataW.trod_array hu hx;rw[z1b,I]at hf;have:=j0m (w:=w) (β:=β) (ow:=ow) (P:=P) (e:=e) (row:=row) cs I n 0 (fun i hi=>by
      have h1:=hf i hi;rw[Xo (by omega)]at h1;rw[Xs];exact z3j ak m e row aj I _ _ _ h1)
     have c2:cs.length=(Xg n row).flatten.length:=by rw[hl,z1b,hz]
     rw[Yc,Ya (by omega)]at this;exact this
    cases h
   cases h
  cases h
end
class Dat(α:Type) extends Row α where
 ct:List CT
 ok:α->Prop
 len:ct.length=sz
 of:∀avs,q46 ct avs->∃x:α,avs=row x/\ok x
def inI(k:IntKind)(n:Int):Prop:=(Lit.int k n).wf=true
theorem zt0{n:Int}(h:inI .i64 n):-9223372036854775808<=n/\n<9223372036854775808:=by
 simp[inI,Lit.wf,IntKind.min,IntKind.max,IntKind.signed,IntKind.bits]at h;omega
instance:Dat Int where
 ct:=[.int .i64]
 ok n:=inI .i64 n
 len:=rfl
 of G h:=by
  simp only[q46,z9d]at h;obtain⟨_,_,rfl,⟨n,rfl,I⟩,rfl⟩:=h;exact⟨n,rfl,I⟩
instance:Dat Bool where
 ct:=[.bool]
 ok _:=True
 len:=rfl
 of G h:=by
  simp only[q46,z9d]at h;obtain⟨_,_,rfl,⟨b,rfl⟩,rfl⟩:=h;exact⟨b,rfl,trivial⟩
theorem j2l{α:Type}[Dat α]:∀(G:List (List AV)),(∀r∈G,q46 (Dat.ct α) r)->∃l:List α,G=enc l/\∀x∈l,Dat.ok x
 |[],_=>⟨[],rfl,by simp⟩
 |r::T,h=>by
  obtain⟨x,W,Z⟩:=Dat.of r (h r (by simp));obtain⟨l,hl,I⟩:=j2l T (fun r hr=>h r (by simp[hr]));exact⟨x::l,by rw[W,hl];rfl,by simp;exact⟨Z,I⟩⟩
instance {α:Type}[Dat α]:Dat (List α) where
 ct:=[.sl (Dat.ct α)]
 ok l:=l.length<=maxLen/\∀x∈l,Dat.ok x
 len:=rfl
 of I h:=by
  simp only[q46,z9d]at h;obtain⟨_,_,rfl,⟨G,rfl,T,W⟩,rfl⟩:=h;obtain⟨l,rfl,Z⟩:=j2l (α:=α) G W;exact⟨l,by rw[q6l,Dat.len],by simpa [q17]using T,Z⟩
def zh0(g:Bool)(G:List AV):AV:=if g=true then .agg G else oneOf G
section
variable {H:Type} {enc:TypeId×Value->H} {P:Program} {w:World} {base b0:Nat} {spare:Nat->Bool} {held:Bool} {β:aI} {ow:Nat->Prop} {r:Reach} {t:TypeId} {v:Value} {d:DataW H} {ps:List MemPlace}
theorem j61(aj:∀b,¬ow b){W:List CT}(hf:z13 P 12 t=some W)(hz:szT P t=W.length)(ho:Value.okWide P w r b0 t v)(h:DataW.Trod enc P w base spare held t v d ps):
 ∃I,q46 W I/\rep w β 0 ow (zh0 (q6s P t) I) v:=by
 obtain⟨a6,h⟩:=h;obtain⟨I,h1,T,h3⟩:=z3j (β:=β) aj 12 t W hf hz a6 _ _ h;refine⟨I,h1,?_⟩;have one:v.cells.toList=[v]->q6s P t=false->rep w β 0 ow (zh0 (q6s P t) I) v:=fun hv ha=>by
  rw[hv]at T;rw[ha]
  match I,T with
  |[a],T=>simp only[y9]at T;simpa [zh0,oneOf]using T.1
  |[],T=>simp only[y9]at T
  |a::b::q,T=>simp only[y9]at T;exact T.2.elim
 unfold z13 at hf
 split at hf
 .
  rename_i G
  obtain⟨b,rfl⟩:=okWide_bool G ho;exact one rfl (by simp[q6s,G])
 .
  rename_i k G
  obtain⟨b,rfl⟩:=okWide_int G ho;exact one rfl (by simp[q6s,G])
 .
  rename_i G
  obtain⟨b,rfl⟩:=okWide_string G ho;exact one rfl (by simp[q6s,G])
 .
  rename_i e G
  obtain⟨a,len,cap,rfl⟩:=okWide_slice G ho;exact one rfl (by simp[q6s,G])
 .
  rename_i fs G
  obtain⟨cs,rfl,_⟩:=okWide_struct G ho;rw[show q6s P t=true by simp[q6s,G]];simp only[zh0,if_true,rep];exact⟨cs.toList,by simp,T⟩
 .
  rename_i n e G
  have Z:=ho;unfold Value.okWide at Z;rw[G]at Z;obtain⟨cs,rfl,_⟩:=Z;rw[show q6s P t=true by simp[q6s,G]];simp only[zh0,if_true,rep];exact⟨cs.toList,by simp,T⟩
 cases hf
theorem j1d{α:Type}[Dat α](G:∀b,¬ow b)(T:z13 P 12 t=some (Dat.ct α))(W:szT P t=(Dat.ct α).length)(Z:Value.okWide P w r b0 t v)(h:DataW.Trod enc P w base spare held t v d ps):
 ∃x:α,Dat.ok x/\rep w β 0 ow (zh0 (q6s P t) (Row.row x)) v:=by
 obtain⟨I,h1,h2⟩:=j61 (β:=β) G T W Z h;obtain⟨x,rfl,hx⟩:=Dat.of I h1;exact⟨x,hx,h2⟩
theorem je6{k:IntKind}(G:P.underlying t=some (.int k))(W:Value.okWide P w r b0 t v)(h:DataW.Trod enc P w base spare held t v d ps):
 ∃n:Int,inI k n/\rep w β 0 ow (.v (.int k n)) v:=by
 obtain⟨I,h⟩:=h;obtain⟨n,rfl⟩:=okWide_int G W;obtain⟨m,T,_,Z⟩:=DataW.trod_int G h;simp[Value.cells]at T;subst T;exact⟨n,Z,by simp only[rep]⟩
end
end
end Go.Proofs.YtomicnbiniapfaaGreat

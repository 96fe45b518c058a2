/-
  Rows of typed things, calls of functions with contracts, regions whose order is open, what arguments are. No condition beyond those that each theorem names.
-/
import Derived.Test.YtdcdfkdhomekeaaGreatLibB
import Derived.DeepKeys
import Derived.Below
import Derived.Deep.Slices
import Derived.Deep.Fields
import Derived.OpenShut
import Derived.WideShapes
set_option linter.unusedSimpArgs false
set_option linter.unusedVariables false
set_option linter.unusedSectionVars false
open Array renaming getElem?_eq_getElem->Xa,getD_eq_getD_getElem?->Xc,getElem?_eq_some_iff->Xf,any_eq_true'->Xm,mem_toList_iff->Xq,getElem?_replicate->Xy
open Option renaming some.injEq->Xb,map_eq_some_iff->Xe,getD_some->Xk
open Bool renaming and_eq_true->Xd,or_eq_true->Xi
open List renaming replicate->Xg,drop_drop->Xh,range->Xj,getElem?_eq_getElem->Xn,mem_range->Xo,all_eq_true->Xp,eq_nil_of_length_eq_zero->Xt,take_succ_cons->Xu,length_append->Xv,flatten_cons->Xw,cons_append->Xz,length_cons->X0,getElem?_cons_zero->X3,cons.injEq->X5,drop_of_length_le->X6,getElem_cons_zero->X8,take_of_length_le->X9,drop_zero->Yb,map_cons->Yc,getD_cons_zero->Yd,getD_cons_succ->Ye,drop_succ_cons->Yf,replicate_succ->Yg,mem_cons_self->Yh,append->Yj
open Classical renaming byContradiction->Xl
open Nat renaming zero_add->Xr,add_zero->Xs,lt_or_ge->Xx,add_left_cancel_iff->X4,le_refl->X7,testBit_or->Ya,le_trans->Yi,add_mul->Yk
namespace Go.Proofs.YtdcdfkdhomekeaaGreat
section
open Go Go.RowKit
def jv3(P:Program)(x:Code)(Q:Exit->St->Prop)(s:St):Prop:=vc P x Q s
class Row(α:Type) where
 sz:Nat
 row:α->List AV
def enc{α:Type}[Row α](l:List α):List (List AV):=l.map Row.row
theorem q1c{α:Type}[Row α](l:List α):(enc l).length=l.length:=by simp[enc]
theorem q0w{α:Type}[Row α]:enc ([]:List α)=[]:=rfl
theorem q2v{α:Type}[Row α](a b:List α):enc (a++b)=enc a++enc b:=by simp[enc]
theorem z7a{α:Type}[Row α](l:List α)(n:Nat):(enc l).take n=enc (l.take n):=by simp[enc]
theorem zd5{α:Type}[Row α](l:List α)(n:Nat):(enc l).drop n=enc (l.drop n):=by simp[enc]
theorem q6w{α:Type}[Row α](l:List α)(n:Nat)(x:α):(enc l).set n (Row.row x)=enc (l.set n x):=by simp[enc]
def idx{α:Type}(l:List α)(i:Int):Option α:=if 0<=i then l[i.toNat]? else none
theorem q8i{α:Type}[Row α]{l:List α}{i:Int}{x:α}(h:idx l i=some x):0<=i/\i<l.length/\q3g (enc l) i.toNat=Row.row x:=by
 unfold idx at h
 split at h
 .
  rename_i b
  obtain⟨a,c⟩:=List.getElem?_eq_some_iff.1 h;refine⟨b,by omega,?_⟩;simp[q3g,enc,a,c]
 cases h
instance:Row Int:=⟨1,λn=>[.v (.int .i64 n)]⟩
instance:Row Bool:=⟨1,λb=>[.v (.bool b)]⟩
instance:Row UInt8:=⟨1,λx=>[.v (.int .u8 x.toNat)]⟩
instance {α:Type}[Row α]:Row (List α):=⟨1,λl=>[.sl (Row.sz α) (enc l)]⟩
structure fZ where
 s:List UInt8
instance:Row fZ:=⟨1,λx=>[.v (.string ⟨⟨x.s⟩⟩)]⟩
theorem ji3(x:fZ):Row.row x=[.v (.string ⟨⟨x.s⟩⟩)]:=rfl
theorem jp7:Row.sz fZ=1:=rfl
theorem z0d(n:Int):Row.row n=[.v (.int .i64 n)]:=rfl
theorem qv1(b:Bool):Row.row b=[.v (.bool b)]:=rfl
theorem zf0(x:UInt8):Row.row x=[.v (.int .u8 x.toNat)]:=rfl
theorem q71{α:Type}[Row α](l:List α):Row.row l=[.sl (Row.sz α) (enc l)]:=rfl
theorem j5o:Row.sz Int=1:=rfl
theorem j2a:Row.sz Bool=1:=rfl
theorem jc4:Row.sz UInt8=1:=rfl
theorem j29{α:Type}[Row α]:Row.sz (List α)=1:=rfl
def x9{α:Type}(c:Prop)[Decidable c](k:Option α):Option α:=if c then k else none
def q9{α β:Type}(x:Option α)(k:α->Option β):Option β:=x.bind k
theorem q07{α:Type}{c:Prop}[Decidable c]{k:Option α}{r:α}(h:x9 c k=some r):c/\k=some r:=by
 unfold x9 at h;split at h
 . exact⟨by assumption,h⟩
 cases h
theorem z8{α β:Type}{x:Option α}{k:α->Option β}{r:β}(h:q9 x k=some r):∃a,x=some a/\k a=some r:=Option.bind_eq_some_iff.1 h
theorem q2r{α:Type}{b:Bool}{x y:Option α}{r:α}(h:(if b=true then x else y)=some r)(hb:b=true):x=some r:=by rw[if_pos hb]at h;exact h
theorem q2s{α:Type}{b:Bool}{x y:Option α}{r:α}(h:(if b=true then x else y)=some r)(hb:b=false):y=some r:=by rw[if_neg (by simp[hb])]at h;exact h
def rounds:Nat:=18446744073709551616
def q02{a R:Type}(body:(a->Option R)->a->Option R):Nat->a->Option R
 |0,_=>none
 |n+1,s=>body (q02 body n) s
theorem qg4{a R:Type}{body:(a->Option R)->a->Option R}{n:Nat}{s:a}{r:R}(h:q02 body n s=some r):∃m,n=m+1/\body (q02 body m) s=some r:=by
 cases n with
 |zero=>cases h
 |succ m=>exact⟨m,rfl,h⟩
theorem q9s{P:Program}{s:St}{f:FuncId}{args args':List AV}{K:St->AV->Prop}{r:AV}(h:be P f args' 0 r)(a:args=args')(b:q0f args'=true)(c:K s r):q9r P s f args K:=by
 subst a;exact z7g (hp1:=[]) (hp2:=s.hp) (by simp) (h.up b s.nx) (λe hp' nx' d=>by
  obtain⟨rfl,rfl,rfl⟩:=d;exact c)
end
section
open Go Go.RowKit
def q4d(ops:Array Oper):Nat->Nat->Nat->Bool
 |0,_,_=>false
 |n+1,i,j=>match ops[i]? with
  |some a=>a.after.any λe=>Region.binds .any e&&(e.on==j||q4d ops n e.on j)
  |none=>false
def z18(ops:Array Oper)(k:Nat):Bool:=(Xj ops.size).all λi=>decide (i<k)||(Xj i).all λj=>q4d ops ops.size i j
theorem z4p{ops:Array Oper}{k:Nat}(h:z18 ops k=true):∀i,i<ops.size->k<=i->∀j,j<i->q4d ops ops.size i j=true:=by
 intro i hi c j b;simp only[z18,Xp,Xo,Xi,decide_eq_true_eq]at h;rcases h i hi with a|a
 . omega
 exact a j b
theorem q7y{ops:Array Oper}{listed:Nat->Prop}(b:∀i a,ops[i]?=some a->listed i->∀e∈a.after,Region.binds .any e=true->listed e.on):
 ∀(n i j:Nat) (a:Oper),ops[i]?=some a->(∀e∈a.after,Region.binds .any e=true->listed e.on)->q4d ops n i j=true->listed j
 |0,_,_,_,_,_,h=>by simp[q4d]at h
 |n+1,i,j,a,d,hd,h=>by
  unfold q4d at h;rw[d]at h;obtain⟨e,g,hb⟩:=Xm.1 h;simp only[Xd,Xi,beq_iff_eq]at hb;rcases hb.2 with c|c
  . rw[<-c];exact hd e g hb.1
  cases f:ops[e.on]? with
  |none=>cases n<;>simp[q4d,f]at c
  |some k=>exact q7y b n e.on j k f (b e.on k f (hd e g hb.1)) c
section
variable {P:Program} {C:Ctx P} {hp:Hp} {nx nb nt:Nat} {β:aF}
theorem zv5{ops:Array Oper}{k:Nat}(W:z5v ops=true)(ht:z18 ops k=true){Q:Exit->Act->World->Prop}{K:St->Prop}(hQ:∀a w,RK C K a w->Q .normal a w):
 ∀(f m:Nat) (listed:Array Bool) (s:St) (a:Act) (w:World) (β:aF),k<=m->m<=ops.size->listed.size=ops.size->(∀i,i<ops.size->(listed.getD i false=true↔i<m))->ops.size-m<=f->
  z0y s.nt ops.toList=true->Rel C s a w β->qe2 P ops (ops.toList.drop m) s K->wpAny P .any ops Q f listed a w:=by
 obtain⟨p,_⟩:=z14 W;have X:=z4p ht;intro f
 induction f with
 |zero=>
  intro m listed s a w β hk hm H A hf t I B;have D:m=ops.size:=by omega
  subst D;refine⟨?_,?_⟩
  .
   cases Y:Region.ready .any ops listed with
   |nil=>rfl
   |cons i l=>
    have:i∈Region.ready .any ops listed:=by rw[Y];exact Yh
    obtain⟨c,o,E,_⟩:=mem_ready.1 this;have hi:=(Xf.1 E).1;have J:=(A i hi).2 hi;have g:i<listed.size:=by omega
    simp only[Xc,Xa g,Xk]at J c;rw[J]at c;cases c
  rw[X6 (by simp)]at B;exact hQ a w ⟨s,β,I,B⟩
 |succ f ih=>
  intro m listed s a w β hk hm H A hf t I B;rcases Xx m ops.size with u|Z
  .
   have z:ops[m]?=some ops[m]:=Xa u;have q:m∈Region.ready .any ops listed:=mem_ready.2 ⟨by
    have a6:m<listed.size:=by omega
    have:=A m u;simp only[Array.getD_eq_getD_getElem?,Array.getElem?_eq_getElem a6,Option.getD_some]at this⊢
    cases hx:listed[m]with
    |false=>rfl
    |true=>rw[hx]at this;have:=this.1 rfl;omega,ops[m],z,λe y hb=>(A e.on (Nat.lt_trans (p m _ z e y hb) u)).2 (p m _ z e y hb)⟩
   refine⟨λh0=>(by rw[h0]at q;cases q),λi hi=>?_⟩;have ao:i=m:=by
    obtain⟨c,o,E,y⟩:=mem_ready.1 hi;have L:=(Xf.1 E).1;have g:i<listed.size:=by omega
    have ar:¬listed.getD i false=true:=by
     simp only[Xc,Xa g,Xk]at c⊢;simp[c]
    have Z:m<=i:=Nat.le_of_not_lt λM=>ar ((A i L).2 M);rcases Xx m i with b0|hle
    .
     have b1:∀i V,ops[i]?=some V->(i<ops.size/\i<m)->∀e∈V.after,Region.binds .any e=true->(e.on<ops.size/\e.on<m):=λi V b2 hi e y hb=>by
      have:=p i V b2 e y hb;omega
     have:=q7y (listed:=λi=>i<ops.size/\i<m) b1 ops.size i m o E (λe N O=>by
      have c:=p i o E e N O;have h2:=y e N O;exact⟨by omega,(A e.on (by omega)).1 h2⟩) (X i L (by omega) m b0)
     omega
    omega
   subst ao;have G:ops.toList.drop i=ops[i]::ops.toList.drop (i+1):=by
    rw[List.drop_eq_getElem_cons (by simpa using u)];simp
   rw[G]at B;have hd:dok s.nt ops[i].dst=true:=Xp.1 t _ (Xq.2 (Array.getElem_mem u));have c:=zn6 (Q:=Q) I hd B;have b:∀R w',R.tmps.size=a.tmps.size->RK C (λs'=>qe2 P ops (ops.toList.drop (i+1)) s' K) R w'->wpAny P .any ops Q f (listed.setIfInBounds i true) R w':=by
    rintro R w' S ⟨s',β',T,b3⟩;have b4:s'.nt=s.nt:=by rw[<-T.nt,S,I.nt]
    refine ih (i+1) _ s' R w' β' (by omega) (by omega) (by simpa using H) (λj hj=>?_) (by omega) (by rw[b4];exact t) T b3;have g:i<listed.size:=by omega
    by_cases U:i=j
    . subst U;simp[g]
    have:=A j hj;simp only[Xc,Array.getElem?_setIfInBounds,if_neg U]at this⊢;rw[this];omega
   unfold wpOp;rw[z];simp only;have d:∀v,(a.put ops[i].dst v).tmps.size=a.tmps.size:=λv=>by
    cases b5:ops[i].dst<;>simp[Act.put]
   split
   .
    rename_i hw
    rw[if_pos hw]at c
    left
    unfold Oper.wp at c⊢
    generalize (execOp a.eval ops[i]).run P w=b6 at c⊢
    cases b6 with
    |ok n w'=>
     cases n<;>simp only[Oper.upon]at c⊢
     . exact b _ _ (d _) c
     . exact b _ _ (d _) c
     .
      exact c.mono λe bi y=>by
       cases e<;>first|exact b _ _ (d _) y|exact y
     .
      refine b _ _ ?_ c
      cases b5:ops[i].dst<;>simp[Act.put]
     exact c.mono λ_ _ y=>b _ _ (d _) y
    |halt x w'=>cases x<;>simp only[Oper.upon]at c⊢<;>exact c
   rename_i hw
   rw[if_neg hw]at c;exact b _ _ (d _) c
  have D:m=ops.size:=by omega
  subst D;have bc:Region.ready .any ops listed=[]:=by
   cases Y:Region.ready .any ops listed with
   |nil=>rfl
   |cons i l=>
    have:i∈Region.ready .any ops listed:=by rw[Y];exact Yh
    obtain⟨c,o,E,_⟩:=mem_ready.1 this;have hi:=(Xf.1 E).1;have J:=(A i hi).2 hi;have g:i<listed.size:=by omega
    simp only[Xc,Xa g,Xk]at J c;rw[J]at c;cases c
  rw[X6 (by simp)]at B;refine⟨λ_=>hQ a w ⟨s,β,I,B⟩,λi hi=>(by rw[bc]at hi;cases hi)⟩
end
end
section
open Go Go.RowKit
def eL(P:Program)(C:Ctx P)(nb nx nx' nt:Nat)(hp hp':Hp)(E:Nat->AV)(o:Oper)(r:AV):Prop:=
 ∀(a:Act) (w:World) (β:aF),Rel C ⟨nb,[],hp,nx,nt⟩ a w β->(∀t,rep w β nx (own β hp C.A) (E t) (a.tmps.getD t undef))->
  ∀(K:Act->World->Prop) (Q:Exit->Act->World->Prop),(∀b w' β',Rel C ⟨nb,[],hp',nx',nt⟩ b w' β'->(∀t,rep w' β' nx' (own β' hp' C.A) (q5g E o.dst r t) (b.tmps.getD t undef))->K b w')->o.wp P a w K Q
def j57(P:Program)(C:Ctx P)(ops:Array Oper)(nb nx nx' nt:Nat)(hp hp':Hp)(E:Nat->AV)(o:Oper)(r:AV):Prop:=
 ∀(a:Act) (w:World) (β:aF),Rel C ⟨nb,[],hp,nx,nt⟩ a w β->(∀t,rep w β nx (own β hp C.A) (E t) (a.tmps.getD t undef))->
  ∀(K:Act->World->Prop) (Q:Exit->Act->World->Prop),(∀b w' β',Rel C ⟨nb,[],hp',nx',nt⟩ b w' β'->(∀t,rep w' β' nx' (own β' hp' C.A) (q5g E o.dst r t) (b.tmps.getD t undef))->K b w')->
   if Region.wanted o (yielded ops a.tmps)then o.wp P a w K Q else K (a.put o.dst undef) w
theorem eL.g{P:Program}{C:Ctx P}{ops:Array Oper}{nb nx nx' nt:Nat}{hp hp':Hp}{E:Nat->AV}{o:Oper}{r:AV}(b:o.guard=none)(h:eL P C nb nx nx' nt hp hp' E o r):j57 P C ops nb nx nx' nt hp hp' E o r:=
 λa w β c d K Q e=>by rw[if_pos (by simp[Region.wanted,b])];exact h a w β c d K Q e
def qa7(ops:Array Oper)(k:Nat)(listed:Array Bool):Prop:=∀i a,ops[i]?=some a->listed.getD i false=true->i<k/\∀e∈a.after,Region.binds .any e=true->listed.getD e.on false=true
def qm7(a:Oper)(j:Nat)(listed:Array Bool):Prop:=listed.getD j false=false/\∀e∈a.after,Region.binds .any e=true->listed.getD e.on false=true
section
variable {P:Program} {C:Ctx P} {nb nt:Nat}
theorem z7p{ops:Array Oper}{k:Nat}{r E0:Nat->AV}{Ej:Nat->Nat->AV}(d6:z5v ops=true)(ht:z18 ops k=true)(c7:k<=ops.size)(c8:z0y nt ops.toList=true)(d7:∀j,j<k->ck ops r E0 (· <j) (Ej j))
 (F:List Nat)(bc:Nat->Bool)(H:Array Bool->Hp)(N:Array Bool->Nat)
 (hq:∀listed j o,listed.size=ops.size->j<k->ops[j]?=some o->qa7 ops k listed->(∀f∈F,listed.getD f false=true)->qm7 o j listed->bc j=false->QG P (H listed) (N listed) ops (Ej j) o (r j)/\H (listed.setIfInBounds j true)=H listed/\N (listed.setIfInBounds j true)=N listed)
 (X:∀listed j o,listed.size=ops.size->j<k->ops[j]?=some o->qa7 ops k listed->(∀f∈F,listed.getD f false=true)->qm7 o j listed->bc j=true->∀E,ck ops r E0 (λi=>listed.getD i false=true) E->(∀t∈o.looksAt ops,E t=Ej j t)->
  j57 P C ops nb (N listed) (N (listed.setIfInBounds j true)) nt (H listed) (H (listed.setIfInBounds j true)) E o (r j))
 {Q:Exit->Act->World->Prop}{Ef:Nat->AV}(c9:ck ops r E0 (· <k) Ef)
 (hQ:∀m listed a w β,listed.size=ops.size->(∀i,i<ops.size->(listed.getD i false=true↔i<k))->ops.size-k<=m->Rel C ⟨nb,[],H listed,N listed,nt⟩ a w β->(∀t,rep w β (N listed) (own β (H listed) C.A) (Ef t) (a.tmps.getD t undef))->wpAny P .any ops Q m listed a w):
 ∀(m:Nat) (listed:Array Bool) (a:Act) (w:World) (β:aF) (E:Nat->AV),listed.size=ops.size->((Xj ops.size).filter λi=>!listed.getD i true).length<=m->
  qa7 ops k listed->Rel C ⟨nb,[],H listed,N listed,nt⟩ a w β->(∀t,rep w β (N listed) (own β (H listed) C.A) (E t) (a.tmps.getD t undef))->ck ops r E0 (λi=>listed.getD i false=true) E->(∀f∈F,listed.getD f false=true)->wpAny P .any ops Q m listed a w:=by
 obtain⟨b3,cb⟩:=z14 d6;have d8:=z4p ht;have U:∀(listed:Array Bool),listed.size=ops.size->(∀i,i<ops.size->(listed.getD i false=true↔i<k))->ops.size-k<=((Xj ops.size).filter λi=>!listed.getD i true).length:=by
  intro listed I hL;have Y:((Xj ops.size).filter λi=>!listed.getD i true)=(Xj ops.size).filter λi=>!decide (i<k):=List.filter_congr λi hi=>by
   have R:i<ops.size:=Xo.1 hi;have bi:i<listed.size:=by omega
   have:=hL i R;simp only[Xc,Xa bi,Xk]at this⊢
   by_cases S:i<k
   . simp[S,this.2 S]
   cases hx:listed[i]with
   |false=>simp[S]
   |true=>exact absurd (this.1 hx) S
  rw[Y];have h2:∀n,n-k<=((Xj n).filter λi=>!decide (i<k)).length:=by
   intro n
   induction n with
   |zero=>simp
   |succ n ih=>
    rw[List.range_succ,List.filter_append,Xv]
    by_cases dc:n<k
    .
     have:n+1-k=0:=by omega
     omega
    simp[dc];omega
  exact h2 _
 intro m
 induction m with
 |zero=>
  intro listed a w β E I Z J hR hE hI hF;have bk:∀i,i<ops.size->listed.getD i false=true:=by
   intro i hi;have bi:i<listed.size:=by omega
   cases hx:listed.getD i false with
   |true=>rfl
   |false=>
    have:i∈(Xj ops.size).filter λi=>!listed.getD i true:=List.mem_filter.2 ⟨Xo.2 hi,by
     simp only[Xc,Xa bi,Xk]at hx⊢;simp[hx]⟩
    have:=List.length_pos_of_mem this;omega
  have B:∀i,i<ops.size->(listed.getD i false=true↔i<k):=λi hi=>⟨λh=>(J i _ (Xa hi) h).1,λ_=>bk i hi⟩;refine hQ 0 listed a w β I B (Yi (U _ I B) Z) hR λt=>?_;rw[<-(hI.iff (L':=(· <k)) λi hi=>B i hi).uniq c9 t];exact hE t
 |succ m ih=>
  intro listed a w β E I Z J hR hE hI hF
  by_cases a6:∀i,i<k->listed.getD i false=true
  . have B:∀i,i<ops.size->(listed.getD i false=true↔i<k):=λi hi=>⟨λh=>(J i _ (Xa hi) h).1,λh=>a6 i h⟩;refine hQ (m+1) listed a w β I B (Yi (U _ I B) Z) hR λt=>?_;rw[<-(hI.iff (L':=(· <k)) λi hi=>B i hi).uniq c9 t];exact hE t
  have bs:∃i,i<k/\listed.getD i false=false:=Xl λhn=>a6 λi hi=>by
   cases hx:listed.getD i false with
   |true=>rfl
   |false=>exact absurd ⟨i,hi,hx⟩ hn
  obtain⟨i0,cc,b4⟩:=bs;refine⟨λbk=>?_,λj hj=>?_⟩
  .
   exfalso
   have bv:∀n i,i<n->i<k->listed.getD i false=true:=by
    intro n
    induction n with
    |zero=>intro i hi;omega
    |succ n cd=>
     intro i hi S;rcases Xx i n with c1|e4
     . exact cd i c1 S
     have dd:i=n:=by omega
     subst dd;have R:i<ops.size:=by omega
     by_cases hl:listed.getD i false=true
     . exact hl
     exfalso
     have l:ops[i]?=some ops[i]:=Xa R;have:i∈Region.ready .any ops listed:=mem_ready.2 ⟨by
      have dk:i<listed.size:=by omega
      simp only[Array.getD_eq_getD_getElem?,Array.getElem?_eq_getElem dk,Option.getD_some]at hl⊢
      simpa using hl,ops[i],l,λe X hb=>cd e.on (b3 i _ l e X hb) (Nat.lt_trans (b3 i _ l e X hb) S)⟩
     rw[bk]at this
     cases this
   have:=bv k i0 cc cc;rw[b4]at this
   cases this
  obtain⟨c2,o,D,z⟩:=mem_ready.1 hj;have ao:j<ops.size:=(Xf.1 D).1;have cp:j<listed.size:=by omega
  have c4:¬listed.getD j false=true:=by
   simp only[Xc,Xa cp,Xk]at c2⊢;simp[c2]
  have W:j<k:=by
   rcases Xx j k with h|h
   . exact h
   exfalso
   have:=q7y (listed:=λi=>listed.getD i false=true) (λi T l u=>(J i T l u).2) ops.size j i0 o D z (d8 j ao h i0 (by omega));rw[b4]at this
   cases this
  have b5:qm7 o j listed:=⟨by simpa using c4,z⟩;have cs:q23 ops j=o.dst:=by simp[q23,D]
  have ds:∀i T,i<j->ops[i]?=some T->¬listed.getD i false=true->T.apart ops o=true:=λi T M l u=>cb i j T o M l D λe X hb heq=>u (by rw[<-heq];exact z e X hb);have cz:∀i T,j<i->ops[i]?=some T->listed.getD i false=true->o.apart ops T=true:=λi T M l u=>cb j i o T M D l λe X hb heq=>c4 (by rw[<-heq];exact (J i T l u).2 e X hb);have d0:∀t∈o.looksAt ops,E t=Ej j t:=hI.agree (d7 j W) ao c4
   (λi M u d hd=>by
    have R:i<ops.size:=Nat.lt_trans M ao;have l:ops[i]?=some ops[i]:=Xa R;exact (Oper.apart_spec (ds i _ M l u)).1 d (by simpa [q23,l]using hd))
   (λi M R u d hd=>by
    have l:ops[i]?=some ops[i]:=Xa R;exact (Oper.apart_spec (cz i _ M l u)).2.2 d (by simpa [q23,l]using hd))
  have c5:=hI.step ao λk' W c7 dT d hd e0=>by
   have b6:ops[k']?=some ops[k']:=Xa c7;exact (Oper.apart_spec (cz k' _ W b6 dT)).2.1 d (by rw[<-cs];exact hd) (by simpa [q23,b6]using e0)
  have c:∀(i:Nat) (b:Bool),(listed.setIfInBounds j true).getD i b=if j=i then true else listed.getD i b:=λi b=>by
   by_cases K:j=i
   . subst K;rw[if_pos rfl];simp[cp]
   rw[if_neg K];simp[K]
  have ar:dok nt o.dst=true:=by
   have:=Xp.1 c8 o (Xq.2 (Array.mem_of_getElem? D));exact this
  have b0:∀a' w' β',Rel C ⟨nb,[],H (listed.setIfInBounds j true),N (listed.setIfInBounds j true),nt⟩ a' w' β'->(∀t,rep w' β' (N (listed.setIfInBounds j true)) (own β' (H (listed.setIfInBounds j true)) C.A) (q5g E o.dst (r j) t) (a'.tmps.getD t undef))->
   wpAny P .any ops Q m (listed.setIfInBounds j true) a' w':=by
   intro a' w' β' G b1;refine ih _ a' w' β' (q5g E (q23 ops j) (r j)) (by simpa using I) ?_ ?_ G (by rw[cs];exact b1) ?_ ?_
   . have:=z7d (p:=λi=>!listed.getD i true) (q:=λi=>!(listed.setIfInBounds j true).getD i true) (x:=j) List.nodup_range (Xo.2 ao) (by simp only[c2];rfl) (by simp only[c,if_true];rfl) (λy hy=>by simp only[c,if_neg (Ne.symm hy)]);omega
   .
    intro i T l u;rw[c]at u
    by_cases K:j=i
    .
     subst K;rw[D]at l;simp only[Xb]at l;subst l;refine⟨W,λe X hb=>?_⟩;rw[c]
     split
     . rfl
     exact z e X hb
    rw[if_neg K]at u;refine⟨(J i T l u).1,λe X hb=>?_⟩;rw[c]
    split
    . rfl
    exact (J i T l u).2 e X hb
   .
    refine c5.iff λi _=>?_;rw[c]
    constructor
    .
     rintro (Y|Y)
     .
      split
      . rfl
      exact Y
     rw[if_pos Y.symm]
    intro Y
    by_cases K:j=i
    . exact .inr K.symm
    rw[if_neg K]at Y;exact .inl Y
   intro f hf;rw[c]
   split
   . rfl
   exact hF f hf
  have d1:∀v w' β' hp0 nx0,Rel C ⟨nb,[],hp0,nx0,nt⟩ a w' β'->rep w' β' nx0 (own β' hp0 C.A) (r j) v->(∀t,rep w' β' nx0 (own β' hp0 C.A) (E t) (a.tmps.getD t undef))->
   Rel C ⟨nb,[],hp0,nx0,nt⟩ (a.put o.dst v) w' β'/\∀t,rep w' β' nx0 (own β' hp0 C.A) (q5g E o.dst (r j) t) ((a.put o.dst v).tmps.getD t undef):=by
   intro v w' β' hp0 nx0 G hv b1;refine⟨?_,?_⟩
   .
    have hz:(a.put o.dst v).tmps.size=a.tmps.size:=by cases c6:o.dst<;>simp[Act.put]
    have hf:(a.put o.dst v).defers=a.defers:=by cases c6:o.dst<;>rfl
    exact {df:=by rw[hf];exact G.df,nt:=by rw[hz];exact G.nt,ntc:=G.ntc,nb:=G.nb,alt:=G.alt,gs:=G.gs,hp:=G.hp,ext:=G.ext,env:=λt=>by simp only[q17,rep]}
   intro t
   cases c6:o.dst with
   |none=>simp only[q5g,Act.put];exact b1 t
   |some d=>
    simp only[q5g,Act.put];have c1:d<a.tmps.size:=by
     rw[c6]at ar;simp only[dok,decide_eq_true_eq]at ar;rw[hR.nt];exact ar
    rw[z3h _ _ _ _ _ c1]
    split
    . exact hv
    exact b1 t
  have d2:∀x,rep w β (N listed) (own β (H listed) C.A) (evF E x) (a.eval x):=λx=>by
   cases x with
   |tmp t=>exact hE t
   |const v=>simp only[evF,rep,Act.eval]
   |global g=>simp only[evF,rep,Act.eval]
   |func f=>simp only[evF,rep,Act.eval];exact⟨[],rfl,by simp[y8]⟩
  unfold wpOp;rw[D];simp only
  cases d3:bc j with
  |true=>
   have V:=X listed j o I W D J hF b5 d3 E hI d0 a w β hR hE _ Q b0
   by_cases hw:Region.wanted o (yielded ops a.tmps)=true
   . rw[if_pos hw]at V⊢;exact .inl V
   rw[if_neg hw]at V⊢;exact V
  |false=>
   obtain⟨e1,d4,d5⟩:=hq listed j o I W D J hF b5 d3;have O:=j1c (λt ht=>(d0 t ht).symm) e1;have L:∀v w',cK w w'->rep w' β (N listed) (own β (H listed) C.A) (r j) v->wpAny P .any ops Q m (listed.setIfInBounds j true) (a.put o.dst v) w':=λv w' b2 hv=>by
    obtain⟨Y,h2⟩:=d1 v w' β (H listed) (N listed) (hR.still b2) hv (λt=>z7t (s:=⟨nb,[],H listed,N listed,nt⟩) (C:=C) b2 (hE t));exact b0 _ w' β (by rw[d4,d5];exact Y) (by rw[d4,d5];exact h2)
   unfold QG at O
   split at O
   .
    rename_i hg
    rw[if_pos (by simp[Region.wanted,hg])];exact .inl (z7h hR d2 O L)
   rename_i g e3 hg
   split at O
   .
    rename_i d hd
    split at O
    .
     rename_i gb e2
     obtain⟨r0,Y,h2⟩:=O;have hw:=qn4 hg hd e2 (hE d);rw[hw]
     cases gb with
     |true=>
      rw[if_pos rfl];exact .inl (z7h hR d2 (Y rfl) λv w' b2 hv=>L v w' b2 (by rw[h2];exact z2w hv))
     |false=>
      rw[if_neg (by simp)];exact L undef w (cK.refl w) (by rw[h2];exact z1h)
    exact O.elim
   exact O.elim
end
end
section
open Go Go.RowKit
section
variable {P:Program}
theorem j4w{ops:Array Oper}{s:St}{K:St->Prop}(k:Nat)(I:P.follows .mixedOrders=true)(m:k<=ops.size)(E:z18 ops k=true)
 (h:vcQ P ops (ops.toList.take k) s λs'=>qe2 P ops (ops.toList.drop k) s' K):z13 P ops s K:=by
 intro id f C a w β G T J;simp only[okB,Xd,Bool.not_true,Bool.false_or]at f;obtain⟨e,c⟩:=f;obtain⟨r,L,M⟩:=zu8 (ops.toList.take k) s 0 h;have N:=qm8 (ops:=ops) r s k m;obtain⟨n,o,p,O⟩:=z6g r (ops.toList.take k) 0 s;have g:cK w {w with drawn:=w.drawn+1}:=⟨rfl,rfl,⟨rfl,λ_=>by first|exact X7 _|exact Nat.le_succ _⟩,X7 _,λ_ _=>rfl⟩;have q:Rel C ⟨s.nb,[],s.hp,s.nx,s.nt⟩ a {w with drawn:=w.drawn+1} β:=by
  have:=G.still (w':={w with drawn:=w.drawn+1}) g;exact {df:=this.df,nt:=this.nt,ntc:=this.ntc,nb:=this.nb,alt:=this.alt,gs:=this.gs,hp:=this.hp,ext:=this.ext,env:=λt=>by simp only[q17,rep]}
 have u:=(G.still (w':={w with drawn:=w.drawn+1}) g).env;refine wp_region_any I (z7p (C:=C) (nb:=s.nb) (nt:=s.nt) (r:=r) (E0:=q17 s.env) (Ej:=λj=>q17 (q1y (ops.toList.take j) r 0 s).env) (k:=k) c E m e (λj H=>qm8 r s j (by omega)) [] (λ_=>false) (λ_=>s.hp) (λ_=>s.nx)
  (λlisted j Q _ H y _ _ _ _=>⟨?_,rfl,rfl⟩) (λ_ _ _ _ _ _ _ _ _ R=>by cases R) N (λl listed S w' β' z d A b B=>?_)
  ops.size (Array.replicate ops.size false) a _ β (q17 s.env) (by simp) ?_ ?_ q u ?_ (λ_ h=>by cases h))
 . have:=L j Q (by rw[List.getElem?_take,if_pos H];simpa using y);rw[Xr,List.take_take,Nat.min_eq_left (by omega)]at this;exact this
 . refine zv5 (k:=k) (K:=K) c E (λa w ⟨s',β',b,D⟩=>J _ _ _ _ _ b ⟨rfl,D⟩) l k listed (q1y (ops.toList.take k) r 0 s) S w' β' (X7 _) m z d A (by rw[p];exact e) ?_ M;exact {df:=b.df,nt:=by rw[p];exact b.nt,ntc:=by rw[p];exact b.ntc,nb:=by rw[O];exact b.nb,alt:=b.alt,gs:=b.gs,hp:=by rw[n,o];exact b.hp,ext:=by rw[n,o];exact b.ext,env:=λt=>by rw[n,o];exact B t}
 . exact Yi (List.length_filter_le _ _) (by simp)
 .
  intro i U _ d;simp[Xy]at d
  split at d<;>simp at d
 refine λt=> .inr ⟨λi _ d=>?_,rfl⟩;simp[Xy]at d
 split at d<;>simp at d
end
end
section
open Go Go.RowKit
def cQ(a:List Nat)(i:Nat)(b:List Edge):Nat:=b.foldr (λe m=>if Region.binds .any e&&decide (e.on<i)then (1 <<< e.on) ||| (a.getD e.on 0 ||| m)else m) 0
def qs7(a:List Nat):Nat->List Oper->Bool
 |_,[]=>true
 |i,o::r=>((a.getD i 0 ||| cQ a i o.after.toList)==cQ a i o.after.toList)&&qs7 a (i+1) r
theorem z4x{a:List Nat}{i j:Nat}:∀{b:List Edge},(cQ a i b).testBit j=true->∃e∈b,Region.binds .any e=true/\e.on<i/\(e.on=j\/(a.getD e.on 0).testBit j=true)
 |[],h=>by simp[cQ]at h
 |e::b,h=>by
  have g:cQ a i (e::b)=if Region.binds .any e&&decide (e.on<i)then (1 <<< e.on) ||| (a.getD e.on 0 ||| cQ a i b)else cQ a i b:=rfl
  rw[g]at h
  split at h
  .
   rename_i hb
   simp only[Xd,decide_eq_true_eq]at hb;rw[Ya,Ya,Xi,Xi]at h;rcases h with h|h|h
   .
    refine⟨e,by simp,hb.1,hb.2,.inl ?_⟩;rw[Nat.one_shiftLeft,Nat.testBit_two_pow]at h
    simpa using h
   . exact⟨e,by simp,hb.1,hb.2,.inr h⟩
   obtain⟨c,d,f⟩:=z4x h;exact⟨c,by simp[d],f⟩
  obtain⟨c,d,f⟩:=z4x h;exact⟨c,by simp[d],f⟩
theorem zg8{a:List Nat}:∀{l:List Oper} {k i:Nat} {o:Oper},qs7 a k l=true->l[i]?=some o->∀j,(a.getD (k+i) 0).testBit j=true->(cQ a (k+i) o.after.toList).testBit j=true
 |[],_,_,_,_,h,_,_=>by simp at h
 |o::l,k,0,o',h,hi,j,hb=>by
  simp only[X3,Xb]at hi;subst hi;simp only[qs7,Xd,beq_iff_eq]at h;rw[Xs]at hb⊢;rw[<-h.1,Ya,hb,Bool.true_or]
 |o::l,k,i+1,o',h,hi,j,hb=>by
  simp only[qs7,Xd]at h;rw[show k+(i+1)=k+1+i by omega]at hb⊢;exact zg8 h.2 (by simpa using hi) j hb
theorem z8u{ops:Array Oper}:∀{n m i j:Nat},n<=m->q4d ops n i j=true->q4d ops m i j=true
 |0,_,_,_,_,h=>by simp[q4d]at h
 |n+1,0,_,_,a,_=>by omega
 |n+1,m+1,i,j,a,h=>by
  unfold q4d at h⊢
  split at h
  .
   rename_i f b
   try simp only[b]
   obtain⟨e,c,hb⟩:=Xm.1 h;refine Xm.2 ⟨e,c,?_⟩;simp only[Xd,Xi]at hb⊢;refine⟨hb.1,hb.2.imp id λd=>z8u (by omega) d⟩
  cases h
theorem zz2{ops:Array Oper}{a:List Nat}(h:qs7 a 0 ops.toList=true):∀(i j:Nat),i<ops.size->(a.getD i 0).testBit j=true->q4d ops ops.size i j=true:=by
 have key:∀(i j:Nat),i<ops.size->(a.getD i 0).testBit j=true->q4d ops (i+1) i j=true:=by
  intro i
  induction i using Nat.strongRecOn with
  |_ i f=>
   intro j hi hb;have g:ops.toList[i]?=some ops[i]:=by simp[hi]
   have d:=zg8 h g j (by rw[Xr];exact hb);rw[Xr]at d;obtain⟨e,k,b,c,l⟩:=z4x d;unfold q4d;rw[Xa hi];refine Xm.2 ⟨e,Xq.1 k,?_⟩;simp only[Xd,Xi,beq_iff_eq];refine⟨b,l.imp id λm=>z8u (by omega) (f e.on c j (by omega) m)⟩
 intro i j hi hb;exact z8u (by omega) (key i j hi hb)
def z94(a:List Nat)(n k:Nat):Bool:=(Xj n).all λi=>decide (i<k)||(a.getD i 0 &&& (2^i-1))==2^i-1
theorem zv6{ops:Array Oper}{b:List Nat}{k:Nat}(h:qs7 b 0 ops.toList=true)(c:z94 b ops.size k=true):z18 ops k=true:=by
 simp only[z94,z18,Xp,Xo,Xi,decide_eq_true_eq,beq_iff_eq]at c⊢;intro i hi;rcases c i hi with a|a
 . exact .inl a
 refine .inr λj e=>zz2 h i j hi ?_;have d:(2^i-1).testBit j=true:=by rw[Nat.testBit_two_pow_sub_one];simpa using e
 rw[<-a,Nat.testBit_and,Xd]at d;exact d.1
theorem p9{P:Program}{ops:Array Oper}{s:St}{K:St->Prop}(k:Nat)(b:List Nat)(c:P.follows .mixedOrders=true)(a:qs7 b 0 ops.toList=true)(d:k<=ops.size)(e:z94 b ops.size k=true)
 (h:vcQ P ops (ops.toList.take k) s λs'=>qe2 P ops (ops.toList.drop k) s' K):z13 P ops s K:=j4w k c d (zv6 a e) h
end
section
open Go Go.RowKit
theorem zp5{id:Nat}{o o':bT}:∀{hp:Hp},q0i hp id=some o->(hp.map (·.1)).Nodup->hp.Perm ((id,o)::q4n hp id)/\(q0t hp id o').Perm ((id,o')::q4n hp id)
 |[],h,_=>by simp[q0i]at h
 |(k,q)::r,h,a=>by
  simp only[Yc,List.nodup_cons]at a;unfold q0i at h
  split at h
  .
   rename_i b
   simp only[Xb]at h;subst b;subst h;have hd:q4n r k=r:=by
    have:∀(r:Hp),k∉r.map (·.1)->q4n r k=r:=by
     intro r
     induction r with
     |nil=>intro _;rfl
     |cons p r d=>
      intro c;simp only[Yc,List.mem_cons,not_or]at c;unfold q4n;rw[if_neg (Ne.symm c.1),d c.2]
    exact this r a.1
   simp[q4n,q0t,hd]
  rename_i b
  obtain⟨e,f⟩:=zp5 (o':=o') h a.2;simp only[q4n,q0t,if_neg b];exact⟨(e.cons _).trans (List.Perm.swap _ _ _),(f.cons _).trans (List.Perm.swap _ _ _)⟩
end
section
open Go Go.RowKit
theorem k1c(b:Bool):(b==true)=b:=by cases b<;>rfl
theorem k1d(b:Bool):(b==false)=!b:=by cases b<;>rfl
theorem k0v(b:Bool):((!b)=true)=(b=false):=by cases b<;>simp
theorem k0w(b:Bool):((!b)=false)=(b=true):=by cases b<;>simp
theorem jb7{α:Type}(x:α)(l r:List α):Yj (x::l) r=x::Yj l r:=rfl
theorem jm7{α:Type}(r:List α):Yj [] r=r:=rfl
section
variable (P:Program) (Q:Exit->St->Prop) (s:St)
def jc7(ops:Array Oper)(r:List Oper)(K:St->Prop)(s:St):Prop:=qe2 P ops r s K
theorem j8u(ops r K)(s:St):jc7 P ops r K s=qe2 P ops r s K:=rfl
theorem j5h(ops)(K:St->Prop):qe2 P ops [] s K=K s:=rfl
theorem j3f(ops o r)(K:St->Prop):qe2 P ops (o::r) s K=vcG P ops o s (jc7 P ops r K):=rfl
theorem jg2:vc P .skip Q s=Q .normal s:=rfl
theorem j84(i):vc P (.label i) Q s=Q .normal s:=rfl
theorem jp3:vc P .ret Q s=Q .ret s:=rfl
theorem jg4(i):vc P (.exit i) Q s=Q (.exit i) s:=rfl
theorem j5g(id ops a):vc P (.region id ops a) Q s=if a=true then z13 P ops s (Q .normal)else qe2 P ops ops.toList s (Q .normal):=rfl
def z0b(b:Code):Exit->St->Prop:=q6x (gg P b Q) Q
theorem jq3(b:Code):z0b P Q b .normal s=gg P b Q s:=rfl
theorem jq4(b:Code)(i):z0b P Q b (.exit i) s=Q (.exit i) s:=rfl
theorem jq2(b:Code):z0b P Q b .ret s=Q .ret s:=rfl
theorem zu7(a b):vc P (.seq a b) Q s=if cI a=true then wpV P (.seq a b) Q s else vc P a (z0b P Q b) s:=rfl
theorem jg5(c x y):vc P (.cond c x y) Q s=match y9 s.env c with
 |.v (.bool b)=>(b=true->jv3 P x Q s)/\(b=false->jv3 P y Q s)
 |_=>False:=rfl
theorem j85(i c):vc P (.block i c) Q s=vc P c (q9m i Q) s:=rfl
theorem jg3(c):vc P (.loop c) Q s=wpV P (.loop c) Q s:=rfl
variable (N:St->Prop)
theorem jh0:q6x N Q .normal s=N s:=rfl
theorem jh1(i):q6x N Q (.exit i) s=Q (.exit i) s:=rfl
theorem jg9:q6x N Q .ret s=Q .ret s:=rfl
theorem jb0(i):q9m i Q .normal s=Q .normal s:=rfl
theorem jb1(i j):q9m i Q (.exit j) s=if j=i then Q .normal s else Q (.exit j) s:=rfl
theorem ja9(i):q9m i Q .ret s=Q .ret s:=rfl
variable (res:List ResultVar) (R:AV->Hp->Nat->Prop)
theorem jq7:z4t P res R .normal s=match z0e P s.hp s.env res with
 |some (c,a)=>c/\z2v s (oneOf a) R
 |none=>False:=rfl
theorem jq6:z4t P res R .ret s=match z0e P s.hp s.env res with
 |some (c,a)=>c/\z2v s (oneOf a) R
 |none=>False:=rfl
end
def quK(P:Program)(ops:Array Oper)(r:List Oper)(K:St->Prop)(s:St)(dst:Option Nat)(x:AV):Prop:=vcQ P ops r (s.put dst x) K
theorem jq9(P:Program)(ops:Array Oper)(r:List Oper)(K:St->Prop)(s:St)(dst:Option Nat)(x:AV):quK P ops r K s dst x=vcQ P ops r (s.put dst x) K:=rfl
theorem jg7(P:Program)(ops:Array Oper)(s:St)(K:St->Prop):vcQ P ops [] s K=K s:=rfl
theorem j86(P:Program)(ops:Array Oper)(o:Oper)(r:List Oper)(s:St)(K:St->Prop):vcQ P ops (o::r) s K=qG P ops s o (quK P ops r K s o.dst):=rfl
def exQ(P:Program)(f:FuncId)(args:List AV)(nx:Nat)(g:Bool)(K:AV->Prop):Prop:=∃r,(g=true->be P f args nx r)/\K r
def exK(g:Bool)(K:AV->Prop)(r:AV):Prop:=K (mkG g r)
theorem jt6(g:Bool)(K:AV->Prop)(r:AV):exK g K r=K (mkG g r):=rfl
theorem jx3(P:Program)(s:St)(op:Op)(K:AV->Prop):qG.qO P s op K=match qn5 P s.hp (y9 s.env) op with
 |some (c,r)=>c/\K r
 |none=>qG.qX P s op true K:=rfl
def z5i(P:Program)(o:Oper)(K:AV->Prop)(s:St)(g:Bool):Prop:=(g=true->qG.qO P s o.op (exK true K))/\(g=false->K (mkG false .bU))
theorem j8l(P:Program)(o:Oper)(K:AV->Prop)(s:St):z5i P o K s true=qG.qO P s o.op (exK true K):=by simp[z5i]
theorem j8m(P:Program)(o:Oper)(K:AV->Prop)(s:St):z5i P o K s false=K (mkG false .bU):=by simp[z5i]
theorem jx4(P:Program)(ops:Array Oper)(s:St)(o:Oper)(K:AV->Prop):qG P ops s o K=match o.guard with
 |none=>qG.qO P s o.op K
 |some (j,a)=>match q23 ops j with
  |some d=>match z1d (q17 s.env d) a with
   |some g=>if ze4 o.op=true then z5i P o K s g else match qn5 P s.hp (y9 s.env) o.op with
    |some (c,r)=>(g=true->c)/\K (mkG g r)
    |none=>if bsO o.op=true then qG.qX P s o.op g (exK g K)else z5i P o K s g
   |none=>False
  |none=>False:=rfl
def qXs(P:Program)(s:St)(op:Op)(g:Bool)(K:AV->Prop):Prop:=match op with
 |.call c=>match c.callee,c.args.toList,c.argTypes.toList with
  |.value d,args,_=>match (y9 s.env d).st with
   |.clo f a=>(g=true->(True/\(y9 s.env d).aZ/\bW (args.map (y9 s.env))/\q0f ((args.map λx=>(y9 s.env x).st)++a)=true))/\exQ P f ((args.map λx=>(y9 s.env x).st)++a) 0 g K
   |_=>False
  |_,_,_=>False
 |.buildSlice t n parts=>match aK P t,qx9 (parts.toList.map λp=>(y9 s.env p.2).st)with
  |some e,some b=>match q1s P e with
   |some zs=>(g=true->q1b P e=true/\zs.length=szT P e/\0<szT P e/\n*szT P e<=16777216/\qa1 parts.toList 0=true/\parts.toList.length=n/\bW (parts.toList.map λp=>y9 s.env p.2)/\qp6 (szT P e) b=true/\
    b.flatten.all q9t=true/\b.flatten.all q9p=true)/\K (.sl (szT P e) (b.map (q21 (z0z s.hp P e))))
   |none=>False
  |_,_=>False
 |.makeSlice t l c=>match (y9 s.env l).st,(y9 s.env c).st,aK P t with
  |.v (.int _ n),.v (.int _ m),some e=>match q1s P e with
   |some zs=>(g=true->(y9 s.env l).aZ/\(y9 s.env c).aZ/\m=n/\q1b P e=true/\zs.length=szT P e/\0<szT P e/\0<q26 P e/\0<=n/\n*q26 P e<=140737488355328/\zs.all (·.oneCell')=true)/\
    K (.sl (szT P e) (Xg n.toNat (q21 (z0z s.hp P e) (zs.map AV.v))))
   |none=>False
  |_,_,_=>False
 |_=>False
theorem jx2(P:Program)(s:St)(op:Op)(g:Bool)(K:AV->Prop):qG.qX P s op g K=qXs P s op g K:=by
 unfold qG.qX qXs
 cases op<;>try rfl
 rename_i c
 simp only
 cases c.callee<;>try rfl
 rename_i e
 simp only
 cases (y9 s.env e).st<;>try rfl
 simp only[exQ];apply propext
 constructor
 . rintro⟨r,b,d⟩;exact⟨λa=>(b a).1,r,λa=>(b a).2,d⟩
 rintro⟨b,r,d,f⟩;exact⟨r,λa=>⟨b a,d a⟩,f⟩
theorem bx{P:Program}{f:FuncId}{args args':List AV}{nx:Nat}{g:Bool}{K:AV->Prop}{r:AV}(h:g=true->be P f args' 0 r)(a:args=args')(b:q0f args'=true)(c:K r):exQ P f args nx g K:=by
 subst a;exact⟨r,λd=>(h d).up b nx,c⟩
theorem jh8{P:Program}{Q:Exit->St->Prop}{s:St}{x y:Code}(h:vc P x (z0b P Q y) s):wpV P (.seq x y) Q s:=jq1 h
attribute [go_sem] ju7 ju9 ju8 jv0 jr5 j6g j6i j6j j6h ja8 jb3 Nat.reduceSub zt2 j42 q21 bsO and_assoc Nat.lt_irrefl Option.isSome_some Option.isSome_none jg2 j84 jp3 jg4 j5g zu7 jg5 j85 jg3 cI dZ j8u ja7 j5h j3f vcG ze4 j8n j8o vcO vcX jq9 jg7 j86 jt6 j8l j8m jx3 jx4 jx2 qXs z1d mkG q23 qn5 fop n1 y9 q17 qr6 St.put jh0 jh1 jg9 jq3 jq4 jq2 jb0 jb1 ja9 jq7 jq6 z0e oneOf AV.st AV.aZ eE Option.map_some Option.map_none j51 zi9 unR j45 j47 j4e zt8 zt9 zh8 zh3 z99 q8t ze6 q9l z6y z8s z9g eqR qi3 eqA j16 zt0 j4j zu0 z0x qx9 qc8 q0i q0t q4n q6d bW q80 frz qy4 q9p q9t qa1 qp6 Yc List.map_nil Xw List.flatten_nil List.all_cons List.all_nil List.append_nil List.nil_append Xz X0 List.length_nil List.getElem?_toArray X3 List.getElem?_cons_succ Option.bind_some if_true if_false true_and and_true and_self Bool.false_eq_true Bool.true_eq_false Bool.or_false Bool.false_or Bool.or_true Bool.true_or Bool.and_false Bool.false_and Bool.and_true Bool.true_and Bool.not_true Bool.not_false beq_self_eq_true j3q ne_eq not_false_eq_true not_true_eq_false forall_const Yb Xr Xs false_implies implies_true true_implies Yd Ye Yf Xu List.take_zero List.set_cons_zero List.set_cons_succ true_or or_true or_false false_or Value.oneCell' Nat.add_eq_left X4 Nat.add_assoc decide_eq_true_eq decide_eq_false_iff_not ge_iff_le gt_iff_lt Int.toNat_natCast beq_iff_eq Xd decide_true decide_false Int.natCast_nonneg imp_self Int.natCast_eq_zero jb7 jm7 lits k1c k1d bne q4p k0v k0w undef
attribute [go_sem] z5j jn4 zu3 j55 z90 jf5 zu1 qb0 bE bE.AvLeL q72 q17 q0i Nat.sub_self Nat.add_sub_cancel_left Yd Ye List.getD_nil if_true if_false true_and and_true and_self Xb exists_eq_left' Nat.lt_succ_self Nat.add_eq_left Nat.left_eq_add zg1 forall_const List.mem_nil_iff false_implies implies_true not_false_eq_true ne_eq exists_eq_left X7 Nat.le_add_right Nat.lt_add_right_iff_pos X4 j3z Nat.add_assoc ja2 z0d qv1 zf0 ji3 jp7 q71 j5o j2a jc4 j29 q1c q0w z7a zd5 q0n q0f j1x
end
section
open Go Go.RowKit
def zh7(g:TypeId->Option (List (Option IntKind)))(c:TypeId->Nat):List Field->Nat->Option (List (Option IntKind))
 |[],_=>some []
 |f::r,o=>if f.name="_"\/f.offset≠o then none else match g f.type with
  |some a=>if c f.type=a.length then (zh7 g c r (o+a.length)).map (a++·)else none
  |none=>none
def qg8(P:Program):Nat->TypeId->Option (List (Option IntKind))
 |0,_=>none
 |m+1,t=>if q1b P t=true then match P.underlying t with
  |some .bool=>some [none]
  |some (.int k)=>some [some k]
  |some (.struct fs)=>if P.stoodInHeld t=true then none else zh7 (qg8 P m) (szT P) fs.toList 0
  |some (.array n e)=>match qg8 P m e with
   |some a=>if szT P e=a.length/\P.cellsOf e=a.length then some (Xg n a).flatten else none
   |none=>none
  |_=>none else none
def VT(P:Program)(t:TypeId)(us:List Value)(x:Value):Prop:=match P.underlying t with
 |some (.struct _)=>x=.agg ⟨us⟩
 |some (.array _ _)=>x=.agg ⟨us⟩
 |_=>us=[x]
theorem z1s:∀{us:List Value} {a},q25 us=some a->us.length=a.length
 |[],a,h=>by simp[q25]at h;subst h;rfl
 |u::r,a,h=>by
  cases u<;>simp only[q25,Xe,reduceCtorEq]at h
  all_goals (obtain⟨s,b,rfl⟩:=h;simp[z1s b])
theorem qm1:∀{b c:List (Option IntKind)} {us:List Value},q25 us=some (b++c)->q25 (us.take b.length)=some b/\q25 (us.drop b.length)=some c
 |[],c,us,h=>by simpa [q25]using h
 |a::b,c,[],h=>by simp[q25]at h
 |a::b,c,u::us,h=>by
  cases u<;>simp only[q25,Xe,reduceCtorEq,Xz,X5]at h
  all_goals
   obtain⟨s,d,rfl,rfl⟩:=h;have:=qm1 d;simp[q25,this.1,this.2]
theorem z8n:∀{b:List (Option IntKind)} {us vs:List Value},q25 (us.take b.length)=some b->q25 (vs.take b.length)=some b->eqV us vs=(eqV (us.take b.length) (vs.take b.length)&&eqV (us.drop b.length) (vs.drop b.length))
 |[],us,vs,_,_=>by simp[eqV]
 |a::b,[],vs,h,_=>by simp[q25]at h
 |a::b,u::us,[],_,h=>by simp[q25]at h
 |a::b,u::us,v::vs,h,c=>by
  simp only[X0,Xu]at h c
  cases u<;>simp only[q25,Xe,reduceCtorEq,X5]at h
  all_goals
   obtain⟨s,e,rfl,rfl⟩:=h
   cases v<;>simp only[q25,Xe,reduceCtorEq,X5,Xb]at c
   all_goals
    obtain⟨s',f,d⟩:=c
    first
     |(exfalso;simp at d;done)
     |(have g:=d.2
       subst g;have:=z8n e f;simp only[eqV,X0,Xu,Yf,this,Bool.and_assoc])
theorem z8l{P:Program}{m:Nat}{t:TypeId}{a}(h:qg8 P m t=some a):q1b P t=true:=by
 cases m with
 |zero=>simp[qg8]at h
 |succ m=>
  unfold qg8 at h
  split at h
  . assumption
  cases h
theorem qt5{P:Program}{w:World}{m:Nat}{t:TypeId}{b}(h:qg8 P m t=some b)(g:szT P t=b.length)(us:List Value)(off:Nat)(o:q25 ((us.drop off).take b.length)=some b):
 ∃x,(part t ⟨us⟩ off).run P w=.ok x w/\VT P t ((us.drop off).take b.length) x:=by
 have c:=z8l h
 cases m with
 |zero=>simp[qg8]at h
 |succ m=>
  unfold qg8 at h;rw[if_pos c]at h;have one:∀k,b=[k]->∃u,(us.drop off).take b.length=[u]/\us[off]?=some u:=by
   rintro k rfl;have l:=z1s o
   cases hd:us.drop off with
   |nil=>rw[hd]at l;simp at l
   |cons u r=>
    refine⟨u,by simp,?_⟩;have:=List.getElem?_drop (xs:=us) (i:=off) (j:=0);rw[hd]at this
    simpa using this.symm
  split at h
  .
   rename_i a
   simp only[Xb]at h;obtain⟨u,d,f⟩:=one none h.symm;refine⟨u,?_,by rw[d];simp[VT,a]⟩;unfold part;simp[qf6 c,q5b,a,f]
  .
   rename_i k a
   simp only[Xb]at h;obtain⟨u,d,f⟩:=one (some k) h.symm;refine⟨u,?_,by rw[d];simp[VT,a]⟩;unfold part;simp[qf6 c,q5b,a,f]
  .
   rename_i fs a
   refine⟨.agg ⟨(us.drop off).take b.length⟩,?_,by simp[VT,a]⟩;unfold part;simp[qf6 c,q5b,a,run_sizeOf c,g]
  .
   rename_i n e a
   refine⟨.agg ⟨(us.drop off).take b.length⟩,?_,by simp[VT,a]⟩;unfold part;simp[qf6 c,q5b,a,run_sizeOf c,g]
  cases h
theorem z7n{P:Program}{w:World}{m d:Nat}
 (j:∀t a,qg8 P m t=some a->∀us vs x y,VT P t us x->VT P t vs y->q25 us=some a->q25 vs=some a->(Op.equalIn (d+m) t x y).run P w=.ok (eqV us vs) w):
 ∀(fs:List Field) (o:Nat) (a),zh7 (qg8 P m) (szT P) fs o=some a->∀us vs:List Value,q25 (us.drop o)=some a->q25 (vs.drop o)=some a->
  (Op.eqFields (d+m) ⟨us⟩ ⟨vs⟩ fs).run P w=.ok (eqV (us.drop o) (vs.drop o)) w
 |[],o,a,h,us,vs,b,k=>by
  simp only[zh7,Xb]at h;subst h;have q:=z1s b;have u:us.drop o=[]:=Xt (by simpa using q);rw[u];simp[Op.eqFields,eqV]
 |f::fs,o,a,h,us,vs,b,k=>by
  unfold zh7 at h
  split at h
  . cases h
  rename_i l
  split at h
  .
   rename_i s c
   split at h
   .
    rename_i n
    simp only[Xe]at h;obtain⟨r,z,rfl⟩:=h;have A:f.name≠"_":=λe=>l (.inl e);have B:f.offset=o:=Xl λe=>l (.inr e);obtain⟨a1,a2⟩:=qm1 b;obtain⟨g,p⟩:=qm1 k;obtain⟨x,C,v1⟩:=qt5 (w:=w) c n us o a1;obtain⟨y,D,v2⟩:=qt5 (w:=w) c n vs o g;have E:=j _ _ c _ _ _ _ v1 v2 a1 g;rw[Xh]at a2 p;have G:=z7n j fs (o+s.length) r z us vs a2 p;rw[z8n a1 g,Xh,Xh];simp only[Op.eqFields,A,ne_eq,not_false_eq_true,if_true,Sem.run_bind,B,C,D,E,Result.andThen_ok]
    cases eqV ((us.drop o).take s.length) ((vs.drop o).take s.length)
    . simp
    simpa using G
   cases h
  cases h
theorem z8o{P:Program}{w:World}{m d:Nat}{e:TypeId}{s:List (Option IntKind)}(b:qg8 P m e=some s)(c:szT P e=s.length)
 (j:∀us vs x y,VT P e us x->VT P e vs y->q25 us=some s->q25 vs=some s->(Op.equalIn (d+m) e x y).run P w=.ok (eqV us vs) w)(us vs:List Value):
 ∀(n o:Nat),q25 (us.drop (o*s.length))=some (Xg n s).flatten->q25 (vs.drop (o*s.length))=some (Xg n s).flatten->
  (Op.eqItems (d+m) e s.length ⟨us⟩ ⟨vs⟩ (List.range' o n)).run P w=.ok (eqV (us.drop (o*s.length)) (vs.drop (o*s.length))) w
 |0,o,a,f=>by
  have p:=z1s a;have q:us.drop (o*s.length)=[]:=Xt (by simpa using p);rw[q];simp[Op.eqItems,eqV]
 |n+1,o,a,f=>by
  rw[Yg,Xw]at a f;obtain⟨a1,a2⟩:=qm1 a;obtain⟨g,k⟩:=qm1 f;obtain⟨x,t,v1⟩:=qt5 (w:=w) b c us (o*s.length) a1;obtain⟨y,u,v2⟩:=qt5 (w:=w) b c vs (o*s.length) g;have z:=j _ _ _ _ v1 v2 a1 g;have l:o*s.length+s.length=(o+1)*s.length:=by rw[Yk,Nat.one_mul]
  rw[Xh,l]at a2 k;have A:=z8o b c j us vs n (o+1) a2 k;rw[z8n a1 g,Xh,Xh,l];simp only[List.range'_succ,Op.eqItems,Sem.run_bind,t,u,z,Result.andThen_ok]
  cases eqV ((us.drop (o*s.length)).take s.length) ((vs.drop (o*s.length)).take s.length)
  . simp
  simpa using A
theorem z3j{P:Program}{w:World}(d:Nat):∀(m:Nat) (t:TypeId) (b),qg8 P m t=some b->∀us vs x y,VT P t us x->VT P t vs y->q25 us=some b->q25 vs=some b->
 (Op.equalIn (d+m) t x y).run P w=.ok (eqV us vs) w
 |0,t,b,h,_,_,_,_,_,_,_,_=>by simp[qg8]at h
 |m+1,t,b,h,us,vs,x,y,c,f,g,j=>by
  have u:=z8l h;unfold qg8 at h;rw[if_pos u]at h
  split at h
  .
   rename_i a
   simp only[Xb]at h;subst h;simp only[VT,a]at c f;subst c;subst f
   cases x<;>simp[q25]at g
   cases y<;>simp[q25]at j
   rw[show d+(m+1)=d+m+1 from rfl,run_equalIn_bool w (d+m) t _ _ a];simp[eqV]
  .
   rename_i k a
   simp only[Xb]at h;subst h;simp only[VT,a]at c f;subst c;subst f
   cases x<;>simp[q25]at g
   cases y<;>simp[q25]at j
   subst g;subst j;rw[show d+(m+1)=d+m+1 from rfl,run_equalIn_int w (d+m) t _ _ _ _ a];simp[eqV]
  .
   rename_i fs a
   split at h
   . cases h
   rename_i o
   simp only[VT,a]at c f;subst c;subst f;have l:P.fieldsOf t=fs:=by simp[Program.fieldsOf,a]
   rw[show d+(m+1)=d+m+1 from rfl,run_equalIn_struct w (d+m) t _ _ (by rw[l];exact a) (by simpa using o),l];have:=z7n (w:=w) (d:=d) (λt b h=>z3j d m t b h) fs.toList 0 b h us vs (by simpa using g) (by simpa using j)
   simpa using this
  .
   rename_i n e a
   split at h
   .
    rename_i s p
    split at h
    .
     rename_i q
     simp only[Xb]at h;subst h;simp only[VT,a]at c f;subst c;subst f;obtain⟨i,_,hi,_,_⟩:=qx0 (z8l p);rw[show d+(m+1)=d+m+1 from rfl,run_equalIn_array w (d+m) _ _ a hi,q.2,List.range_eq_range'];have:=z8o (w:=w) (d:=d) p q.1 (λus vs x y=>z3j d m e s p us vs x y) us vs n 0 (by simpa using g) (by simpa using j)
     simpa using this
    cases h
   cases h
  cases h
theorem j7o{P:Program}{t:TypeId}{b}(d:P.eqGuardType P.depth t=false)(c:q5b P t=true)(h:qg8 P 9 t=some b):EqT P t b:=by
 refine⟨d,λus vs e f w=>?_⟩;have a:∀us,VT P t us (.agg ⟨us⟩):=by
  intro us;unfold VT;unfold q5b at c
  split at c<;>rename_i a<;>first|(rw[a])|cases c
 exact z3j 9991 9 t b h us vs _ _ (a _) (a _) e f
end
section
open Go Go.RowKit
theorem zy0(b:Nat):¬own noG [] (λ_=>False) b:=by
 rintro (h|⟨p,hp,_⟩)
 . exact h
 cases hp
theorem j4y{P:Program}{f:FuncId}{args:List AV}{v:Value}(hb:u7 P f=true)(h:be P f args 0 (.v v))(w:World)(d:GLW P w)(vs:List Value)
 (g:y8 w noG 0 (own noG [] (λ_=>False)) args vs):Calls P f ⟨vs⟩ w λe w'=>e=.returned v/\Below w.heap.size w w':=by
 refine ((h w noG (λ_=>False) vs (λb hb=>hb.elim) g b8.nil ⟨d,λ_ _ _ _ ⟨_,h,_⟩=>by cases h⟩).1 hb).mono ?_;rintro e w' ⟨u,r,hp',nx',β',rfl,⟨rfl,rfl,rfl⟩,c,m,a⟩;simp only[rep]at c;subst c;exact⟨rfl,a.os,a.tape,a.output.1,a.size,λk j=>a.keep k j (by rintro⟨q,l,_⟩;cases l)⟩
end
section
open Go Go.RowKit
theorem z02(P:Program)(t:TypeId):P.cellsOf t=szT P t:=rfl
section
variable {H:Type} {enc:TypeId×Value->H} {P:Program} {w:World} {base:Nat} {spare:Nat->Bool} {held:Bool}
end
end
section
open Go Go.RowKit Go.WideShapes
inductive CT where
 |int(k:IntKind)
 |bool
 |str
 |sl(row:List CT)
mutual
def z7c:CT->AV->Prop
 |.int k,a=>∃n,a=.v (.int k n)/\(Lit.int k n).wf=true
 |.bool,a=>∃b,a=.v (.bool b)
 |.str,a=>∃s:ByteArray,a=.v (.string s)/\s.size<=maxLen
 |.sl row,a=>∃d,a=.sl row.length d/\d.length<=maxLen/\∀r∈d,q47 row r
def q47:List CT->List AV->Prop
 |[],e=>e=[]
 |c::cs,e=>∃a r,e=a::r/\z7c c a/\q47 cs r
end
def j0w(g:TypeId->Option (List CT))(c:TypeId->Nat):List Field->Nat->Option (List CT)
 |[],_=>some []
 |f::r,o=>if f.offset≠o then none else match g f.type with
  |some a=>if c f.type=a.length then (j0w g c r (o+a.length)).map (a++·)else none
  |none=>none
def qy6(P:Program):Nat->TypeId->Option (List CT)
 |0,_=>none
 |m+1,t=>match P.underlying t with
  |some .bool=>some [.bool]
  |some (.int k)=>some [.int k]
  |some .string=>some [.str]
  |some (.slice e)=>match qy6 P m e with
   |some row=>if szT P e=row.length/\0<row.length then some [.sl row]else none
   |none=>none
  |some (.struct fs)=>j0w (qy6 P m) (szT P) fs.toList 0
  |some (.array n e)=>match qy6 P m e with
   |some row=>if szT P e=row.length then some (Xg n row).flatten else none
   |none=>none
  |_=>none
def qx3(w:World)(β:aF)(ow:Nat->Prop)(b:List CT)(us:List Value):Prop:=∃a,q47 b a/\y8 w β 0 ow a us/\∀u∈us,u.oneCell'=true
section
variable {w:World} {β:aF} {ow:Nat->Prop}
theorem z7v:∀{d:List CT} {b:List AV},q47 d b->b.length=d.length
 |[],b,h=>by simp only[q47]at h;subst h;rfl
 |c::cs,b,h=>by
  simp only[q47]at h;obtain⟨a,r,rfl,_,e⟩:=h;simp[z7v e]
theorem zo7:∀{e b:List CT} {a1 a2:List AV},q47 e a1->q47 b a2->q47 (e++b) (a1++a2)
 |[],b,a1,a2,h,d=>by simp only[q47]at h;subst h;simpa using d
 |c::cs,b,a1,a2,h,d=>by
  simp only[q47]at h;obtain⟨a,r,rfl,f,g⟩:=h;simp only[Xz,q47];exact⟨a,r++a2,rfl,f,zo7 g d⟩
theorem za8{a b:List CT}{c d:List Value}(e:qx3 w β ow a c)(f:qx3 w β ow b d):qx3 w β ow (a++b) (c++d):=by
 obtain⟨a1,g,j,k⟩:=e;obtain⟨a2,l,m,n⟩:=f;exact⟨a1++a2,zo7 g l,q5x j m,λu o=>(List.mem_append.1 o).elim (k u) (n u)⟩
theorem z5l{b:Nat}:∀(as:List AV) (us:List Value) (o:Nat),(∀j (e:j<us.length),w.cell? ⟨b,o+j,none⟩=some us[j])->(∀u∈us,u.oneCell'=true)->y8 w β 0 ow as us->q4e w β ow b as o
 |[],_,_,_,_,_=>by simp[q4e]
 |a::as,[],_,_,_,h=>by simp only[y8]at h
 |a::as,u::us,o,c,d,h=>by
  simp only[y8]at h;simp only[q4e];refine⟨⟨u,by have:=c 0 (by simp);simpa only[Xs,X8]using this,d u (by simp),h.1⟩,z5l as us (o+1) (λj e=>?_) (λv f=>d v (by simp[f])) h.2⟩;have:=c (j+1) (by simp;omega);rw[show o+1+j=o+(j+1) by omega,this];simp
theorem zf3{b sz:Nat}:∀(L:List (List AV)) (o:Nat),(∀i (hi:i<L.length),L[i].length=sz/\q4e w β ow b L[i] (o+i*sz))->q0p w β ow sz b L o
 |[],o,_=>by simp[q0p]
 |r::c,o,h=>by
  have a:=h 0 (by simp);simp only[X8,Nat.zero_mul,Xs]at a;simp only[q0p];refine⟨a.1,a.2,zf3 c (o+sz) (λi hi=>?_)⟩;have:=h (i+1) (by simp;omega);simp only[List.getElem_cons_succ]at this;refine⟨this.1,?_⟩;rw[show o+sz+i*sz=o+(i+1)*sz by rw[Yk];omega];exact this.2
variable {H:Type} {enc:TypeId×Value->H} {P:Program} {base:Nat} {spare:Nat->Bool} {held:Bool}
theorem zn7{m n:Nat}(e:∀t b,qy6 P m t=some b->szT P t=b.length->∀c cs x,DataW.trod enc P w base spare held c t cs=some x->qx3 w β ow b cs)(cs:List Value):
 ∀(fs:List Field) (o:Nat) (d),j0w (qy6 P m) (szT P) fs o=some d->(∀f∈fs,∃y,DataW.trod enc P w base spare held n f.type ((cs.drop f.offset).take (P.cellsOf f.type))=some y)->
  qx3 w β ow d ((cs.drop o).take d.length)
 |[],o,d,h,_=>by
  simp only[j0w,Xb]at h;subst h;exact⟨[],by simp[q47],by simp[y8],by simp⟩
 |f::fs,o,d,h,a=>by
  unfold j0w at h
  split at h
  . cases h
  rename_i l
  split at h
  .
   rename_i s p
   split at h
   .
    rename_i j
    simp only[Xe]at h;obtain⟨r,q,rfl⟩:=h;have u:f.offset=o:=Xl l;obtain⟨y,k⟩:=a f (by simp);rw[u,z02,j]at k;have z:=e _ _ p j _ _ _ k;have A:=zn7 e cs fs (o+s.length) r q (λg B=>a g (by simp[B]));have C:(cs.drop o).take (s++r).length=(cs.drop o).take s.length++(cs.drop (o+s.length)).take r.length:=by
     rw[Xv,List.take_add,Xh]
    rw[C];exact za8 z A
   cases h
  cases h
theorem zv3{e:TypeId}{row:List CT}(cs:List Value)(b:szT P e=row.length):∀(n o:Nat),(∀i,i<n->qx3 w β ow row ((cs.drop (o+i*row.length)).take row.length))->
 qx3 w β ow (Xg n row).flatten ((cs.drop o).take (Xg n row).flatten.length)
 |0,o,_=>⟨[],by simp[q47],by simp[y8],by simp⟩
 |n+1,o,h=>by
  have a:=h 0 (by omega);simp only[Nat.zero_mul,Xs]at a;have c:=zv3 cs b n (o+row.length) (λi hi=>by
   have:=h (i+1) (by omega);rw[show o+row.length+i*row.length=o+(i+1)*row.length by rw[Yk];omega];exact this)
  rw[Yg,Xw,Xv,List.take_add,Xh];exact za8 a c
theorem z1r(E:∀b,¬ow b):∀(m:Nat) (t:TypeId) (g),qy6 P m t=some g->szT P t=g.length->∀z cs x,DataW.trod enc P w base spare held z t cs=some x->qx3 w β ow g cs
 |0,t,g,h,_,_,_,_,_=>by simp[qy6]at h
 |m+1,t,g,h,S,z,cs,x,K=>by
  unfold qy6 at h
  split at h
  .
   rename_i A
   simp only[Xb]at h;subst h;obtain⟨b,rfl,_⟩:=DataW.trod_bool A K;exact⟨[.v (.bool b)],by simp[q47,z7c],by simp[y8,rep],by simp[Value.oneCell']⟩
  .
   rename_i k A
   simp only[Xb]at h;subst h;obtain⟨n,rfl,_,U⟩:=DataW.trod_int A K;exact⟨[.v (.int k n)],by simp[q47,z7c,U],by simp[y8,rep],by simp[Value.oneCell']⟩
  .
   rename_i A
   simp only[Xb]at h;subst h;obtain⟨s,rfl,_,U⟩:=DataW.trod_string A K;exact⟨[.v (.string s)],by simp[q47,z7c,U],by simp[y8,rep],by simp[Value.oneCell']⟩
  .
   rename_i e A
   split at h
   .
    rename_i row B
    split at h
    .
     rename_i d
     obtain⟨d,L⟩:=d;simp only[Xb]at h;subst h;rcases Go.Deep.open_slice A K with⟨rfl,_⟩|⟨a,len,cap,M,n,D,Pl,rfl,_,N,hm,hM,_,hi⟩
     . exact⟨[.sl row.length []],by simp[q47,z7c],by simp[y8,rep],by simp[Value.oneCell']⟩
     have b3:len<=M:=by rw[hM];split<;>omega
     rw[z02,d]at hi;obtain⟨f,C⟩:=Go.Deep.choose_lt (α:=List AV×List Value) (n:=len) (p:=λi q=>w.cells? base (a.add (i*row.length)) row.length=some q.2/\q47 row q.1/\y8 w β 0 ow q.1 q.2/\∀u∈q.2,u.oneCell'=true) (λi l=>by
      obtain⟨V,hc,W⟩:=hi i (by omega);obtain⟨X,k1,k2,k3⟩:=z1r E m e row B d _ _ _ W;exact⟨(X,V),hc,k1,k2,k3⟩)
     have y:∀i,i<len->(f i).2.length=row.length/\∀j,j<row.length->w.cell? (a.add (i*row.length+j))=(f i).2[j]?:=λi l=>by
      obtain⟨_,I,Y⟩:=World.cells?_some (C i l).1;refine⟨by rw[q1t (C i l).2.2.1 |>.symm,z7v (C i l).2.1],λj O=>?_⟩;rw[<-Go.Deep.add_add];exact Y j O
     refine⟨[.sl row.length ((Xj len).map λi=>(f i).1)],?_,?_,by simp[Value.oneCell']⟩
     . simp only[q47,z7c];refine⟨_,_,rfl,⟨_,rfl,by simp;omega,λr hr=>?_⟩,rfl⟩;obtain⟨i,Z,rfl⟩:=List.mem_map.1 hr;exact (C i (by simpa using Z)).2.1
     simp only[y8,rep];refine⟨?_,trivial⟩;rcases Nat.eq_zero_or_pos len with T|T
     . subst T;exact .inl ⟨by simp,_,_,rfl⟩
     right
     have c:=(y 0 T).2 0 L;have a6:=(y 0 T).1;rw[Xn (by omega)]at c;obtain⟨b,o,Q⟩:=a;have ao:Q=none:=by simpa [Addr.add]using World.cell?_spot c
     subst ao;have J:∀i,(⟨b,o,none⟩:Addr).add i=⟨b,o+i,none⟩:=λi=>by
      unfold Addr.add;split
      . rename_i h;subst h;rfl
      rfl
     refine⟨b,o,cap,by simp,by simpa using N,E b,?_,zf3 _ _ (λi hi'=>?_)⟩
     .
      rw[J]at c;unfold World.cell? at c
      split at c
      .
       rename_i heq
       exact (Xf.1 heq).1
      cases c
     have l:i<len:=by simpa using hi'
     have G:=C i l;have h2:=y i l;simp only[List.getElem_map,List.getElem_range];refine⟨z7v G.2.1,z5l _ _ _ (λj O=>?_) G.2.2.2 G.2.2.1⟩;have:=h2.2 j (by omega);rw[J,Xn O]at this;rw[show o+i*row.length+j=o+(i*row.length+j) by omega];exact this
    cases h
   cases h
  .
   rename_i fs A
   obtain⟨ys,n,_,_,N,I,C⟩:=DataW.trod_struct A K;have:=zn7 (enc:=enc) (w:=w) (base:=base) (spare:=spare) (held:=held) (n:=n) (λt sh h S z cs x=>z1r E m t sh h S z cs x) cs fs.toList 0 g h (λf ar=>by
    obtain⟨j,O,b0⟩:=List.getElem_of_mem ar;have R:fs[j]?=some f:=by
     rw[<-Array.getElem?_toList,List.getElem?_eq_getElem O,b0]
    have G:=C j f R;have b1:j<ys.length:=by
     have:j<fs.size:=(Array.getElem?_eq_some_iff.1 R).1;omega
    rw[List.getElem?_eq_getElem b1]at G;exact⟨_,G⟩)
   have b2:cs.length=g.length:=by rw[N,z02,S]
   rw[Yb,X9 (by omega)]at this;exact this
  .
   rename_i n e A
   split at h
   .
    rename_i row B
    split at h
    .
     rename_i d
     simp only[Xb]at h;subst h;obtain⟨ys,fu,_,_,N,I,C⟩:=DataW.trod_array A K;rw[z02,d]at C;have:=zv3 (w:=w) (β:=β) (ow:=ow) (P:=P) (e:=e) (row:=row) cs d n 0 (λi hi=>by
      have G:=C i hi;rw[Xn (by omega)]at G;rw[Xr];exact z1r E m e row B d _ _ _ G)
     have b2:cs.length=(Xg n row).flatten.length:=by rw[N,z02,S]
     rw[Yb,X9 (by omega)]at this;exact this
    cases h
   cases h
  cases h
end
class Dat(α:Type) extends Row α where
 ct:List CT
 ok:α->Prop
 len:ct.length=sz
 of:∀avs,q47 ct avs->∃x:α,avs=row x/\ok x
def inI(k:IntKind)(n:Int):Prop:=(Lit.int k n).wf=true
instance:Dat Int where
 ct:=[.int .i64]
 ok n:=inI .i64 n
 len:=rfl
 of a h:=by
  simp only[q47,z7c]at h;obtain⟨_,_,rfl,⟨n,rfl,b⟩,rfl⟩:=h;exact⟨n,rfl,b⟩
instance:Dat Bool where
 ct:=[.bool]
 ok _:=True
 len:=rfl
 of a h:=by
  simp only[q47,z7c]at h;obtain⟨_,_,rfl,⟨b,rfl⟩,rfl⟩:=h;exact⟨b,rfl,trivial⟩
theorem j0q{α:Type}[Dat α]:∀(a:List (List AV)),(∀r∈a,q47 (Dat.ct α) r)->∃l:List α,a=enc l/\∀x∈l,Dat.ok x
 |[],_=>⟨[],rfl,by simp⟩
 |r::c,h=>by
  obtain⟨x,d,e⟩:=Dat.of r (h r (by simp));obtain⟨l,f,b⟩:=j0q c (λr g=>h r (by simp[g]));exact⟨x::l,by rw[d,f];rfl,by simp;exact⟨e,b⟩⟩
instance {α:Type}[Dat α]:Dat (List α) where
 ct:=[.sl (Dat.ct α)]
 ok l:=l.length<=maxLen/\∀x∈l,Dat.ok x
 len:=rfl
 of b h:=by
  simp only[q47,z7c]at h;obtain⟨_,_,rfl,⟨a,rfl,c,d⟩,rfl⟩:=h;obtain⟨l,rfl,e⟩:=j0q (α:=α) a d;exact⟨l,by rw[q71,Dat.len],by simpa [q1c]using c,e⟩
def za9(g:Bool)(a:List AV):AV:=if g=true then .agg a else oneOf a
section
variable {H:Type} {enc:TypeId×Value->H} {P:Program} {w:World} {base b0:Nat} {spare:Nat->Bool} {held:Bool} {β:aF} {ow:Nat->Prop} {r:Reach} {t:TypeId} {v:Value} {d:DataW H} {ps:List MemPlace}
theorem j3r(s:∀b,¬ow b){j:List CT}(p:qy6 P 12 t=some j)(u:szT P t=j.length)(m:Value.okWide P w r b0 t v)(h:DataW.Trod enc P w base spare held t v d ps):
 ∃f,q47 j f/\rep w β 0 ow (za9 (q5b P t) f) v:=by
 obtain⟨o,h⟩:=h;obtain⟨f,y,g,B⟩:=z1r (β:=β) s 12 t j p u o _ _ h;refine⟨f,y,?_⟩;have one:v.cells.toList=[v]->q5b P t=false->rep w β 0 ow (za9 (q5b P t) f) v:=λz A=>by
  rw[z]at g;rw[A]
  match f,g with
  |[a],g=>simp only[y8]at g;simpa [za9,oneOf]using g.1
  |[],g=>simp only[y8]at g
  |a::b::q,g=>simp only[y8]at g;exact g.2.elim
 unfold qy6 at p
 split at p
 .
  rename_i c
  obtain⟨b,rfl⟩:=okWide_bool c m;exact one rfl (by simp[q5b,c])
 .
  rename_i k c
  obtain⟨b,rfl⟩:=okWide_int c m;exact one rfl (by simp[q5b,c])
 .
  rename_i c
  obtain⟨b,rfl⟩:=okWide_string c m;exact one rfl (by simp[q5b,c])
 .
  rename_i e c
  obtain⟨a,len,cap,rfl⟩:=okWide_slice c m;exact one rfl (by simp[q5b,c])
 .
  rename_i fs c
  obtain⟨cs,rfl,_⟩:=okWide_struct c m;rw[show q5b P t=true by simp[q5b,c]];simp only[za9,if_true,rep];exact⟨cs.toList,by simp,g⟩
 .
  rename_i n e c
  have l:=m;unfold Value.okWide at l;rw[c]at l;obtain⟨cs,rfl,_⟩:=l;rw[show q5b P t=true by simp[q5b,c]];simp only[za9,if_true,rep];exact⟨cs.toList,by simp,g⟩
 cases p
theorem zy1{α:Type}[Dat α](a:∀b,¬ow b)(e:qy6 P 12 t=some (Dat.ct α))(f:szT P t=(Dat.ct α).length)(g:Value.okWide P w r b0 t v)(h:DataW.Trod enc P w base spare held t v d ps):
 ∃x:α,Dat.ok x/\rep w β 0 ow (za9 (q5b P t) (Row.row x)) v:=by
 obtain⟨c,j,k⟩:=j3r (β:=β) a e f g h;obtain⟨x,rfl,l⟩:=Dat.of c j;exact⟨x,l,k⟩
theorem j9a{k:IntKind}(a:P.underlying t=some (.int k))(e:Value.okWide P w r b0 t v)(h:DataW.Trod enc P w base spare held t v d ps):
 ∃n:Int,inI k n/\rep w β 0 ow (.v (.int k n)) v:=by
 obtain⟨b,h⟩:=h;obtain⟨n,rfl⟩:=okWide_int a e;obtain⟨m,c,_,f⟩:=DataW.trod_int a h;simp[Value.cells]at c;subst c;exact⟨n,f,by simp only[rep]⟩
end
end
end Go.Proofs.YtdcdfkdhomekeaaGreat

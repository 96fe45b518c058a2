/-
  What the library of Go does to rows, told by the kit's contracts. No condition beyond those that each theorem names.
-/
import Derived.Test.YtomicnbiniapfaaGreatLibD
import Derived.Shelf.SlSortCmp.NoneTotal
import Derived.Shelf.Sort.Plain
import Derived.Shelf.Slices.CompactI
import Derived.Lib.RowBridge
import Derived.Shelf.Slices.In.SortNone
set_option linter.unusedSimpArgs false
set_option linter.unusedVariables false
set_option linter.unusedSectionVars false
open List renaming mem_singleton->Xa,eq_nil_of_length_eq_zero->Xb,getElem_cons_zero->Xj,getElem_cons_succ->Xk,mem_map_of_mem->Xm
open Nat renaming le_refl->Xc,le_add_right->Xh,zero_lt_one->Xi
open Array renaming getElem?_modify->Xd,getElem?_append_left->Xf,getElem?_eq_getElem->Xg,getElem?_mapIdx->Xl,size_modify->Xq,size_mapIdx->Xr
open Option renaming some.injEq->Xe,isSome_none->Xo,map_some->Xs
open Bool renaming false_eq_true->Xp
namespace Go.Proofs.YtomicnbiniapfaaGreat
section
open Go Go.RowKit Go.Sort Go.Lib Go.Shelf
theorem zw0{w:World}{β:aI}{ow:Nat->Prop}{b:Nat}:∀(l:List Value) (o:Nat),q4c w β ow b (l.map AV.v) o↔∀i (h:i<l.length),w.cell? ⟨b,o+i,none⟩=some l[i]/\l[i].oneCell'=true
 |[],o=>by simp[q4c]
 |a::l,o=>by
  simp only[List.map_cons,q4c,rep,zw0 l (o+1)]
  constructor
  .
   rintro⟨⟨u,G,I,rfl⟩,T⟩ i hi
   cases i with
   |zero=>exact⟨G,I⟩
   |succ i=>
    have:=T i (by simpa using hi);rw[show o+1+i=o+(i+1) by omega]at this;exact this
  intro h;refine⟨⟨a,(h 0 (by simp)).1,(h 0 (by simp)).2,rfl⟩,fun i hi=>?_⟩;have:=h (i+1) (by simpa using hi);rw[show o+(i+1)=o+1+i by omega]at this;exact this
theorem z0t{α:Type}[Row α]{ev:α->List Value}(G:∀x,Row.row x=(ev x).map AV.v){k:Nat}(T:∀x,(ev x).length=k){w:World}{β:aI}{ow:Nat->Prop}{b:Nat}:
 ∀(xs:List α) (o:Nat),q0p w β ow k b (enc xs) o↔∀j (I:j<xs.length) i (hi:i<(ev xs[j]).length),w.cell? ⟨b,o+j*k+i,none⟩=some (ev xs[j])[i]/\(ev xs[j])[i].oneCell'=true
 |[],o=>by simp[q0p,enc]
 |x::xs,o=>by
  have W:=z0t G T (w:=w) (β:=β) (ow:=ow) (b:=b) xs (o+k);simp only[enc]at W;simp only[enc,List.map_cons,q0p,G,List.length_map,T,true_and,W,zw0]
  constructor
  .
   rintro⟨Z,h2⟩ j I i hi
   cases j with
   |zero=>
    simp only[Nat.zero_mul,Nat.add_zero,Xj]at hi⊢;exact Z i hi
   |succ j=>
    simp only[Xk]at hi⊢;have:=h2 j (by simpa using I) i hi;rw[show o+k+j*k+i=o+(j+1)*k+i by rw[Nat.add_mul];omega]at this;exact this
  intro h;refine⟨fun i hi=>?_,fun j I i hi=>?_⟩
  . have:=h 0 (by simp) i hi;simp only[Nat.zero_mul,Nat.add_zero,Xj]at this;exact this
  have:=h (j+1) (by simpa using I) i hi;simp only[Xk]at this;rw[show o+(j+1)*k+i=o+k+j*k+i by rw[Nat.add_mul];omega]at this;exact this
end
section
open Go Go.RowKit Go.Sort
end
section
open Go Go.RowKit Go.Sort Go.Lib Go.Shelf
def j5m(xs:List Int):Option (List Int):=u7 (xs.length<4611686018427387904) (some (xs.mergeSort fun x y=>decide (x<=y)))
theorem j0q{P:Program}{ρ:Ren}(L:Lays.n189 P ρ)(c4:q02 P (ρ.f 189)=true)(b5:∀w,Calls P (ρ.f 189) #[.slice none 0 0] w fun e w'=>e=.returned (.tuple #[])/\w'=w){xs r:List Int}(h:j5m xs=some r):
 ba P (ρ.f 189) [.osl 0 1 0 xs.length] [(0,.arr 1 (enc xs))] 1 (.tup []) [(0,.arr 1 (enc r))] 1:=by
 obtain⟨c5,h⟩:=q06 h;simp only[Xe]at h;have ak:r.length=xs.length:=by rw[<-h,List.length_mergeSort]
 let ev:Int->List Value:=fun x=>[.int .i64 x]
 have b6:∀x:Int,Row.row x=(ev x).map AV.v:=fun _=>rfl;have hk:∀x:Int,(ev x).length=1:=fun _=>rfl;intro w β A vs hA G T d0;refine bx.of c4 ?_;have bi:=T.obj _ (Xa.2 rfl)
 match vs,G with
 |[u1],G=>
 simp only[y9,and_true]at G;have bs:=G;simp only[rep]at bs;have c6:=T.bB;rcases bs.2 with⟨hn,-,bv,rfl⟩|⟨b,C,cap,a,hb,rfl,cp,d1,ha⟩
 .
  have hx:xs=[]:=Xb bv;have hr:r=[]:=Xb (ak.trans bv);subst hx hr;refine (b5 w).mono ?_;rintro e w' ⟨rfl,rfl⟩;refine⟨_,_,_,_,β,rfl,⟨rfl,rfl,rfl⟩,?_,T,?_⟩
  . simp only[rep];exact⟨[],rfl,by simp only[y9]⟩
  exact {nx:=Xc _,gh:=fun _ _=>rfl,gi:=fun _ _ _=>rfl,ids:=fun p hp=> .inl (Xm hp),blk:=fun p hp b hb=> .inl ⟨p,hp,hb⟩,os:=rfl,tape:=rfl,output:=⟨rfl,fun _=>Xc _⟩,size:=Xc _,keep:=fun _ _ _=>rfl}
 have c7:a=⟨b,0,none⟩:=by
  rcases ha with rfl|⟨_,h0⟩
  . simp
  exact absurd rfl h0
 subst c7;have c0:=c6 _ (Xa.2 rfl) b (.inl ⟨C,hb⟩);rcases bi with⟨h0,_⟩|⟨W,C',cur,e,I,Z,c1,c2,c8,an⟩
 . simp only at h0;rw[hb]at h0;cases h0
 simp only at I;rw[hb]at I;simp only[Xe,Prod.mk.injEq]at I;obtain⟨rfl,rfl⟩:=I;have a6:=(z0t b6 hk xs 0).1 an;have hH:Holds (Value.int .i64) w b 0 xs.toArray:=by
  intro j hj;have c9:j<xs.length:=by simpa using hj
  have:=(a6 j c9 0 (by simp[ev])).1;refine⟨?_,?_⟩
  . rw[show 0+j*1+0=0+j by omega]at this;rw[this,getElem!_pos xs.toArray j hj];simp[ev]
  unfold World.frozen?;rw[Z];simp
 have c3:=Any.slices_Sort_int L b 0 cap xs w hH c0 c5;rw[h]at c3;refine c3.mono ?_;rintro e' w' ⟨rfl,n,os,rfl⟩;have aj:(grow (putRow (Value.int .i64) (Sort.ahead w n) b 0 r.toArray) os).heap[b]?=some (.cells (putCells (Value.int .i64) 0 r.toArray cur) e (0,0)):=by
  simp only[grow,putRow,mapBlock];rw[Xf (by simpa using c0),Xd,if_pos rfl]
  show (w.heap[b]?).map _=_
  rw[Z];rfl
 have ao:∀W,W≠b->W<w.heap.size->(grow (putRow (Value.int .i64) (Sort.ahead w n) b 0 r.toArray) os).heap[W]?=w.heap[W]?:=fun W cb aq=>by
  simp only[grow,putRow,mapBlock];rw[Xf (by simpa using aq),Xd,if_neg (Ne.symm cb)];rfl
 have ar:w.heap.size<=(grow (putRow (Value.int .i64) (Sort.ahead w n) b 0 r.toArray) os).heap.size:=by
  simp only[grow,putRow,mapBlock,Array.size_append,Xq];exact Xh _ _
 have b1:(grow (putRow (Value.int .i64) (Sort.ahead w n) b 0 r.toArray) os).os=w.os:=rfl;have b2:(grow (putRow (Value.int .i64) (Sort.ahead w n) b 0 r.toArray) os).tape=w.tape:=rfl;have b3:(grow (putRow (Value.int .i64) (Sort.ahead w n) b 0 r.toArray) os).output=w.output:=rfl;have b4:w.drawn<=(grow (putRow (Value.int .i64) (Sort.ahead w n) b 0 r.toArray) os).drawn:=Xh _ _
 revert aj ao ar b1 b2 b3 b4
 generalize grow (putRow (Value.int .i64) (Sort.ahead w n) b 0 r.toArray) os=S
 intro aj ao ar b1 b2 b3 b4;refine⟨_,_,_,_,β,rfl,⟨rfl,rfl,rfl⟩,?_,⟨?_,?_,?_,?_,?_,?_,?_⟩,?_⟩
 . simp only[rep];exact⟨[],rfl,by simp only[y9]⟩
 .
  intro p hp;rw[Xa]at hp;subst hp;refine .inr ⟨b,C,_,e,hb,aj,?_,?_,c8,?_⟩
  . simp only[putCells,Xr];exact c1
  . rw[q17,ak,<-q17];exact c2
  refine (z0t b6 hk r 0).2 fun j hj i hi=>?_;have cc:i=0:=by simp[ev]at hi;exact hi
  subst cc;rw[q17]at c2;refine⟨?_,rfl⟩;unfold World.cell?;simp only[aj,Xo,Xp,if_false];rw[show 0+j*1+0=j by omega];have cd:j<cur.size:=by omega
  simp only[putCells,Xl,Xg cd,Xs,Nat.sub_zero,Nat.zero_add];rw[if_pos ⟨Nat.zero_le _,by simpa using hj⟩,getElem!_pos r.toArray j (by simpa using hj)];simp[ev]
 . intro p hp;rw[Xa]at hp;subst hp;exact Xi
 . simp
 . intro p hp q hq _ _ _ _ _;rw[Xa]at hp hq;rw[hp,hq]
 . intro p hp W C' hC;rw[Xa]at hp;subst hp;exact T.av _ (Xa.2 rfl) W C' hC
 . intro p hp _;rw[Xa]at hp;subst hp;exact (show β.inn 0=[]from T.i0 (0,.arr _ _) (Xa.2 rfl) rfl)
 .
  intro p hp W I;rw[Xa]at hp;subst hp;rw[show β.inn 0=[]from T.i0 (0,.arr _ _) (Xa.2 rfl) rfl]at I
  cases I
 refine {nx:=Xc _,gh:=fun _ _=>rfl,gi:=fun _ _ _=>rfl,ids:=fun p hp=> .inl ?_,blk:=fun p hp W hC=> .inl ?_,os:=b1,tape:=b2,output:=⟨b3,fun _=>b4⟩,size:=ar,keep:=fun W aq cl=>ao W (fun e=>cl ?_) aq}
 . rw[Xa]at hp;subst hp;simp
 . rw[Xa]at hp;subst hp;exact⟨_,Xa.2 rfl,hC⟩
 subst e;exact q9f (Xa.2 rfl) hb
end
section
open Go Go.RowKit Go.Sort Go.Lib Go.Shelf
def zj6(xs:List Int):Option (List Int):=u7 (xs.length<4611686018427387904) (some (Lib.compact xs))
theorem zp6{P:Program}{ρ:Ren}(L:Lays2.n20 P ρ)(c4:q02 P (ρ.f 20)=true){xs r:List Int}(h:zj6 xs=some r):
 ba P (ρ.f 20) [.osl 0 1 0 xs.length] [(0,.arr 1 (enc xs))] 1 (.osl 0 1 0 r.length) [(0,.arr 1 (enc r))] 1:=by
 obtain⟨d1,h⟩:=q06 h;simp only[Xe]at h;have d0:r.length<=xs.length:=by rw[<-h];exact Lib.compact_length_le xs
 let ev:Int->List Value:=fun x=>[.int .i64 x]
 have b4:∀x:Int,Row.row x=(ev x).map AV.v:=fun _=>rfl;have hk:∀x:Int,(ev x).length=1:=fun _=>rfl;intro w β A vs hA G T d2;refine bx.of c4 ?_;have b5:=T.obj _ (Xa.2 rfl)
 match vs,G with
 |[u1],G=>
 simp only[y9,and_true]at G;have b6:=G;simp only[rep]at b6;have c5:=T.bB;rcases b6.2 with⟨hn,-,c6,rfl⟩|⟨b,C,cap,a,hb,rfl,bi,c7,ha⟩
 .
  have hx:xs=[]:=Xb c6;have hr:r=[]:=Xb (by omega);subst hx hr;refine (Any.slices_Compact_int_empty L none 0 w).mono ?_;rintro e w' ⟨rfl,rfl⟩;refine⟨_,_,_,_,β,rfl,⟨rfl,rfl,rfl⟩,?_,T,?_⟩
  . simp[rep,hn]
  exact {nx:=Xc _,gh:=fun _ _=>rfl,gi:=fun _ _ _=>rfl,ids:=fun p hp=> .inl (Xm hp),blk:=fun p hp b hb=> .inl ⟨p,hp,hb⟩,os:=rfl,tape:=rfl,output:=⟨rfl,fun _=>Xc _⟩,size:=Xc _,keep:=fun _ _ _=>rfl}
 have c8:a=⟨b,0,none⟩:=by
  rcases ha with rfl|⟨_,h0⟩
  . simp
  exact absurd rfl h0
 subst c8;have d3:=c5 _ (Xa.2 rfl) b (.inl ⟨C,hb⟩);rcases b5 with⟨h0,_⟩|⟨Z,C',cur,e,I,a6,bs,bv,c9,an⟩
 . simp only at h0;rw[hb]at h0;cases h0
 simp only at I;rw[hb]at I;simp only[Xe,Prod.mk.injEq]at I;obtain⟨rfl,rfl⟩:=I;have aj:=(z0t b4 hk xs 0).1 an;have hH:Holds (Value.int .i64) w b 0 xs.toArray:=by
  intro j hj;have cb:j<xs.length:=by simpa using hj
  have:=(aj j cb 0 (by simp[ev])).1;refine⟨?_,?_⟩
  . rw[show 0+j*1+0=0+j by omega]at this;rw[this,getElem!_pos xs.toArray j hj];simp[ev]
  unfold World.frozen?;rw[a6];simp
 have c0:=Any.slices_Compact_int L b 0 cap xs w hH (by omega) bi;rw[h]at c0;refine c0.mono ?_;rintro e' w' ⟨rfl,n,rfl⟩
 generalize c1:r++List.replicate (xs.length-r.length) (0:Int)=W
 have d4:W.length=xs.length:=by rw[<-c1];simp;omega
 have ak:(putRow (Value.int .i64) (Sort.ahead w n) b 0 W.toArray).heap[b]?=some (.cells (putCells (Value.int .i64) 0 W.toArray cur) e (0,0)):=by
  simp only[putRow,mapBlock];rw[Xd,if_pos rfl]
  show (w.heap[b]?).map _=_
  rw[a6];rfl
 have ao:∀Z,Z≠b->Z<w.heap.size->(putRow (Value.int .i64) (Sort.ahead w n) b 0 W.toArray).heap[Z]?=w.heap[Z]?:=fun Z cc c2=>by
  simp only[putRow,mapBlock];rw[Xd,if_neg (Ne.symm cc)];rfl
 have aq:w.heap.size<=(putRow (Value.int .i64) (Sort.ahead w n) b 0 W.toArray).heap.size:=by
  simp only[putRow,mapBlock,Xq];exact Xc _
 have ar:(putRow (Value.int .i64) (Sort.ahead w n) b 0 W.toArray).os=w.os:=rfl;have b1:(putRow (Value.int .i64) (Sort.ahead w n) b 0 W.toArray).tape=w.tape:=rfl;have b2:(putRow (Value.int .i64) (Sort.ahead w n) b 0 W.toArray).output=w.output:=rfl;have b3:w.drawn<=(putRow (Value.int .i64) (Sort.ahead w n) b 0 W.toArray).drawn:=Xh _ _
 revert ak ao aq ar b1 b2 b3
 generalize putRow (Value.int .i64) (Sort.ahead w n) b 0 W.toArray=S
 intro ak ao aq ar b1 b2 b3;refine⟨_,_,_,_,β,rfl,⟨rfl,rfl,rfl⟩,?_,⟨?_,?_,?_,?_,?_,?_,?_⟩,?_⟩
 . simp only[rep];exact⟨Xi,.inr ⟨b,C,cap,_,hb,rfl,by omega,c7,.inl (by simp)⟩⟩
 .
  intro p hp;rw[Xa]at hp;subst hp;refine .inr ⟨b,C,_,e,hb,ak,?_,?_,c9,?_⟩
  . simp only[putCells,Xr];exact bs
  . rw[q17]at bv⊢;omega
  refine (z0t b4 hk r 0).2 fun j hj i hi=>?_;have cd:i=0:=by simp[ev]at hi;exact hi
  subst cd;rw[q17]at bv;refine⟨?_,rfl⟩;unfold World.cell?;simp only[ak,Xo,Xp,if_false];rw[show 0+j*1+0=j by omega];have cl:j<cur.size:=by omega
  simp only[putCells,Xl,Xg cl,Xs,Nat.sub_zero,Nat.zero_add];have c3:j<W.length:=by omega
  rw[if_pos ⟨Nat.zero_le _,by simpa using c3⟩,getElem!_pos W.toArray j (by simpa using c3)];have:W[j]=r[j]:=by subst c1;rw[List.getElem_append_left hj]
  simp[ev,this]
 . intro p hp;rw[Xa]at hp;subst hp;exact Xi
 . simp
 . intro p hp q hq _ _ _ _ _;rw[Xa]at hp hq;rw[hp,hq]
 . intro p hp Z C' hC;rw[Xa]at hp;subst hp;exact T.av _ (Xa.2 rfl) Z C' hC
 . intro p hp _;rw[Xa]at hp;subst hp;exact (show β.inn 0=[]from T.i0 (0,.arr _ _) (Xa.2 rfl) rfl)
 .
  intro p hp Z I;rw[Xa]at hp;subst hp;rw[show β.inn 0=[]from T.i0 (0,.arr _ _) (Xa.2 rfl) rfl]at I
  cases I
 refine {nx:=Xc _,gh:=fun _ _=>rfl,gi:=fun _ _ _=>rfl,ids:=fun p hp=> .inl ?_,blk:=fun p hp Z hC=> .inl ?_,os:=ar,tape:=b1,output:=⟨b2,fun _=>b3⟩,size:=aq,keep:=fun Z c2 cp=>ao Z (fun e=>cp ?_) c2}
 . rw[Xa]at hp;subst hp;simp
 . rw[Xa]at hp;subst hp;exact⟨_,Xa.2 rfl,hC⟩
 subst e;exact q9f (Xa.2 rfl) hb
end
end Go.Proofs.YtomicnbiniapfaaGreat

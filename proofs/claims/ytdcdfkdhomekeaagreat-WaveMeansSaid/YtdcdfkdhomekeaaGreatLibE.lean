/-
  What the library of Go does to rows, told by the kit's contracts. No condition beyond those that each theorem names.
-/
import Derived.Test.YtdcdfkdhomekeaaGreatLibD
import Derived.Shelf.SlSortCmp.NoneTotal
import Derived.Shelf.Sort.Plain
import Derived.Shelf.Slices.CompactI
import Derived.Lib.RowBridge
import Derived.Shelf.Slices.In.SortNone
set_option linter.unusedSimpArgs false
set_option linter.unusedVariables false
set_option linter.unusedSectionVars false
open List renaming mem_singleton->Xa,eq_nil_of_length_eq_zero->Xb,getElem_cons_zero->Xj,getElem_cons_succ->Xk,mem_map_of_mem->Xm
open Nat renaming le_refl->Xc,le_add_right->Xh,zero_lt_one->Xi
open Array renaming getElem?_modify->Xd,getElem?_append_left->Xf,getElem?_eq_getElem->Xg,getElem?_mapIdx->Xl,size_modify->Xp,size_mapIdx->Xq
open Option renaming some.injEq->Xe,isSome_none->Xn,map_some->Xr
open Bool renaming false_eq_true->Xo
namespace Go.Proofs.YtdcdfkdhomekeaaGreat
section
open Go Go.RowKit Go.Sort Go.Lib Go.Shelf
theorem zo9{w:World}{β:aF}{ow:Nat->Prop}{b:Nat}:∀(l:List Value) (o:Nat),q4e w β ow b (l.map AV.v) o↔∀i (h:i<l.length),w.cell? ⟨b,o+i,none⟩=some l[i]/\l[i].oneCell'=true
 |[],o=>by simp[q4e]
 |a::l,o=>by
  simp only[List.map_cons,q4e,rep,zo9 l (o+1)]
  constructor
  .
   rintro⟨⟨u,c,d,rfl⟩,e⟩ i hi
   cases i with
   |zero=>exact⟨c,d⟩
   |succ i=>
    have:=e i (by simpa using hi);rw[show o+1+i=o+(i+1) by omega]at this;exact this
  intro h;refine⟨⟨a,(h 0 (by simp)).1,(h 0 (by simp)).2,rfl⟩,λi hi=>?_⟩;have:=h (i+1) (by simpa using hi);rw[show o+(i+1)=o+1+i by omega]at this;exact this
theorem qy0{α:Type}[Row α]{ev:α->List Value}(a:∀x,Row.row x=(ev x).map AV.v){k:Nat}(d:∀x,(ev x).length=k){w:World}{β:aF}{ow:Nat->Prop}{b:Nat}:
 ∀(xs:List α) (o:Nat),q0p w β ow k b (enc xs) o↔∀j (c:j<xs.length) i (hi:i<(ev xs[j]).length),w.cell? ⟨b,o+j*k+i,none⟩=some (ev xs[j])[i]/\(ev xs[j])[i].oneCell'=true
 |[],o=>by simp[q0p,enc]
 |x::xs,o=>by
  have e:=qy0 a d (w:=w) (β:=β) (ow:=ow) (b:=b) xs (o+k);simp only[enc]at e;simp only[enc,List.map_cons,q0p,a,List.length_map,d,true_and,e,zo9]
  constructor
  .
   rintro⟨f,g⟩ j c i hi
   cases j with
   |zero=>
    simp only[Nat.zero_mul,Nat.add_zero,Xj]at hi⊢;exact f i hi
   |succ j=>
    simp only[Xk]at hi⊢;have:=g j (by simpa using c) i hi;rw[show o+k+j*k+i=o+(j+1)*k+i by rw[Nat.add_mul];omega]at this;exact this
  intro h;refine⟨λi hi=>?_,λj c i hi=>?_⟩
  . have:=h 0 (by simp) i hi;simp only[Nat.zero_mul,Nat.add_zero,Xj]at this;exact this
  have:=h (j+1) (by simpa using c) i hi;simp only[Xk]at this;rw[show o+(j+1)*k+i=o+k+j*k+i by rw[Nat.add_mul];omega]at this;exact this
end
section
open Go Go.RowKit Go.Sort
end
section
open Go Go.RowKit Go.Sort Go.Lib Go.Shelf
def j3i(xs:List Int):Option (List Int):=x9 (xs.length<4611686018427387904) (some (xs.mergeSort λx y=>decide (x<=y)))
theorem zw1{P:Program}{ρ:Ren}(L:Lays.n189 P ρ)(V:u7 P (ρ.f 189)=true)(H:∀w,Calls P (ρ.f 189) #[.slice none 0 0] w λe w'=>e=.returned (.tuple #[])/\w'=w){xs r:List Int}(h:j3i xs=some r):
 bu P (ρ.f 189) [.osl 0 1 0 xs.length] [(0,.arr 1 (enc xs))] 1 (.tup []) [(0,.arr 1 (enc r))] 1:=by
 obtain⟨W,h⟩:=q07 h;simp only[Xe]at h;have s:r.length=xs.length:=by rw[<-h,List.length_mergeSort]
 let ev:Int->List Value:=λx=>[.int .i64 x]
 have I:∀x:Int,Row.row x=(ev x).map AV.v:=λ_=>rfl;have hk:∀x:Int,(ev x).length=1:=λ_=>rfl;intro w β A vs hA c g b3;refine cx.of V ?_;have J:=g.obj _ (Xa.2 rfl)
 match vs,c with
 |[u1],c=>
 simp only[y8,and_true]at c;have K:=c;simp only[rep]at K;have X:=g.cC;rcases K.2 with⟨hn,-,M,rfl⟩|⟨b,C,cap,a,hb,rfl,b2,b4,ha⟩
 .
  have hx:xs=[]:=Xb M;have hr:r=[]:=Xb (s.trans M);subst hx hr;refine (H w).mono ?_;rintro e w' ⟨rfl,rfl⟩;refine⟨_,_,_,_,β,rfl,⟨rfl,rfl,rfl⟩,?_,g,?_⟩
  . simp only[rep];exact⟨[],rfl,by simp only[y8]⟩
  exact {nx:=Xc _,gh:=λ_ _=>rfl,gi:=λ_ _ _=>rfl,ids:=λp hp=> .inl (Xm hp),blk:=λp hp b hb=> .inl ⟨p,hp,hb⟩,os:=rfl,tape:=rfl,output:=⟨rfl,λ_=>Xc _⟩,size:=Xc _,keep:=λ_ _ _=>rfl}
 have Y:a=⟨b,0,none⟩:=by
  rcases ha with rfl|⟨_,N⟩
  . simp
  exact absurd rfl N
 subst Y;have O:=X _ (Xa.2 rfl) b (.inl ⟨C,hb⟩);rcases J with⟨N,_⟩|⟨k,C',cur,e,d,l,Q,R,Z,t⟩
 . simp only at N;rw[hb]at N;cases N
 simp only at d;rw[hb]at d;simp only[Xe,Prod.mk.injEq]at d;obtain⟨rfl,rfl⟩:=d;have m:=(qy0 I hk xs 0).1 t;have hH:Holds (Value.int .i64) w b 0 xs.toArray:=by
  intro j T;have a6:j<xs.length:=by simpa using T
  have:=(m j a6 0 (by simp[ev])).1;refine⟨?_,?_⟩
  . rw[show 0+j*1+0=0+j by omega]at this;rw[this,getElem!_pos xs.toArray j T];simp[ev]
  unfold World.frozen?;rw[l];simp
 have U:=Any.slices_Sort_int L b 0 cap xs w hH O W;rw[h]at U;refine U.mono ?_;rintro e' w' ⟨rfl,n,os,rfl⟩;have o:(grow (putRow (Value.int .i64) (Sort.ahead w n) b 0 r.toArray) os).heap[b]?=some (.cells (putCells (Value.int .i64) 0 r.toArray cur) e (0,0)):=by
  simp only[grow,putRow,mapBlock];rw[Xf (by simpa using O),Xd,if_pos rfl]
  show (w.heap[b]?).map _=_
  rw[l];rfl
 have u:∀k,k≠b->k<w.heap.size->(grow (putRow (Value.int .i64) (Sort.ahead w n) b 0 r.toArray) os).heap[k]?=w.heap[k]?:=λk ao y=>by
  simp only[grow,putRow,mapBlock];rw[Xf (by simpa using y),Xd,if_neg (Ne.symm ao)];rfl
 have z:w.heap.size<=(grow (putRow (Value.int .i64) (Sort.ahead w n) b 0 r.toArray) os).heap.size:=by
  simp only[grow,putRow,mapBlock,Array.size_append,Xp];exact Xh _ _
 have B:(grow (putRow (Value.int .i64) (Sort.ahead w n) b 0 r.toArray) os).os=w.os:=rfl;have D:(grow (putRow (Value.int .i64) (Sort.ahead w n) b 0 r.toArray) os).tape=w.tape:=rfl;have E:(grow (putRow (Value.int .i64) (Sort.ahead w n) b 0 r.toArray) os).output=w.output:=rfl;have G:w.drawn<=(grow (putRow (Value.int .i64) (Sort.ahead w n) b 0 r.toArray) os).drawn:=Xh _ _
 revert o u z B D E G
 generalize grow (putRow (Value.int .i64) (Sort.ahead w n) b 0 r.toArray) os=S
 intro o u z B D E G;refine⟨_,_,_,_,β,rfl,⟨rfl,rfl,rfl⟩,?_,⟨?_,?_,?_,?_,?_,?_,?_⟩,?_⟩
 . simp only[rep];exact⟨[],rfl,by simp only[y8]⟩
 .
  intro p hp;rw[Xa]at hp;subst hp;refine .inr ⟨b,C,_,e,hb,o,?_,?_,Z,?_⟩
  . simp only[putCells,Xq];exact Q
  . rw[q1c,s,<-q1c];exact R
  refine (qy0 I hk r 0).2 λj T i hi=>?_;have ar:i=0:=by simp[ev]at hi;exact hi
  subst ar;rw[q1c]at R;refine⟨?_,rfl⟩;unfold World.cell?;simp only[o,Xn,Xo,if_false];rw[show 0+j*1+0=j by omega];have b0:j<cur.size:=by omega
  simp only[putCells,Xl,Xg b0,Xr,Nat.sub_zero,Nat.zero_add];rw[if_pos ⟨Nat.zero_le _,by simpa using T⟩,getElem!_pos r.toArray j (by simpa using T)];simp[ev]
 . intro p hp;rw[Xa]at hp;subst hp;exact Xi
 . simp
 . intro p hp q hq _ _ _ _ _;rw[Xa]at hp hq;rw[hp,hq]
 . intro p hp k C' hC;rw[Xa]at hp;subst hp;exact g.av _ (Xa.2 rfl) k C' hC
 . intro p hp _;rw[Xa]at hp;subst hp;exact (show β.inn 0=[]from g.i0 (0,.arr _ _) (Xa.2 rfl) rfl)
 .
  intro p hp k d;rw[Xa]at hp;subst hp;rw[show β.inn 0=[]from g.i0 (0,.arr _ _) (Xa.2 rfl) rfl]at d
  cases d
 refine {nx:=Xc _,gh:=λ_ _=>rfl,gi:=λ_ _ _=>rfl,ids:=λp hp=> .inl ?_,blk:=λp hp k hC=> .inl ?_,os:=B,tape:=D,output:=⟨E,λ_=>G⟩,size:=z,keep:=λk y b1=>u k (λe=>b1 ?_) y}
 . rw[Xa]at hp;subst hp;simp
 . rw[Xa]at hp;subst hp;exact⟨_,Xa.2 rfl,hC⟩
 subst e;exact q7p (Xa.2 rfl) hb
end
section
open Go Go.RowKit Go.Sort Go.Lib Go.Shelf
def zd6(xs:List Int):Option (List Int):=x9 (xs.length<4611686018427387904) (some (Lib.compact xs))
theorem zj0{P:Program}{ρ:Ren}(L:Lays2.n20 P ρ)(V:u7 P (ρ.f 20)=true){xs r:List Int}(h:zd6 xs=some r):
 bu P (ρ.f 20) [.osl 0 1 0 xs.length] [(0,.arr 1 (enc xs))] 1 (.osl 0 1 0 r.length) [(0,.arr 1 (enc r))] 1:=by
 obtain⟨b4,h⟩:=q07 h;simp only[Xe]at h;have b3:r.length<=xs.length:=by rw[<-h];exact Lib.compact_length_le xs
 let ev:Int->List Value:=λx=>[.int .i64 x]
 have G:∀x:Int,Row.row x=(ev x).map AV.v:=λ_=>rfl;have hk:∀x:Int,(ev x).length=1:=λ_=>rfl;intro w β A vs hA c g b5;refine cx.of V ?_;have H:=g.obj _ (Xa.2 rfl)
 match vs,c with
 |[u1],c=>
 simp only[y8,and_true]at c;have I:=c;simp only[rep]at I;have W:=g.cC;rcases I.2 with⟨hn,-,X,rfl⟩|⟨b,C,cap,a,hb,rfl,J,Y,ha⟩
 .
  have hx:xs=[]:=Xb X;have hr:r=[]:=Xb (by omega);subst hx hr;refine (Any.slices_Compact_int_empty L none 0 w).mono ?_;rintro e w' ⟨rfl,rfl⟩;refine⟨_,_,_,_,β,rfl,⟨rfl,rfl,rfl⟩,?_,g,?_⟩
  . simp[rep,hn]
  exact {nx:=Xc _,gh:=λ_ _=>rfl,gi:=λ_ _ _=>rfl,ids:=λp hp=> .inl (Xm hp),blk:=λp hp b hb=> .inl ⟨p,hp,hb⟩,os:=rfl,tape:=rfl,output:=⟨rfl,λ_=>Xc _⟩,size:=Xc _,keep:=λ_ _ _=>rfl}
 have Z:a=⟨b,0,none⟩:=by
  rcases ha with rfl|⟨_,K⟩
  . simp
  exact absurd rfl K
 subst Z;have b6:=W _ (Xa.2 rfl) b (.inl ⟨C,hb⟩);rcases H with⟨K,_⟩|⟨l,C',cur,e,d,m,M,N,a6,t⟩
 . simp only at K;rw[hb]at K;cases K
 simp only at d;rw[hb]at d;simp only[Xe,Prod.mk.injEq]at d;obtain⟨rfl,rfl⟩:=d;have o:=(qy0 G hk xs 0).1 t;have hH:Holds (Value.int .i64) w b 0 xs.toArray:=by
  intro j U;have ao:j<xs.length:=by simpa using U
  have:=(o j ao 0 (by simp[ev])).1;refine⟨?_,?_⟩
  . rw[show 0+j*1+0=0+j by omega]at this;rw[this,getElem!_pos xs.toArray j U];simp[ev]
  unfold World.frozen?;rw[m];simp
 have O:=Any.slices_Compact_int L b 0 cap xs w hH (by omega) J;rw[h]at O;refine O.mono ?_;rintro e' w' ⟨rfl,n,rfl⟩
 generalize Q:r++List.replicate (xs.length-r.length) (0:Int)=k
 have bc:k.length=xs.length:=by rw[<-Q];simp;omega
 have s:(putRow (Value.int .i64) (Sort.ahead w n) b 0 k.toArray).heap[b]?=some (.cells (putCells (Value.int .i64) 0 k.toArray cur) e (0,0)):=by
  simp only[putRow,mapBlock];rw[Xd,if_pos rfl]
  show (w.heap[b]?).map _=_
  rw[m];rfl
 have u:∀l,l≠b->l<w.heap.size->(putRow (Value.int .i64) (Sort.ahead w n) b 0 k.toArray).heap[l]?=w.heap[l]?:=λl ar R=>by
  simp only[putRow,mapBlock];rw[Xd,if_neg (Ne.symm ar)];rfl
 have y:w.heap.size<=(putRow (Value.int .i64) (Sort.ahead w n) b 0 k.toArray).heap.size:=by
  simp only[putRow,mapBlock,Xp];exact Xc _
 have z:(putRow (Value.int .i64) (Sort.ahead w n) b 0 k.toArray).os=w.os:=rfl;have B:(putRow (Value.int .i64) (Sort.ahead w n) b 0 k.toArray).tape=w.tape:=rfl;have D:(putRow (Value.int .i64) (Sort.ahead w n) b 0 k.toArray).output=w.output:=rfl;have E:w.drawn<=(putRow (Value.int .i64) (Sort.ahead w n) b 0 k.toArray).drawn:=Xh _ _
 revert s u y z B D E
 generalize putRow (Value.int .i64) (Sort.ahead w n) b 0 k.toArray=S
 intro s u y z B D E;refine⟨_,_,_,_,β,rfl,⟨rfl,rfl,rfl⟩,?_,⟨?_,?_,?_,?_,?_,?_,?_⟩,?_⟩
 . simp only[rep];exact⟨Xi,.inr ⟨b,C,cap,_,hb,rfl,by omega,Y,.inl (by simp)⟩⟩
 .
  intro p hp;rw[Xa]at hp;subst hp;refine .inr ⟨b,C,_,e,hb,s,?_,?_,a6,?_⟩
  . simp only[putCells,Xq];exact M
  . rw[q1c]at N⊢;omega
  refine (qy0 G hk r 0).2 λj U i hi=>?_;have b0:i=0:=by simp[ev]at hi;exact hi
  subst b0;rw[q1c]at N;refine⟨?_,rfl⟩;unfold World.cell?;simp only[s,Xn,Xo,if_false];rw[show 0+j*1+0=j by omega];have b1:j<cur.size:=by omega
  simp only[putCells,Xl,Xg b1,Xr,Nat.sub_zero,Nat.zero_add];have T:j<k.length:=by omega
  rw[if_pos ⟨Nat.zero_le _,by simpa using T⟩,getElem!_pos k.toArray j (by simpa using T)];have:k[j]=r[j]:=by subst Q;rw[List.getElem_append_left U]
  simp[ev,this]
 . intro p hp;rw[Xa]at hp;subst hp;exact Xi
 . simp
 . intro p hp q hq _ _ _ _ _;rw[Xa]at hp hq;rw[hp,hq]
 . intro p hp l C' hC;rw[Xa]at hp;subst hp;exact g.av _ (Xa.2 rfl) l C' hC
 . intro p hp _;rw[Xa]at hp;subst hp;exact (show β.inn 0=[]from g.i0 (0,.arr _ _) (Xa.2 rfl) rfl)
 .
  intro p hp l d;rw[Xa]at hp;subst hp;rw[show β.inn 0=[]from g.i0 (0,.arr _ _) (Xa.2 rfl) rfl]at d
  cases d
 refine {nx:=Xc _,gh:=λ_ _=>rfl,gi:=λ_ _ _=>rfl,ids:=λp hp=> .inl ?_,blk:=λp hp l hC=> .inl ?_,os:=z,tape:=B,output:=⟨D,λ_=>E⟩,size:=y,keep:=λl R b2=>u l (λe=>b2 ?_) R}
 . rw[Xa]at hp;subst hp;simp
 . rw[Xa]at hp;subst hp;exact⟨_,Xa.2 rfl,hC⟩
 subst e;exact q7p (Xa.2 rfl) hb
end
end Go.Proofs.YtdcdfkdhomekeaaGreat

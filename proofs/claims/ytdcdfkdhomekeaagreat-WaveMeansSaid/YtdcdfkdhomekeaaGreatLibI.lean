/-
  What slices.Insert and slices.Delete do to rows of whatever type, walked once over the shelf's bodies. No condition beyond those that each theorem names.
-/
import Derived.Test.YtdcdfkdhomekeaaGreatLibD
import Derived.Shelf.Bodies2
import Derived.Shelf.SlGeneric
import Derived.Shelf.RegionOpenPlain
import Derived.WalkKit
import Derived.Lib.Walk
import Derived.Lib.SliceRun
import Derived.Lib.JoinLaws
import Derived.Lib.AppendZeros
import Derived.Lib.AppendZerosOnto
import Derived.Lib.Overlaps
import Derived.Laws.Externs
import Derived.Laws.IdiomCopy
import Derived.Laws.NewBlocks
import Derived.Deep.RegionLaw
set_option linter.unusedSimpArgs false
set_option linter.unusedVariables false
set_option linter.unusedSectionVars false
set_option linter.unusedVariables false
set_option linter.unusedSimpArgs false
open Nat renaming le_refl->Xa,mul_le_mul_right->Xb,add_assoc->Xe,sub_mul->Xg,add_mul->Xi,zero_add->Xj,min_def->X3,min->X4,mul_pos->X7,le_succ->X8
open List renaming getElem?_eq_some_iff->Xc,getElem?_eq_getElem->Xd,mem_of_mem_drop->Xf,length_drop->Xh,replicate->Xk,mem_map_of_mem->Xl,getElem?_take->Xm,size_toArray->Xo,length_take->Xq,flatten_append->Xr,getElem?_drop->Xs,getElem?_append_right->Xt,getElem?_append_left->Xy,mem_map->Xz,mem_append->X0,mem_of_mem_take->X5,append_assoc->X6,nil_sublist->X9
open Int renaming eq_ofNat_of_zero_le->Xn,toNat_natCast->Xw
open Option renaming some.injEq->Xp
open Array renaming getElem?_append_left->Xu,size_append->Xv,getElem?_eq_getElem->Xx
namespace Go.Proofs.YtdcdfkdhomekeaaGreat
open Go Go.RowKit Go.Lib Go.Shelf
section
variable {P:Program} {ρ:Ren}
theorem z3v{k:Nat}(w:World)(n q ty elem:TypeId)(b o c e:Nat)(a:Addr)(d f:Nat)(cs:List Value)
 (s:P.underlying n=some (.slice elem))(p:(P.info? elem).map (·.size)=some k)(t:cs.length=X4 d c*k)
 (g:∀j v,cs[j]?=some v->w.cell? (a.add j)=some v)(u:∀j,j<cs.length->(w.cell? ⟨b,o+j,none⟩).isSome=true)(y:∀j,j<cs.length->w.frozen? ⟨b,o+j,none⟩=false)(z:∀v∈cs,v.oneCell'=true):
 (Builtin.copy_ #[n,q] ty #[.slice (some ⟨b,o,none⟩) c e,.slice (some a) d f]).run P w=.ok (goInt (X4 d c)) (w.setCells b o cs):=by
 have A:=run_loadCells_list (P:=P) w a cs g;have l:=run_storeCells_cells (P:=P) b o cs 0 w (by simpa using u) (by simpa using y) z
 cases m:P.info? elem with
 |none=>simp[m]at p
 |some i=>
  have hi:i.size=k:=by simpa [m]using p
  simp[Builtin.copy_,run_underlying s,Builtin.lenOf,Builtin.firstCells,sizeOf,typeInfo,m,hi,<-t,A,l]
theorem zu4(w:World){o:Oper}{a:Act}{K:Act->World->Prop}{Q:Exit->Act->World->Prop}(d s:Operand)(t b:TypeId)
 (e:o.op=.call {callee:=.builtin .copy,args:=#[d,s],argTypes:=#[t,b]})(v u:Value)(hd:a.eval d=v)(f:a.eval s=u){c:Value}{w':World}
 (g:(Builtin.copy_ #[t,b] o.type #[v,u]).run P w=.ok c w')(h:K (a.put o.dst c) w'):o.wp P a w K Q:=by
 unfold Oper.wp execOp;simp only[e,resolve,invoke,builtin,Sem.run_bind,Sem.run_pure,Result.andThen_ok,List.map_toArray,List.map_cons,List.map_nil,hd,f,g];exact h
theorem qu9(w:World){ops:Array Oper}{b:List Oper}{o:Oper}{a:Act}{Q:Exit->Act->World->Prop}(c:o.guard=none)(d s:Operand)(t e:TypeId)
 (g:o.op=.call {callee:=.builtin .copy,args:=#[d,s],argTypes:=#[t,e]})(v u:Value)(hd:a.eval d=v)(j:a.eval s=u){f:Value}{w':World}
 (k:(Builtin.copy_ #[t,e] o.type #[v,u]).run P w=.ok f w')(h:wpList P ops Q b (a.put o.dst f) w'):wpList P ops Q (o::b) a w:=
 wpList_plain c λ_ l=>zu4 w d s t e g v u hd j k (l _ _ h)
theorem z5h{ops:Array Oper}{o:Oper}{a:Act}{w:World}{K:Act->World->Prop}{Q:Exit->Act->World->Prop}{E:Prop}
 (g:o.guard=none)(d x:Operand)(c e:TypeId)(b:o.op=Op.call {callee:=Callee.builtin Builtin.copy,args:=#[d,x],argTypes:=#[c,e]})
 (v u:Value)(hd:a.eval d=v)(j:a.eval x=u){f:Value}{w':World}(k:(Builtin.copy_ #[c,e] o.type #[v,u]).run P w=.ok f w')(l:K (a.put o.dst f) w'):
 if Region.wanted o (yielded ops a.tmps)=true then Oper.wp P o a w K Q else E:=by
 have m:Region.wanted o (yielded ops a.tmps)=true:=by simp[Region.wanted,g]
 rw[if_pos m];unfold Oper.wp;simp[execOp,b,resolve,invoke,builtin,hd,j,k,Result.andThen];exact l
theorem qg5(b:Nat)(vs:List Value)(o:Nat)(w:World)(h:∀j,j<vs.length->(w.cell? ⟨b,o+j,none⟩).isSome=true)(k:Nat)(a:(w.cell? ⟨b,k,none⟩).isSome=true):((w.setCells b o vs).cell? ⟨b,k,none⟩).isSome=true:=by
 by_cases c:o<=k/\k<o+vs.length
 . have:=World.cell?_setCells_in b vs o w h (k-o) (by omega);rw[show o+(k-o)=k by omega]at this;rw[this];rfl
 rw[World.cell?_setCells_out b vs o w ⟨b,k,none⟩ (λ_ _=>by show k<o\/o+vs.length<=k;omega)];exact a
structure dN(P:Program)(ρ:Ren)(k bytes:Nat)(z:Value):Prop where
 mixed:P.follows .mixedOrders=true
 f22:Bears P (ρ.f 22) (Body2.n22 ρ)
 ov:∃fn,P.funcs[ρ.f 29]?=some fn/\(fn.name=="runtime.NumGoroutine")=false/\fn.body.isNone=true/\Extern.findNext fn=none/\Extern.find fn=some (Extern.SlicesOverlaps.overlaps #[ρ.t 24,ρ.t 24] #[ρ.t 4])
 t0:P.underlying (ρ.t 0)=some (TypeDesc.tuple #[])
 a0:∀w,(isAgg (ρ.t 0)).run P w=.ok false w
 z0:∀w,(Go.sizeOf (ρ.t 0)).run P w=.ok 1 w
 v0:∀w,(zeroValue (ρ.t 0)).run P w=.ok (Value.tuple #[]) w
 t3:P.underlying (ρ.t 3)=some (TypeDesc.int IntKind.i64)
 a3:∀w,(isAgg (ρ.t 3)).run P w=.ok false w
 z3:∀w,(Go.sizeOf (ρ.t 3)).run P w=.ok 1 w
 v3:∀w,(zeroValue (ρ.t 3)).run P w=.ok (Value.int IntKind.i64 0) w
 t4:P.underlying (ρ.t 4)=some (TypeDesc.bool)
 a4:∀w,(isAgg (ρ.t 4)).run P w=.ok false w
 z4:∀w,(Go.sizeOf (ρ.t 4)).run P w=.ok 1 w
 v4:∀w,(zeroValue (ρ.t 4)).run P w=.ok (Value.bool false) w
 z9:∀w,(Go.sizeOf (ρ.t 9)).run P w=.ok k w
 t24:P.underlying (ρ.t 24)=some (TypeDesc.slice (ρ.t 9))
 a24:∀w,(isAgg (ρ.t 24)).run P w=.ok false w
 z24:∀w,(Go.sizeOf (ρ.t 24)).run P w=.ok 1 w
 v24:∀w,(zeroValue (ρ.t 24)).run P w=.ok (Value.slice none 0 0) w
 i9:∃i,P.info? (ρ.t 9)=some i/\i.zero=some z/\i.size=k/\i.bytes=bytes
set_option maxHeartbeats 4000000 in
set_option maxRecDepth 100000 in
theorem j03{k bytes:Nat}{z:Value}(L:dN P ρ k bytes z)(b off n c i o a m vc:Nat)(cs vs:List Value)(w:World)(hk:0<k)(hi:i<n)(hm:0<m)(Q:n+m<=c)(bc:c<=9223372036854775807)(B:o≠b)
 (R:cs.length=n*k)(S:vs.length=m*k)
 (T:∀j v,cs[j]?=some v->w.cell? ⟨b,off+j,none⟩=some v)(u:∀j,j<(n+m)*k->(w.cell? ⟨b,off+j,none⟩).isSome=true)(C:∀j,j<(n+m)*k->w.frozen? ⟨b,off+j,none⟩=false)
 (U:∀j v,vs[j]?=some v->w.cell? ⟨o,a+j,none⟩=some v)(V:∀v∈cs,v.oneCell'=true)(X:∀v∈vs,v.oneCell'=true)
 (tA tB:TypeId)(Y Z:Nat)(a6:w.shape? o=some (tA,Y))(ao:w.shape? b=some (tB,Z))(ar:Z≠0)(b0:w.frozen? ⟨o,a,none⟩=false)(b1:w.frozen? ⟨o,Y,none⟩=false):
 Calls P (ρ.f 22) #[.slice (some ⟨b,off,none⟩) n c,.int .i64 i,.slice (some ⟨o,a,none⟩) m vc] w λe w'=>
  e=.returned (.slice (some ⟨b,off,none⟩) (n+m) c)/\w'=(w.drew.setCells b (off+(i+m)*k) (cs.drop (i*k))).setCells b (off+i*k) vs:=by
 have t0:=L.t0;have a0:=L.a0;have z0:=L.z0;have v0:=L.v0;have t3:=L.t3;have a3:=L.a3;have z3:=L.z3;have v3:=L.v3;have t4:=L.t4;have a4:=L.a4;have z4:=L.z4;have v4:=L.v4;have z9:=L.z9;have t24:=L.t24;have a24:=L.a24;have z24:=L.z24;have v24:=L.v24;have u0:=run_underlying L.t0;have u3:=run_underlying L.t3;have u4:=run_underlying L.t4;have bi:=run_underlying L.t24;have bk:¬((m:Int)=0):=by omega
 have bs:¬((i:Int)=(n:Int)):=by omega
 have y:(P.info? (ρ.t 9)).map (·.size)=some k:=by
  obtain⟨i0,b2,h0,h1,h2⟩:=L.i9;rw[b2];simp[h1]
 obtain⟨fo,D,E,G,H,I⟩:=L.ov;have b3:∀lb cb,(callFunc (ρ.f 29) #[.slice (some ⟨o,a,none⟩) m vc,.slice (some ⟨b,off+(i+m)*k,none⟩) lb cb]).run P w=.ok (.value (.bool false)) w:=λlb cb=>by
  rw[run_callFunc_extern D E G H I,
   Lib.run_overlaps_apart w (ρ.t 24) (ρ.t 4) (ρ.t 9) L.t24 k L.z9 ⟨o,a,none⟩ ⟨b,off+(i+m)*k,none⟩ m vc lb cb B tA tB Y Z a6 ao ar b0 b1]
  rfl
 clear I H G E D;have J:(cs.drop (i*k)).length=(n-i)*k:=by rw[Xh,R,Xg]
 have b4:(i+m)*k=i*k+m*k:=Xi _ _ _;have b5:(n+m)*k=n*k+m*k:=Xi _ _ _;have hle:i*k<=n*k:=Xb _ (by omega);have K:(n-i)*k=n*k-i*k:=Xg _ _ _;have mixed:=L.mixed;have bv:IntKind.i64.wrap ((i:Int)+(m:Int))=(i:Int)+(m:Int):=by rw[IntKind.wrap_i64];omega
 have c1:(0:Int)<=(i:Int)+(m:Int):=by omega
 have c2:i<=n:=by omega
 have c4:((i:Int)+(m:Int)).toNat=i+m:=by omega
 have c5:¬(c=i+m):=by omega
 have c6:(i:Int)<=(n:Int)+(m:Int):=by omega
 have c7:¬(c=i):=by omega
 have d:X4 (n+m-i) (n+m-(i+m))=n-i:=by simp only[X3];split<;>omega
 have g:X4 m (n+m-i)=m:=by simp only[X3];split<;>omega
 have q:∀ty A sc,(Builtin.copy_ #[(ρ.t 24),(ρ.t 24)] ty #[.slice (some ⟨b,off+(i+m)*k,none⟩) (n+m-(i+m)) A,.slice (some ⟨b,off+i*k,none⟩) (n+m-i) sc]).run P w.drew=.ok (goInt ((n-i:Nat):Int)) (w.drew.setCells b (off+(i+m)*k) (cs.drop (i*k))):=λty A sc=>by
  have:=z3v (k:=k) w.drew (ρ.t 24) (ρ.t 24) ty (ρ.t 9) b (off+(i+m)*k) (n+m-(i+m)) A ⟨b,off+i*k,none⟩ (n+m-i) sc (cs.drop (i*k)) L.t24 y (by rw[J,d])
   (λj v p=>by rw[Addr.add_lit,Xe];exact T (i*k+j) v (by rwa [Xs]at p))
   (λj p=>by rw[Xe];exact u _ (by omega)) (λj p=>by rw[Xe];exact C _ (by omega)) (λv hv=>V v (Xf hv))
  rw[d]at this;exact this
 obtain⟨M,l⟩:∃M,M=w.drew.setCells b (off+(i+m)*k) (cs.drop (i*k)):=⟨_,rfl⟩;have s:∀j,j<(n+m)*k->(M.cell? ⟨b,off+j,none⟩).isSome=true:=λj p=>by
  rw[l];exact qg5 b _ _ _ (λj p=>by rw[Xe];exact u _ (by omega)) _ (u j p)
 have N:∀(W:World),(∀x,W.cell? x=M.cell? x)->(∀x,W.frozen? x=M.frozen? x)->∀ty A,(Builtin.copy_ #[(ρ.t 24),(ρ.t 24)] ty #[.slice (some ⟨b,off+i*k,none⟩) (n+m-i) A,.slice (some ⟨o,a,none⟩) m vc]).run P W=.ok (goInt m) (W.setCells b (off+i*k) vs):=λW O b6 ty A=>by
  have:=z3v (k:=k) W (ρ.t 24) (ρ.t 24) ty (ρ.t 9) b (off+i*k) (n+m-i) A ⟨o,a,none⟩ m vc vs L.t24 y (by rw[S,g])
   (λj v p=>by
    rw[Addr.add_lit,O,l,World.cell?_setCells_out b _ _ _ _ (λh _=>absurd h B)];exact U j v p)
   (λj p=>by rw[O,Xe];exact s _ (by omega)) (λj p=>by rw[b6,l,World.frozen?_setCells,Xe];exact C _ (by omega)) X
  rw[g]at this;exact this
 rw[<-l]at q;clear y J b4 b5 hle K d g s;obtain⟨_,_,FG⟩:=L.f22
 go_enter FG,Body2.n22_ntmps ρ
 go_wp2_with (simp only[b3])
 go_region_law_o (refine z5h rfl _ _ (ρ.t 24) (ρ.t 24) rfl _ _ (by simp[Act.eval,Act.put]) (by simp[Act.eval,Act.put]) (q _ _ _) ?_)
 go_wp2_with (at_builtin;refine qu9 _ rfl _ _ (ρ.t 24) (ρ.t 24) rfl _ _ rfl rfl (N _ (λ_=>rfl) (λ_=>rfl) _ _) ?_)
 go_ret
 first|exact⟨rfl,rfl⟩|exact⟨rfl,by rw[l]⟩
set_option maxHeartbeats 4000000 in
set_option maxRecDepth 100000 in
theorem j4k{k bytes:Nat}{z:Value}(L:dN P ρ k bytes z)(base:Option Addr)(n c j b m vc:Nat)(w:World)(A:0<m)(o:n<=c)(g:base=none->n=0)
 {l:Value}{w1:World}(d:∀ty,(Builtin.append_ #[(ρ.t 24),(ρ.t 24)] ty #[.slice base n c,.slice (some ⟨j,b,none⟩) m vc]).run P w=.ok l w1):
 Calls P (ρ.f 22) #[.slice base n c,.int .i64 n,.slice (some ⟨j,b,none⟩) m vc] w λe w'=>e=.returned l/\w'=w1:=by
 have t0:=L.t0;have a0:=L.a0;have z0:=L.z0;have v0:=L.v0;have t3:=L.t3;have a3:=L.a3;have z3:=L.z3;have v3:=L.v3;have t4:=L.t4;have a4:=L.a4;have z4:=L.z4;have v4:=L.v4;have z9:=L.z9;have t24:=L.t24;have a24:=L.a24;have z24:=L.z24;have v24:=L.v24;have B:=run_underlying L.t0;have C:=run_underlying L.t3;have D:=run_underlying L.t4;have p:=run_underlying L.t24;have mixed:=L.mixed;have q:¬((m:Int)=0):=by omega
 obtain⟨_,_,s⟩:=L.f22
 go_enter s,Body2.n22_ntmps ρ
 cases base with
 |none=>
  have u:=g rfl;subst u
  go_wp2_with (at_builtin;refine Lib.wpList_append_run _ rfl _ _ _ _ rfl _ _ rfl rfl _ _ (d _) ?_)
  all_goals (go_ret;exact⟨rfl,rfl⟩)
 |some a=>
  obtain⟨ab,E,y⟩:=a
  go_wp2_with (at_builtin;refine Lib.wpList_append_run _ rfl _ _ _ _ rfl _ _ rfl rfl _ _ (d _) ?_)
  all_goals (go_ret;exact⟨rfl,rfl⟩)
set_option maxHeartbeats 4000000 in
set_option maxRecDepth 100000 in
theorem j1v{k bytes:Nat}{z:Value}(L:dN P ρ k bytes z)(b off n c i B l m vc:Nat)(cs vs:List Value)(w:World)(hk:0<k)(a6:z.cells.size=k)(hi:i<n)(hm:0<m)(c5:n<=c)(H:c<n+m)(C:(n+m)*bytes<=140737488355328)(q:n+m<=maxLen)
 (ao:cs.length=n*k)(ar:vs.length=m*k)
 (I:∀j v,cs[j]?=some v->w.cell? ⟨b,off+j,none⟩=some v)
 (Q:∀j v,vs[j]?=some v->w.cell? ⟨B,l+j,none⟩=some v)(b0:∀v∈cs,v.oneCell'=true)(b1:∀v∈vs,v.oneCell'=true):
 Calls P (ρ.f 22) #[.slice (some ⟨b,off,none⟩) n c,.int .i64 i,.slice (some ⟨B,l,none⟩) m vc] w λe w'=>
  e=.returned (.slice (some ⟨w.heap.size,0,none⟩) (n+m) (grownCap w (n+m) c (ρ.t 9)))/\
  w'=(((w.alloc (.cells ((cs.take (i*k)).toArray++Builtin.zeroCells z.cells (n+m-i)++Builtin.zeroCells z.cells (grownCap w (n+m) c (ρ.t 9)-(n+m))) (ρ.t 9))).drew.setCells w.heap.size (i*k) vs).drew).setCells w.heap.size ((i+m)*k) (cs.drop (i*k)):=by
 have t0:=L.t0;have a0:=L.a0;have z0:=L.z0;have v0:=L.v0;have t3:=L.t3;have a3:=L.a3;have z3:=L.z3;have v3:=L.v3;have t4:=L.t4;have a4:=L.a4;have z4:=L.z4;have v4:=L.v4;have z9:=L.z9;have t24:=L.t24;have a24:=L.a24;have z24:=L.z24;have v24:=L.v24;have u0:=run_underlying L.t0;have u3:=run_underlying L.t3;have u4:=run_underlying L.t4;have c6:=run_underlying L.t24;have mixed:=L.mixed;obtain⟨i0,R,b2,S,T⟩:=L.i9;have c7:¬((m:Int)=0):=by omega
 have c8:¬((i:Int)=(n:Int)):=by omega
 have c9:(c:Int)<(n:Int)+(m:Int):=by omega
 have J:(P.info? (ρ.t 9)).map (·.size)=some k:=by rw[R];simp[S]
 have b3:0<n*k:=X7 (by omega) hk;have b4:0<m*k:=X7 hm hk;have b5:b<w.heap.size:=block_lt_of_cell (I 0 _ (Xd (by omega)));have b6:B<w.heap.size:=block_lt_of_cell (Q 0 _ (Xd (by omega)));have U:(n:Int)+(m:Int)-(i:Int)=((n+m-i:Nat):Int):=by omega
 have K:i+(n+m-i)=n+m:=by omega
 have e1:(i+m)*k=i*k+m*k:=Xi _ _ _;have e2:(n+m)*k=n*k+m*k:=Xi _ _ _;have e3:i*k<=n*k:=Xb _ (by omega);have e4:(n-i)*k=n*k-i*k:=Xg _ _ _;have D:(Builtin.firstCells i0.size i (.slice (some ⟨b,off,none⟩) i c)).run P w.drew=.ok (cs.take (i*k)).toArray w.drew:=by
  rw[S];exact run_firstCells_some w.drew k i ⟨b,off,none⟩ i c (cs.take (i*k)) (by rw[Xq];omega) (λj v o=>by
   rw[Addr.add_lit];rw[Xm]at o
   split at o
   . exact I j v o
   cases o)
 have A:∀ty,(Builtin.append_ #[(ρ.t 24),(ρ.t 3)] ty #[.slice (some ⟨b,off,none⟩) i c,.int .i64 ((n:Int)+(m:Int)-(i:Int))]).run P w=
  .ok (.slice (some ⟨w.heap.size,0,none⟩) (n+m) (grownCap w (n+m) c (ρ.t 9))) (w.drew.alloc (.cells ((cs.take (i*k)).toArray++Builtin.zeroCells z.cells (n+m-i)++Builtin.zeroCells z.cells (grownCap w (n+m) c (ρ.t 9)-(n+m))) (ρ.t 9))):=λty=>by
  have cb:(n+m-i)*bytes<=140737488355328:=Nat.le_trans (Xb _ (by omega)) C;have h:=Lib.run_append_grow_zeros w (ρ.t 24) (ρ.t 3) ty (ρ.t 9) i0 _ .i64 .i64 L.t24 L.t3 R b2 (some ⟨b,off,none⟩) i c (cs.take (i*k)) D (n+m-i) (by omega) (by omega) (by omega) (by unfold maxLen at q;omega) (by rw[T];omega) (by rw[T,K];exact growslice_fits H C);rw[K]at h;rw[U];exact h
 obtain⟨G,hG⟩:∃G,G=grownCap w (n+m) c (ρ.t 9):=⟨_,rfl⟩;obtain⟨a,s⟩:∃a:Array Value,a=(cs.take (i*k)).toArray++Builtin.zeroCells z.cells (n+m-i)++Builtin.zeroCells z.cells (G-(n+m)):=⟨_,rfl⟩;rw[<-hG]at A⊢;rw[<-s]at A⊢;have bc:(n+m)*k<=a.size:=by
  rw[s];have:(n+m-i)*k=(n+m)*k-i*k:=Xg _ _ _;simp only[Xv,Xo,Xq,size_zeroCells,a6];omega
 obtain⟨y,p⟩:∃y,y=w.drew.alloc (.cells a (ρ.t 9)):=⟨_,rfl⟩;rw[<-p]at A;have hN:∀j,j<(n+m)*k->(y.cell? ⟨w.heap.size,j,none⟩).isSome=true:=λj o=>by
  rw[p,World.cell?_alloc_at (w:=w.drew) a _ w.heap.size j rfl,Xx (by omega)];rfl
 have M:∀j,y.frozen? ⟨w.heap.size,j,none⟩=false:=λj=>by rw[p];exact World.frozen?_alloc_at (w:=w.drew) a _ w.heap.size j rfl
 have V:∀j v,w.cell? ⟨b,j,none⟩=some v->y.cell? ⟨b,j,none⟩=some v:=λj v h=>by rw[p,World.cell?_alloc_past (w:=w.drew) _ b j b5];exact h
 have X:∀j v,w.cell? ⟨B,j,none⟩=some v->y.cell? ⟨B,j,none⟩=some v:=λj v h=>by rw[p,World.cell?_alloc_past (w:=w.drew) _ B j b6];exact h
 have d:X4 m (n+m-i)=m:=by simp only[X3];split<;>omega
 have g:X4 (n-i) (n+m-(i+m))=n-i:=by simp only[X3];split<;>omega
 have Y:∀(W:World),(∀x,W.cell? x=y.cell? x)->(∀x,W.frozen? x=y.frozen? x)->∀ty N,(Builtin.copy_ #[(ρ.t 24),(ρ.t 24)] ty #[.slice (some ⟨w.heap.size,i*k,none⟩) (n+m-i) N,.slice (some ⟨B,l,none⟩) m vc]).run P W=.ok (goInt m) (W.setCells w.heap.size (i*k) vs):=λW u O ty N=>by
  have:=z3v (k:=k) W (ρ.t 24) (ρ.t 24) ty (ρ.t 9) w.heap.size (i*k) (n+m-i) N ⟨B,l,none⟩ m vc vs L.t24 J (by rw[ar,d])
   (λj v o=>by rw[Addr.add_lit,u];exact X _ v (Q j v o))
   (λj o=>by rw[u];exact hN _ (by omega)) (λj o=>by rw[O];exact M _) b1
  rw[d]at this;exact this
 have cc:n+m<=G:=by rw[hG];exact grownCap_ge w _ _ _
 have c2:G<=9223372036854775807:=by
  have:=grownCap_le_maxLen w (n+m) c (ρ.t 9) q;rw[<-hG]at this;unfold maxLen at this;omega
 have cd:¬(G=i):=by omega
 have c4:¬(G=i+m):=by omega
 have cp:¬(c=i):=by omega
 have bi:b≠w.heap.size:=by omega
 have Z:(cs.drop (i*k)).length=(n-i)*k:=by rw[Xh,ao,e4]
 have E:∀(W:World),(∀x,W.cell? x=(y.setCells w.heap.size (i*k) vs).cell? x)->(∀x,W.frozen? x=(y.setCells w.heap.size (i*k) vs).frozen? x)->∀ty N sc,(Builtin.copy_ #[(ρ.t 24),(ρ.t 24)] ty #[.slice (some ⟨w.heap.size,(i+m)*k,none⟩) (n+m-(i+m)) N,.slice (some ⟨b,off+i*k,none⟩) (n-i) sc]).run P W=.ok (goInt ((n-i:Nat):Int)) (W.setCells w.heap.size ((i+m)*k) (cs.drop (i*k))):=λW u O ty N sc=>by
  have:=z3v (k:=k) W (ρ.t 24) (ρ.t 24) ty (ρ.t 9) w.heap.size ((i+m)*k) (n+m-(i+m)) N ⟨b,off+i*k,none⟩ (n-i) sc (cs.drop (i*k)) L.t24 J (by rw[Z,g])
   (λj v o=>by
    rw[Addr.add_lit,u,World.cell?_setCells_out w.heap.size _ _ _ _ (λh _=>absurd h bi),Xe];exact V _ v (I (i*k+j) v (by rwa [Xs]at o)))
   (λj o=>by rw[u];exact qg5 _ _ _ _ (λt ht=>hN _ (by omega)) _ (hN _ (by omega)))
   (λj o=>by rw[O,World.frozen?_setCells];exact M _) (λv hv=>b0 v (Xf hv))
  rw[g]at this;exact this
 subst p;have bk:∀x,((w.alloc (.cells a (ρ.t 9))).drew).cell? x=(w.drew.alloc (.cells a (ρ.t 9))).cell? x:=λx=>rfl;have bs:∀x,((w.alloc (.cells a (ρ.t 9))).drew).frozen? x=(w.drew.alloc (.cells a (ρ.t 9))).frozen? x:=λx=>rfl;have bv:∀x,(((w.alloc (.cells a (ρ.t 9))).drew.setCells w.heap.size (i*k) vs).drew).cell? x=((w.drew.alloc (.cells a (ρ.t 9))).setCells w.heap.size (i*k) vs).cell? x:=λx=>rfl;have c1:∀x,(((w.alloc (.cells a (ρ.t 9))).drew.setCells w.heap.size (i*k) vs).drew).frozen? x=((w.drew.alloc (.cells a (ρ.t 9))).setCells w.heap.size (i*k) vs).frozen? x:=λx=>rfl;have cz:IntKind.i64.wrap ((i:Int)+(m:Int))=(i:Int)+(m:Int):=by rw[IntKind.wrap_i64];unfold maxLen at q;omega
 have d0:IntKind.i64.wrap ((n:Int)+(m:Int))=(n:Int)+(m:Int):=by rw[IntKind.wrap_i64];unfold maxLen at q;omega
 have d1:IntKind.i64.wrap ((n:Int)+(m:Int)-(i:Int))=(n:Int)+(m:Int)-(i:Int):=by rw[IntKind.wrap_i64];unfold maxLen at q;omega
 have d2:(0:Int)<=(i:Int)+(m:Int):=by omega
 have d3:i<=n:=by omega
 have d4:((i:Int)+(m:Int)).toNat=i+m:=by omega
 have d5:(i:Int)<=(n:Int):=by omega
 clear U K D s hG bc e1 e2 e3 e4 Z d g b3 b4 J hN M V X;obtain⟨_,_,FG⟩:=L.f22
 go_enter FG,Body2.n22_ntmps ρ
 go_wp2_with (first
  |(at_builtin;refine Lib.wpList_append_run _ rfl _ _ _ _ rfl _ _ rfl rfl _ _ (A _) ?_)
  |(at_builtin;refine qu9 _ rfl _ _ (ρ.t 24) (ρ.t 24) rfl _ _ rfl rfl (Y _ bk bs _ _) ?_)
  |(at_builtin;refine qu9 _ rfl _ _ (ρ.t 24) (ρ.t 24) rfl _ _ rfl rfl (E _ (λ_=>rfl) (λ_=>rfl) _ _ _) ?_))
 go_region_law_o (refine z5h rfl _ _ (ρ.t 24) (ρ.t 24) rfl (.slice (some ⟨w.heap.size,(i+m)*k,none⟩) (n+m-(i+m)) (G-(i+m))) (.slice (some ⟨b,off+i*k,none⟩) (n-i) (c-i)) (by simp[Act.eval,Act.put]) (by simp[Act.eval,Act.put]) (E _ bv c1 (ρ.t 3) (G-(i+m)) (c-i)) ?_)
 go_wp2
 go_ret
 exact⟨rfl,rfl⟩
end
end Go.Proofs.YtdcdfkdhomekeaaGreat
set_option linter.unusedVariables false
set_option linter.unusedSimpArgs false
namespace Go.Proofs.YtdcdfkdhomekeaaGreat
open Go Go.RowKit Go.Lib Go.Shelf
section
variable {P:Program} {ρ:Ren}
def zl9{α:Type}(bytes:Nat)(xs:List α)(i:Int)(vs:List α):Option (List α):=
 x9 (0<=i/\i<=xs.length/\0<vs.length/\(xs.length+vs.length)*bytes<=140737488355328/\xs.length+vs.length<=maxLen) (some (xs.take i.toNat++vs++xs.drop i.toNat))
theorem q7n(b:Nat):∀(vs:List Value) (o:Nat) (w:World),(w.setCells b o vs).os=w.os/\(w.setCells b o vs).tape=w.tape/\(w.setCells b o vs).output=w.output/\(w.setCells b o vs).drawn=w.drawn/\(w.setCells b o vs).heap.size=w.heap.size/\∀k,k≠b->(w.setCells b o vs).heap[k]?=w.heap[k]?
 |[],_,w=>⟨rfl,rfl,rfl,rfl,rfl,λ_ _=>rfl⟩
 |v::r,o,w=>by
  obtain⟨c,d,e,f,g,j⟩:=q7n b r (o+1) (w.setCell ⟨b,o,none⟩ v);rw[World.setCells];refine⟨c,d,e,f,by rw[g];simp[World.setCell],λk a=>(j k a).trans ?_⟩;simp[World.setCell,Array.getElem?_modify,Ne.symm a]
theorem q8f(b:Nat):∀(vs:List Value) (o:Nat) (w:World) (cur:Array Value) (e:TypeId),w.heap[b]?=some (.cells cur e (0,0))->∃cur',(w.setCells b o vs).heap[b]?=some (.cells cur' e (0,0))/\cur'.size=cur.size
 |[],_,w,cur,e,h=>⟨cur,h,rfl⟩
 |v::r,o,w,cur,e,h=>by
  rw[World.setCells,setCell_eq_setRow w b o cur e (0,0) v h];obtain⟨cur',a,c⟩:=q8f b r (o+1) _ _ e (setRow_heap w b cur (cur.setIfInBounds o v) e (0,0) h);exact⟨cur',a,by rw[c];simp⟩
theorem qg2{w:World}{b:Nat}{cur:Array Value}{e:TypeId}(h:w.heap[b]?=some (.cells cur e (0,0))){j:Nat}(a:j<cur.size):(w.cell? ⟨b,j,none⟩).isSome=true:=by
 rw[cell_of_row w b j cur e (0,0) h,Xx a];rfl
theorem z4c{w:World}{b:Nat}{cur:Array Value}{e:TypeId}(h:w.heap[b]?=some (.cells cur e (0,0)))(j:Nat):w.frozen? ⟨b,j,none⟩=false:=by
 unfold World.frozen?;rw[h];simp
theorem eJ{w:World}{b:Nat}{A B D:List Value}(f:∀(j:Nat) (u:Value),A[j]?=some u->w.cell? ⟨b,j,none⟩=some u)(g:∀(j:Nat) (u:Value),B[j]?=some u->w.cell? ⟨b,A.length+j,none⟩=some u)
 (k:∀(j:Nat) (u:Value),D[j]?=some u->w.cell? ⟨b,A.length+B.length+j,none⟩=some u):∀(j:Nat) (u:Value),(A++B++D)[j]?=some u->w.cell? ⟨b,0+j,none⟩=some u:=by
 intro j u a;rw[Xj];rcases Nat.lt_or_ge j A.length with c|e
 . rw[X6,Xy c]at a;exact f j u a
 rw[X6,Xt e]at a;rcases Nat.lt_or_ge (j-A.length) B.length with c|d
 .
  rw[Xy c]at a;have:=g _ u a
  rwa [show A.length+(j-A.length)=j by omega]at this
 rw[Xt d]at a;have:=k _ u a
 rwa [show A.length+B.length+(j-A.length-B.length)=j by omega]at this
theorem zr4{f:FuncId}{B:Func}(h:Bears P f B)(hb:B.body.isSome=true):u7 P f=true:=by
 obtain⟨c,a,b⟩:=h;unfold u7;rw[b];simp only[a,hb,Bool.not_false,Bool.and_self]
theorem z9k{w w':World}{β:aF}{A:Nat->Prop}{hp:Hp}{n k:Nat}(N:∀b,A b->b<w.heap.size)(z:GS P w β hp)(B:b8 w β n A hp){xs:List (List AV)}{b C:Nat}{cur:Array Value}{e:TypeId}(D:w.heap.size<=w'.heap.size)(a:∀f,f<w.heap.size->f≠b->w'.heap[f]?=w.heap[f]?)
 (hb:b<w.heap.size->cn β hp b)(g:w'.heap[b]?=some (.cells cur e (0,0)))(E:cur.size=C*k)(G:xs.length<=C)(H:C<=maxLen){vs:List Value}(m:y8 w β 0 (own β hp A) xs.flatten vs)(I:∀r∈xs,r.length=k)(s:∀u∈vs,u.oneCell'=true)
 (l:∀(j:Nat) (u:Value),vs[j]?=some u->w'.cell? ⟨b,0+j,none⟩=some u)(O:w'.os=w.os)(Q:w'.tape=w.tape)(R:w'.output=w.output/\(dkF=true->w.drawn<=w'.drawn)){cap:Nat}(J:xs.length<=cap)(S:cap<=C):
 ∃β',rep w' β' (n+1) (own β' [(n,.arr k xs)] A) (.osl n k 0 xs.length) (.slice (some ⟨b,0,none⟩) xs.length cap)/\b8 w' β' (n+1) A [(n,.arr k xs)]/\Ext w β n hp w' β' (n+1) [(n,.arr k xs)]:=by
 have T:Rel (P:=P) ⟨w,β,n,hp,A,0⟩ ⟨n,[],hp,n,0⟩ {tmps:=#[],defers:=[]} w β:=
  {df:=rfl,nt:=rfl,ntc:=rfl,nb:=rfl,alt:=N,gs:=z,hp:=B,ext:={nx:=Xa _,gh:=λ_ _=>rfl,gi:=λ_ _ _=>rfl,ids:=λp hp'=> .inl (Xl hp'),blk:=λp hp' b d=> .inl ⟨p,hp',d⟩,os:=rfl,tape:=rfl,output:=⟨rfl,λ_=>Xa _⟩,size:=Xa _,keep:=λ_ _ _=>rfl},env:=λt=>by simp only[q17,rep]}
 have:=T.more (w':=w') (bc:=some (b,C)) (o:=.arr k xs) (hp1:=[]) (X9 _) D (λf K L=>a f K (λe=>L C (by rw[e]))) (λf c d y=>by
  simp only[Xp,Prod.mk.injEq]at d;rw[<-d.1]at y⊢;exact⟨hb y,by rintro⟨q,U,_⟩;cases U⟩) (λow' M=>by
  refine .inr ⟨b,C,cur,e,q1m _ _ _,g,E,G,H,?_⟩;refine q63 I ?_ s l;exact q1x M 0 0 (Xa _) (λ_ hi=>absurd hi (Nat.not_lt_zero _)) _ _ m) O Q R
 refine⟨upd β n (some (b,C)),?_,this.hp,this.ext⟩;simp only[rep];exact⟨Nat.lt_succ_self _,.inr ⟨b,C,cap,⟨b,0,none⟩,q1m _ _ _,rfl,J,by omega,.inl (by simp)⟩⟩
theorem jm8{t:TypeId}{k:Nat}{e:TypeId}{zs:List Value}{w:World}{β:aF}{A:Nat->Prop}{xs ys:List (List AV)}{n q:Value}(L:∀b,A b->b<w.heap.size)(z:GS P w β [(0,.arr k xs),(1,.arr k ys)])(B:b8 w β 2 A [(0,.arr k xs),(1,.arr k ys)])
 (M:rep w β 2 (own β [(0,.arr k xs),(1,.arr k ys)] A) (.osl 0 k 0 xs.length) n)(N:rep w β 2 (own β [(0,.arr k xs),(1,.arr k ys)] A) (.osl 1 k 0 ys.length) q)(O:aK P t=some e)(R:q1b P e=true)(u:szT P e=k)(S:q1s P e=some zs)(D:zs.length=k)
 (E:0<q26 P e)(g:(xs.length+ys.length)*q26 P e<=140737488355328):
 ∃v w' β',(∀ty,(Builtin.append_ #[t,t] ty #[n,q]).run P w=.ok v w')/\rep w' β' 3 (own β' [(2,.arr k (xs++ys))] A) (.osl 2 k 0 (xs.length+ys.length)) v/\b8 w' β' 3 A [(2,.arr k (xs++ys))]/\Ext w β 2 [(0,.arr k xs),(1,.arr k ys)] w' β' 3 [(2,.arr k (xs++ys))]:=by
 let o:Oper:={dst:=some 0,op:=.call {callee:=.builtin .append,args:=#[.tmp 0,.tmp 1],argTypes:=#[t,t]},type:=0,guard:=none,after:=#[],pos:=""}
 let C:Ctx P:=⟨w,β,2,[(0,.arr k xs),(1,.arr k ys)],A,2⟩
 let s:St:=⟨2,[(0,.osl 0 k 0 xs.length),(1,.osl 1 k 0 ys.length)],[(0,.arr k xs),(1,.arr k ys)],2,2⟩
 let a:Act:={tmps:=#[n,q],defers:=[]}
 have T:Rel C s a w β:=
  {df:=rfl,nt:=rfl,ntc:=rfl,nb:=rfl,alt:=L,gs:=z,hp:=B,ext:={nx:=Xa _,gh:=λ_ _=>rfl,gi:=λ_ _ _=>rfl,ids:=λp hp'=> .inl (Xl hp'),blk:=λp hp' b G=> .inl ⟨p,hp',G⟩,os:=rfl,tape:=rfl,output:=⟨rfl,λ_=>Xa _⟩,size:=Xa _,keep:=λ_ _ _=>rfl},env:=λj=>by
    match j with
    |0=>exact M
    |1=>exact N
    |j+2=>simp only[s,q17];rw[if_neg (by omega),if_neg (by omega)];simp only[rep]}
 have l:z0x s.hp (y9 s.env (.tmp 1)).st=some (k,ys,k=k/\0+ys.length<=ys.length):=by simp[s,y9,q17,AV.st,z0x,q0i]
 have c:=zn3 (P:=P) (K:=λs'=>s'=(⟨2,[(0,.osl 2 k 0 (xs.length+ys.length)),(0,.osl 0 k 0 xs.length),(1,.osl 1 k 0 ys.length)],[(2,.arr k (xs++ys)),(1,.arr k ys)],3,2⟩:St)) (Q:=λ_ _ _=>False) (szx:=k) (szy:=k) (xs:=xs) (ys:=ys) (ids:=[0]) T (o:=o) (x:=.tmp 0) (y:=.tmp 1) rfl rfl rfl rfl trivial trivial rfl ⟨rfl,rfl,rfl⟩
  l ⟨rfl,by simp⟩ O R S (by rw[D,u]) (.inr u.symm) (.inr u.symm) E g rfl (by rw[u];simp[o,s,St.put,q6d,q4n])
 have H:=z4j (P:=P) (a:=a) (w:=w) (o:=o) (x:=.tmp 0) (y:=.tmp 1) (ts:=[t,t]) rfl rfl rfl rfl rfl;unfold Oper.wp at c;rw[H]at c;have f:∀ty,(Builtin.append_ #[t,t] ty #[n,q]).run P w=(Builtin.append_ ⟨[t,t]⟩ o.type #[a.eval (.tmp 0),a.eval (.tmp 1)]).run P w:=λty=>rfl
 revert c f
 generalize (Builtin.append_ ⟨[t,t]⟩ o.type #[a.eval (.tmp 0),a.eval (.tmp 1)]).run P w=I
 intro c f
 cases I with
 |halt x w'=>cases x<;>exact c.elim
 |ok v w'=>
  obtain⟨s',β',m,rfl⟩:=c;have d:=m.sub (hp':=[(2,.arr k (xs++ys))]) (by simp);have J:=m.env 0;refine⟨v,w',β',f,?_,d.hp,d.ext⟩;simp only[q17,if_true]at J;simp only[rep]at J⊢;exact J
theorem j4l{k bytes:Nat}{z:Value}(L:dN P ρ k bytes z)(hb:(Body2.n22 ρ).body.isSome=true)(hT:q1b P (ρ.t 9)=true)(hk:0<k)(b1:z.cells.size=k)(dk:0<bytes){α:Type}[Row α](ex:Row.sz α=k)(b2:∀x:α,(Row.row x).length=k)
 {xs vs r:List α}{i:Int}(h:zl9 bytes xs i vs=some r):
 bu P (ρ.f 22) [.osl 0 k 0 xs.length,.v (.int .i64 i),.osl 1 k 0 vs.length] [(0,.arr k (enc xs)),(1,.arr k (enc vs))] 2 (.osl 2 k 0 r.length) [(2,.arr k (enc r))] 3:=by
 obtain⟨⟨g1,g2,g3,g4,g5⟩,h⟩:=q07 h;simp only[Xp]at h;obtain⟨d,rfl⟩:=Xn g1;rw[Xw]at h;have ds:d<=xs.length:=by omega
 have n:r.length=xs.length+vs.length:=by rw[<-h];simp;omega
 intro w β A us hA s J V;refine cx.of (zr4 L.f22 hb) ?_
 match us,s with
 |[u1,u2,u3],s=>
 simp only[y8,and_true]at s;obtain⟨r1,r2,r3⟩:=s;have dT:u2=.int .i64 d:=by simpa only[rep]using r2
 subst dT;obtain⟨i0,b3,e0,e4,e5⟩:=L.i9;have e6:aK P (ρ.t 24)=some (ρ.t 9):=by simp[aK,L.t24]
 have cb:szT P (ρ.t 9)=k:=by simp[szT,b3,e4]
 have Y:q26 P (ρ.t 9)=bytes:=by simp[q26,b3,e5]
 have b4:q1s P (ρ.t 9)=some z.cells.toList:=by simp[q1s,b3,e0]
 have eS:∀q∈enc xs,q.length=k:=by
  intro q hq;obtain⟨x,_,rfl⟩:=Xz.1 hq;exact b2 x
 have eX:∀q∈enc vs,q.length=k:=by
  intro q hq;obtain⟨x,_,rfl⟩:=Xz.1 hq;exact b2 x
 have hR:Rel (P:=P) ⟨w,β,2,[(0,.arr k (enc xs)),(1,.arr k (enc vs))],A,0⟩ ⟨2,[],[(0,.arr k (enc xs)),(1,.arr k (enc vs))],2,0⟩ {tmps:=#[],defers:=[]} w β:=
  {df:=rfl,nt:=rfl,ntc:=rfl,nb:=rfl,alt:=hA,gs:=V,hp:=J,ext:={nx:=Xa _,gh:=λ_ _=>rfl,gi:=λ_ _ _=>rfl,ids:=λp hp'=> .inl (Xl hp'),blk:=λp hp' b ea=> .inl ⟨p,hp',ea⟩,os:=rfl,tape:=rfl,output:=⟨rfl,λ_=>Xa _⟩,size:=Xa _,keep:=λ_ _ _=>rfl},env:=λt=>by simp only[q17,rep]}
 have b5:=r1;have cc:=r3;simp only[rep]at b5 cc;rcases cc.2 with⟨_,_,Z,_⟩|⟨vb,vC,N,va,cd,rfl,eb,eY,ef⟩
 . omega
 have cp:va=⟨vb,0,none⟩:=by
  rcases ef with rfl|⟨_,Z⟩
  . simp
  exact absurd rfl Z
 subst cp;obtain⟨a6,ve,g,v1,v2,v3,v4,v5,v6,v7,v8,v9⟩:=z0f hR (id:=1) (sz:=k) (xs:=enc vs) (by simp[q0i]) cd;rw[q1c]at v8 v3
 by_cases ao:d=xs.length
 .
  obtain⟨v,w',β',q1,q2,q3,q4⟩:=jm8 hA V J (by rw[q1c];exact r1) (by rw[q1c];exact r3) e6 hT cb b4 (by simpa using b1) (by rw[Y];exact dk) (by rw[q1c,q1c,Y];exact g4);have hr:enc xs++enc vs=enc r:=by rw[<-h,ao];simp[enc]
  rw[hr]at q2 q3 q4;rw[q1c,q1c,<-n]at q2;have ei:∃base c,u1=.slice base xs.length c/\xs.length<=c/\(base=none->xs.length=0):=by
   rcases b5.2 with⟨_,_,Z,rfl⟩|⟨b,C,cap,a,_,rfl,hc,_⟩
   . exact⟨none,0,by rw[Z],by omega,λ_=>Z⟩
   exact⟨some a,cap,rfl,hc,λh=>by cases h⟩
  obtain⟨base,c,rfl,hc,cz⟩:=ei;have:=j4k L base xs.length c vb 0 vs.length N w g3 hc cz q1;rw[ao];refine this.mono ?_;rintro e f7 ⟨rfl,rfl⟩;exact⟨v,_,_,_,β',rfl,⟨rfl,rfl,rfl⟩,q2,q3,q4⟩
 have d0:d<xs.length:=by omega
 rcases b5.2 with⟨_,_,Z,_⟩|⟨b,C,cap,a,W,rfl,d5,hC,ha⟩
 . omega
 have ek:a=⟨b,0,none⟩:=by
  rcases ha with rfl|⟨_,Z⟩
  . simp
  exact absurd rfl Z
 subst ek;obtain⟨cur,e,cs,c1,c2,c3,c4,c5,c6,c7,c8,c9⟩:=z0f hR (id:=0) (sz:=k) (xs:=enc xs) (by simp[q0i]) W;rw[q1c]at c8 c3;have eo:vb≠b:=λhx=>by
  subst hx;have:=J.inj (1,.arr k (enc vs)) (by simp) (0,.arr k (enc xs)) (by simp) vb vC C cd W
  cases this
 have b6:∀j v,cs[j]?=some v->w.cell? ⟨b,0+j,none⟩=some v:=λj v o=>by
  rw[Xj,cell_of_row w b j cur e (0,0) c1];simpa using c9 j v o
 have d6:∀j v,g[j]?=some v->w.cell? ⟨vb,0+j,none⟩=some v:=λj v o=>by
  rw[Xj,cell_of_row w vb j a6 ve (0,0) v1];simpa using v9 j v o
 have f8:=J.blt (0,.arr k (enc xs)) (by simp) b C W;have bc:enc r=(enc xs).take d++enc vs++(enc xs).drop d:=by rw[<-h];simp[enc]
 have ar:y8 w β 0 (own β [(0,.arr k (enc xs)),(1,.arr k (enc vs))] A) (enc r).flatten (cs.take (d*k)++g++cs.drop (d*k)):=by
  rw[bc,Xr,Xr,qx1 d c5,z4e d c5];exact q5x (q5x (q6r c6 _) v6) (q7z c6 _)
 have b0:∀u∈cs.take (d*k)++g++cs.drop (d*k),u.oneCell'=true:=by
  intro u X;rcases X0.1 X with X|X
  .
   rcases X0.1 X with X|X
   . exact c7 u (X5 X)
   exact v7 u X
  exact c7 u (Xf X)
 have d7:∀q∈enc r,q.length=k:=by
  intro q hq;obtain⟨x,_,rfl⟩:=Xz.1 hq;exact b2 x
 have k1:(d+vs.length)*k=d*k+vs.length*k:=Xi _ _ _;have k2:(xs.length+vs.length)*k=xs.length*k+vs.length*k:=Xi _ _ _;have k3:d*k<=xs.length*k:=Xb _ ds;have B:(cs.take (d*k)).length=d*k:=by rw[Xq];omega
 by_cases O:xs.length+vs.length<=cap
 .
  have et:(xs.length+vs.length)*k<=cur.size:=by rw[c2];exact Xb _ (by omega)
  have D:=j03 L b 0 xs.length cap d vb 0 vs.length N cs g w hk d0 g3 O (by unfold maxLen at c4;omega) eo c8 v8 b6 (λj o=>by rw[Xj];exact qg2 c1 (by omega)) (λj _=>z4c c1 _) d6 c7 v7
   ve e a6.size cur.size (by unfold World.shape?;rw[v1]) (by unfold World.shape?;rw[c1]) (by have:=X7 (by omega:0<xs.length+vs.length) hk;omega) (z4c v1 _) (z4c v1 _)
  refine D.mono ?_;rintro e' w' ⟨rfl,rfl⟩;obtain⟨f1,f2,f3,f4,f5,f6⟩:=q7n b (cs.drop (d*k)) (0+(d+vs.length)*k) w.drew;obtain⟨m1,m2,m3,m4,m5,m6⟩:=q7n b g (0+d*k) (w.drew.setCells b (0+(d+vs.length)*k) (cs.drop (d*k)));obtain⟨Q,d1,d2⟩:=q8f b (cs.drop (d*k)) (0+(d+vs.length)*k) w.drew cur e c1;obtain⟨R,d3,d4⟩:=q8f b g (0+d*k) _ Q e d1;have er:(cs.drop (d*k)).length=xs.length*k-d*k:=by rw[Xh,c8]
  have E:∀(j:Nat) (u:Value),(cs.take (d*k)++g++cs.drop (d*k))[j]?=some u->((w.drew.setCells b (0+(d+vs.length)*k) (cs.drop (d*k))).setCells b (0+d*k) g).cell? ⟨b,0+j,none⟩=some u:=by
   refine eJ (λj u o=>?_) (λj u o=>?_) (λj u o=>?_)
   .
    have l:j<d*k:=by
     have:=(Xc.1 o).1;omega
    rw[World.cell?_setCells_out b _ _ _ _ (λ_ _=>by left;show j<_;omega),World.cell?_setCells_out b _ _ _ _ (λ_ _=>by left;show j<_;omega)];rw[Xm,if_pos l]at o;have:=b6 j u o;rw[Xj]at this;exact this
   .
    have l:j<g.length:=(Xc.1 o).1;rw[B,show d*k+j=0+d*k+j by omega,World.cell?_setCells_in b g (0+d*k) _ (λt ht=>by
     refine qg5 b _ _ _ (λt' f9=>?_) _ ?_
     . exact qg2 (w:=w.drew) c1 (by omega)
     exact qg2 (w:=w.drew) c1 (by omega)) j l]
    rw[Xd l]at o;exact o
   have l:j<(cs.drop (d*k)).length:=(Xc.1 o).1;rw[B,v8,World.cell?_setCells_out b g _ _ _ (λ_ _=>by right;show _<=d*k+vs.length*k+j;omega),show d*k+vs.length*k+j=0+(d+vs.length)*k+j by omega,
    World.cell?_setCells_in b (cs.drop (d*k)) (0+(d+vs.length)*k) _ (λt ht=>qg2 (w:=w.drew) c1 (by omega)) j l]
   rw[Xd l]at o;exact o
  obtain⟨β',q1,q2,q3⟩:=z9k (k:=k) hA V J (xs:=enc r) (b:=b) (C:=C) (cur:=R) (e:=e) (w':=(w.drew.setCells b (0+(d+vs.length)*k) (cs.drop (d*k))).setCells b (0+d*k) g) (by rw[m5,f5];exact Xa _) (λM _ K=>(m6 M K).trans (f6 M K)) (λ_=>q7p (p:=(0,.arr k (enc xs))) (by simp) W) d3 (by rw[d4,d2];exact c2) (by rw[q1c,n];omega) c4 ar d7 b0 E (by rw[m1,f1];rfl) (by rw[m2,f2];rfl) ⟨by rw[m3,f3];rfl,λ_=>by rw[m4,f4];exact X8 _⟩ (cap:=cap) (by rw[q1c,n];exact O) (by omega);rw[q1c]at q1;exact⟨_,_,_,_,β',by rw[n],⟨rfl,rfl,rfl⟩,q1,q2,q3⟩
 have D:=j1v L b 0 xs.length cap d vb 0 vs.length N cs g w hk b1 d0 g3 d5 (by omega) g4 g5 c8 v8 b6 d6 c7 v7;refine D.mono ?_;rintro e' w' ⟨rfl,rfl⟩;have S:xs.length+vs.length<=grownCap w (xs.length+vs.length) cap (ρ.t 9):=grownCap_ge w _ _ _;have bi:grownCap w (xs.length+vs.length) cap (ρ.t 9)<=maxLen:=grownCap_le_maxLen w _ _ _ g5
 revert S bi
 generalize grownCap w (xs.length+vs.length) cap (ρ.t 9)=G
 intro S bi;obtain⟨m,T⟩:∃m:Array Value,m=(cs.take (d*k)).toArray++Builtin.zeroCells z.cells (xs.length+vs.length-d)++Builtin.zeroCells z.cells (G-(xs.length+vs.length)):=⟨_,rfl⟩;rw[<-T];have d8:m.size=G*k:=by
  rw[T];have e1:(xs.length+vs.length-d)*k=(xs.length+vs.length)*k-d*k:=Xg _ _ _;have e2:(G-(xs.length+vs.length))*k=G*k-(xs.length+vs.length)*k:=Xg _ _ _;have e3:(xs.length+vs.length)*k<=G*k:=Xb _ S;simp only[Xv,Xo,B,size_zeroCells,b1];omega
 have es:∀j,j<d*k->m[j]?=cs[j]?:=λj o=>by
  rw[T,Xu (by simp only[Xv,Xo,B];omega),Xu (by simp only[Xo,B];omega),List.getElem?_toArray,Xm,if_pos o]
 have fd:(xs.length+vs.length)*k<=m.size:=by rw[d8];exact Xb _ S
 have y:(w.alloc (.cells m (ρ.t 9))).drew.heap[w.heap.size]?=some (.cells m (ρ.t 9) (0,0)):=heap_alloc_new w _;have U:(w.alloc (.cells m (ρ.t 9))).drew.heap.size=w.heap.size+1:=by show (w.alloc _).heap.size=_;simp
 have H:∀M,M<w.heap.size->(w.alloc (.cells m (ρ.t 9))).drew.heap[M]?=w.heap[M]?:=λM K=>Below.heap_alloc w _ M K
 revert y U H
 have bk:(w.alloc (.cells m (ρ.t 9))).drew.os=w.os:=rfl;have bs:(w.alloc (.cells m (ρ.t 9))).drew.tape=w.tape:=rfl;have bv:(w.alloc (.cells m (ρ.t 9))).drew.output=w.output:=rfl;have dc:w.drawn<=(w.alloc (.cells m (ρ.t 9))).drew.drawn:=X8 _
 revert bk bs bv dc
 generalize (w.alloc (.cells m (ρ.t 9))).drew=I
 intro bk bs bv dc y U H;obtain⟨f1,f2,f3,f4,f5,f6⟩:=q7n w.heap.size g (d*k) I;obtain⟨Q,d1,d2⟩:=q8f w.heap.size g (d*k) I m (ρ.t 9) y;obtain⟨m1,m2,m3,m4,m5,m6⟩:=q7n w.heap.size (cs.drop (d*k)) ((d+vs.length)*k) (I.setCells w.heap.size (d*k) g).drew;obtain⟨R,d3,d4⟩:=q8f w.heap.size (cs.drop (d*k)) ((d+vs.length)*k) (I.setCells w.heap.size (d*k) g).drew Q (ρ.t 9) d1;have er:(cs.drop (d*k)).length=xs.length*k-d*k:=by rw[Xh,c8]
 have E:∀(j:Nat) (u:Value),(cs.take (d*k)++g++cs.drop (d*k))[j]?=some u->((I.setCells w.heap.size (d*k) g).drew.setCells w.heap.size ((d+vs.length)*k) (cs.drop (d*k))).cell? ⟨w.heap.size,0+j,none⟩=some u:=by
  refine eJ (λj u o=>?_) (λj u o=>?_) (λj u o=>?_)
  .
   have l:j<d*k:=by
    have:=(Xc.1 o).1;omega
   rw[World.cell?_setCells_out w.heap.size _ _ _ _ (λ_ _=>by left;show j<_;omega)]
   show (I.setCells w.heap.size (d*k) g).cell? _=_
   rw[World.cell?_setCells_out w.heap.size _ _ _ _ (λ_ _=>by left;show j<_;omega),cell_of_row I w.heap.size j m (ρ.t 9) (0,0) y,es j l]
   rwa [Xm,if_pos l]at o
  .
   have l:j<g.length:=(Xc.1 o).1;rw[B,World.cell?_setCells_out w.heap.size _ _ _ _ (λ_ _=>by left;show d*k+j<_;omega)]
   show (I.setCells w.heap.size (d*k) g).cell? _=_
   rw[World.cell?_setCells_in w.heap.size g (d*k) _ (λt ht=>qg2 y (by omega)) j l];rw[Xd l]at o;exact o
  have l:j<(cs.drop (d*k)).length:=(Xc.1 o).1;rw[B,v8,show d*k+vs.length*k+j=(d+vs.length)*k+j by omega,
   World.cell?_setCells_in w.heap.size (cs.drop (d*k)) ((d+vs.length)*k) _ (λt ht=>by
    show ((I.setCells w.heap.size (d*k) g).cell? _).isSome=true
    exact qg2 d1 (by rw[d2];omega)) j l]
  rw[Xd l]at o;exact o
 obtain⟨β',q1,q2,q3⟩:=z9k (k:=k) hA V J (xs:=enc r) (b:=w.heap.size) (C:=G) (cur:=R) (e:=ρ.t 9) (w':=(I.setCells w.heap.size (d*k) g).drew.setCells w.heap.size ((d+vs.length)*k) (cs.drop (d*k))) (by rw[m5];show _<=(I.setCells w.heap.size (d*k) g).heap.size;rw[f5,U];omega) (λM K dd=>(m6 M dd).trans ((f6 M dd).trans (H M K))) (λhx=>absurd hx (Nat.lt_irrefl _)) d3 (by rw[d4,d2,d8]) (by rw[q1c,n];omega) bi ar d7 b0 E (by rw[m1];show (I.setCells w.heap.size (d*k) g).os=_;rw[f1];exact bk) (by rw[m2];show (I.setCells w.heap.size (d*k) g).tape=_;rw[f2];exact bs) ⟨by rw[m3];show (I.setCells w.heap.size (d*k) g).output=_;rw[f3];exact bv,λ_=>by rw[m4];show _<=(I.setCells w.heap.size (d*k) g).drawn+1;rw[f4];omega⟩ (cap:=G) (by rw[q1c,n];exact S) (Xa _);rw[q1c]at q1;exact⟨_,_,_,_,β',by rw[n],⟨rfl,rfl,rfl⟩,q1,q2,q3⟩
end
end Go.Proofs.YtdcdfkdhomekeaaGreat
set_option linter.unusedVariables false
set_option linter.unusedSimpArgs false
namespace Go.Proofs.YtdcdfkdhomekeaaGreat
open Go Go.RowKit Go.Lib Go.Shelf
section
variable {P:Program} {ρ:Ren}
structure dy(P:Program)(ρ:Ren)(k:Nat)(z:Value):Prop where
 mixed:P.follows .mixedOrders=true
 f24:Bears P (ρ.f 24) (Body2.n24 ρ)
 t0:P.underlying (ρ.t 0)=some (TypeDesc.tuple #[])
 a0:∀w,(isAgg (ρ.t 0)).run P w=.ok false w
 z0:∀w,(Go.sizeOf (ρ.t 0)).run P w=.ok 1 w
 v0:∀w,(zeroValue (ρ.t 0)).run P w=.ok (Value.tuple #[]) w
 t3:P.underlying (ρ.t 3)=some (TypeDesc.int IntKind.i64)
 a3:∀w,(isAgg (ρ.t 3)).run P w=.ok false w
 z3:∀w,(Go.sizeOf (ρ.t 3)).run P w=.ok 1 w
 v3:∀w,(zeroValue (ρ.t 3)).run P w=.ok (Value.int IntKind.i64 0) w
 t4:P.underlying (ρ.t 4)=some (TypeDesc.bool)
 a4:∀w,(isAgg (ρ.t 4)).run P w=.ok false w
 z4:∀w,(Go.sizeOf (ρ.t 4)).run P w=.ok 1 w
 v4:∀w,(zeroValue (ρ.t 4)).run P w=.ok (Value.bool false) w
 z9:∀w,(Go.sizeOf (ρ.t 9)).run P w=.ok k w
 v9:∀w,(zeroValue (ρ.t 9)).run P w=.ok z w
 t24:P.underlying (ρ.t 24)=some (TypeDesc.slice (ρ.t 9))
 a24:∀w,(isAgg (ρ.t 24)).run P w=.ok false w
 z24:∀w,(Go.sizeOf (ρ.t 24)).run P w=.ok 1 w
 v24:∀w,(zeroValue (ρ.t 24)).run P w=.ok (Value.slice none 0 0) w
 i9:∃i,P.info? (ρ.t 9)=some i/\i.zero=some z/\i.size=k
theorem j3k{k:Nat}(w:World)(t e ty:TypeId)(z:Value)(q:P.underlying t=some (.slice e))(s:∀w,(zeroValue e).run P w=.ok z w)(l:z.cells.size=k)(y:0<k)(A:∀u∈z.cells.toList,u.oneCell'=true)(b o n c:Nat)(E:0<n)
 (B:∀j,j<n*k->(w.cell? ⟨b,o+j,none⟩).isSome=true)(C:∀j,j<n*k->w.frozen? ⟨b,o+j,none⟩=false):
 (Builtin.clear_ #[t] ty #[.slice (some ⟨b,o,none⟩) n c]).run P w=.ok (.tuple #[]) (w.setCells b o (Xk n z.cells.toList).flatten):=by
 have p:((Xk n z.cells.toList).flatten).length=n*k:=by
  rw[List.length_flatten];simp only[List.map_replicate,Array.length_toList,l,List.sum_replicate_nat]
 have a:=run_storeCells_cells (P:=P) b o (Xk n z.cells.toList).flatten 0 w (by rw[p];simpa using B) (by rw[p];simpa using C) (by
  intro u D;obtain⟨G,f,d⟩:=List.mem_flatten.1 D;rw[List.eq_of_mem_replicate f]at d;exact A u d)
 simp only[Nat.add_zero]at a;have g:=z5e (z:=z) (by simpa [l]using y) n;obtain⟨m,rfl⟩:∃m,n=m+1:=⟨n-1,by omega⟩;simp[Builtin.clear_,run_underlying q,s,g,a]
set_option maxHeartbeats 4000000 in
set_option maxRecDepth 1000000 in
theorem za7{k:Nat}{z:Value}(L:dy P ρ k z)(base:Option Addr)(n cap i:Nat)(w:World)(b:n<=cap)(g:cap<=9223372036854775807)(hi:i<=n):
 Calls P (ρ.f 24) #[.slice base n cap,.int .i64 i,.int .i64 i] w λe w'=>e=.returned (.slice base n cap)/\w'=w:=by
 have mixed:=L.mixed;have t0:=L.t0;have a0:=L.a0;have z0:=L.z0;have v0:=L.v0;have t3:=L.t3;have a3:=L.a3;have z3:=L.z3;have v3:=L.v3;have t4:=L.t4;have a4:=L.a4;have z4:=L.z4;have v4:=L.v4;have z9:=L.z9;have t24:=L.t24;have a24:=L.a24;have z24:=L.z24;have v24:=L.v24;obtain⟨_,_,c⟩:=L.f24
 go_enter c,Body2.n24_ntmps ρ
 cases base with
 |none=>
  go_wp2
  all_goals (go_ret;exact⟨rfl,rfl⟩)
 |some a=>
  obtain⟨ab,j,d⟩:=a
  go_wp2
  all_goals (go_ret;exact⟨rfl,rfl⟩)
set_option maxHeartbeats 4000000 in
set_option maxRecDepth 1000000 in
theorem j0p{k:Nat}{z:Value}(L:dy P ρ k z)(O:0<k)(q:z.cells.size=k)(s:∀u∈z.cells.toList,u.oneCell'=true)(b off n cap i j:Nat)(cs:List Value)(w:World)(y:cs.length=n*k)(B:∀t v,cs[t]?=some v->w.cell? ⟨b,off+t,none⟩=some v)(C:∀v∈cs,v.oneCell'=true)
 (g:∀t,t<n*k->(w.cell? ⟨b,off+t,none⟩).isSome=true)(m:∀t,t<n*k->w.frozen? ⟨b,off+t,none⟩=false)(K:n<=cap)(hm:cap<=9223372036854775807)(Q:i<j)(R:j<=n):
 Calls P (ρ.f 24) #[.slice (some ⟨b,off,none⟩) n cap,.int .i64 i,.int .i64 j] w λe w'=>e=.returned (.slice (some ⟨b,off,none⟩) (i+(n-j)) cap)/\
  w'=(w.drew.setCells b (off+i*k) (cs.drop (j*k))).setCells b (off+(i+(n-j))*k) (Xk (n-(i+(n-j))) z.cells.toList).flatten:=by
 have mixed:=L.mixed;have t0:=L.t0;have a0:=L.a0;have z0:=L.z0;have v0:=L.v0;have t3:=L.t3;have a3:=L.a3;have z3:=L.z3;have v3:=L.v3;have t4:=L.t4;have a4:=L.a4;have z4:=L.z4;have v4:=L.v4;have z9:=L.z9;have t24:=L.t24;have a24:=L.a24;have z24:=L.z24;have v24:=L.v24;obtain⟨i0,G,H,I⟩:=L.i9;have S:j*k<=n*k:=Xb _ R;have M:(n-j)*k=n*k-j*k:=Xg _ _ _;have T:(i+(n-j))*k=i*k+(n-j)*k:=Xi _ _ _;have U:(i+(n-j))*k<=n*k:=Xb _ (by omega);have V:(n-(i+(n-j)))*k=n*k-(i+(n-j))*k:=Xg _ _ _;obtain⟨news,a⟩:∃news,news=cs.drop (j*k):=⟨_,rfl⟩;have c:news.length=(n-j)*k:=by rw[a,Xh,y,M]
 obtain⟨A,hA,D⟩:∃A:Addr,(if cap=j then some (⟨b,off,none⟩:Addr)else some ⟨b,off+j*k,none⟩)=some A/\Hid (∀t u,news[t]?=some u->w.drew.cell? (A.add t)=some u):=by
  by_cases h:cap=j
  .
   refine⟨⟨b,off,none⟩,by simp[h],λt u l=>?_⟩;have W:news.length=0:=by rw[c,show n-j=0 by omega,Nat.zero_mul]
   rw[List.length_eq_zero_iff.1 W]at l;simp at l
  refine⟨⟨b,off+j*k,none⟩,by simp[h],λt u l=>?_⟩;rw[a,Xs]at l;rw[Addr.add_lit,Xe];exact B _ u l
 have s1:Hid (news.length=(n-j)*k):=c;have Y:Hid (∀u∈news,u.oneCell'=true):=λu l=>C u (by rw[a]at l;exact Xf l);have Z:Hid (∀t,t<news.length->(w.drew.cell? ⟨b,off+i*k+t,none⟩).isSome=true/\w.drew.frozen? ⟨b,off+i*k+t,none⟩=false):=by
  intro t J;rw[c]at J;rw[Xe];exact⟨g _ (by omega),m _ (by omega)⟩
 obtain⟨o,d⟩:∃o,o=w.drew.setCells b (off+i*k) news:=⟨_,rfl⟩;have E:∀ty,(Builtin.clear_ #[ρ.t 24] ty #[.slice (some ⟨b,off+(i+(n-j))*k,none⟩) (n-(i+(n-j))) (cap-(i+(n-j)))]).run P o=.ok (.tuple #[]) (o.setCells b (off+(i+(n-j))*k) (Xk (n-(i+(n-j))) z.cells.toList).flatten):=
  λty=>j3k o _ _ ty _ t24 L.v9 q O s b (off+(i+(n-j))*k) _ _ (by omega) (λt J=>by
   rw[d,Xe];exact qg5 b _ _ _ (λt' a6=>by rw[Xe];exact g _ (by omega)) _ (g _ (by omega))) (λt J=>by rw[d,World.frozen?_setCells,Xe];exact m _ (by omega))
 obtain⟨N,p⟩:∃N,N=z.cells.toList:=⟨_,rfl⟩;rw[<-p];rw[<-p]at E;clear p s q H;have X:Hid (o=w.drew.setCells b (off+i*k) news/\news=cs.drop (j*k)):=⟨d,a⟩;have hW:Hid (o=w.drew.setCells b (off+i*k) news):=d;have ao:i<=cap:=by omega
 have ar:j<=cap:=by omega
 clear d B a c S M T U V g m C y;obtain⟨_,_,FG⟩:=L.f24
 go_enter FG,Body2.n24_ntmps ρ
 go_wp2_with fail
 go_region_law_o (refine step_append_room rfl (.tmp 22) (.tmp 25) (ρ.t 24) rfl (ρ.t 9) i0 k t24 G I b off i cap (by simp[Act.eval,Act.put]) A (n-j) (cap-j) news (by simp[Act.eval,Act.put]) s1.out D.out Y.out (by omega) Z.out ?_;rw[<-hW.out])
 go_wp2
 go_ret
 exact⟨rfl,by rw[X.out.1,X.out.2]⟩
def z2m{α:Type}(xs:List α)(i j:Int):Option (List α):=
 x9 (0<=i/\i<=j/\j<=xs.length) (some (xs.take i.toNat++xs.drop j.toNat))
theorem z7b{k:Nat}{z:Value}(L:dy P ρ k z)(hb:(Body2.n24 ρ).body.isSome=true)(hk:0<k)(a6:z.cells.size=k)(ao:z.cells.toList.all (·.oneCell')=true){α:Type}[Row α](ar:∀x:α,(Row.row x).length=k)
 {xs r:List α}{i j:Int}(h:z2m xs i j=some r):
 bu P (ρ.f 24) [.osl 0 k 0 xs.length,.v (.int .i64 i),.v (.int .i64 j)] [(0,.arr k (enc xs))] 1 (.osl 1 k 0 r.length) [(1,.arr k (enc r))] 2:=by
 obtain⟨⟨g1,g2,g3⟩,h⟩:=q07 h;simp only[Xp]at h;obtain⟨d,rfl⟩:=Xn g1;obtain⟨g,rfl⟩:=Xn (by omega:0<=j);rw[Xw,Xw]at h;have b0:d<=g:=by omega
 have n:g<=xs.length:=by omega
 have l:r.length=d+(xs.length-g):=by rw[<-h];simp;omega
 intro w β A us hA m H I;refine cx.of (zr4 L.f24 hb) ?_
 match us,m with
 |[u1,u2,u3],m=>
 simp only[y8,and_true]at m;obtain⟨r1,r2,r3⟩:=m;have b1:u2=.int .i64 d:=by simpa only[rep]using r2
 have b2:u3=.int .i64 g:=by simpa only[rep]using r3
 subst b1 b2;have b3:∀q∈enc r,q.length=k:=by
  intro q hq;obtain⟨x,_,rfl⟩:=Xz.1 hq;exact ar x
 have hR:Rel (P:=P) ⟨w,β,1,[(0,.arr k (enc xs))],A,0⟩ ⟨1,[],[(0,.arr k (enc xs))],1,0⟩ {tmps:=#[],defers:=[]} w β:=
  {df:=rfl,nt:=rfl,ntc:=rfl,nb:=rfl,alt:=hA,gs:=I,hp:=H,ext:={nx:=Xa _,gh:=λ_ _=>rfl,gi:=λ_ _ _=>rfl,ids:=λp hp'=> .inl (Xl hp'),blk:=λp hp' b J=> .inl ⟨p,hp',J⟩,os:=rfl,tape:=rfl,output:=⟨rfl,λ_=>Xa _⟩,size:=Xa _,keep:=λ_ _ _=>rfl},env:=λt=>by simp only[q17,rep]}
 have T:=r1;simp only[rep]at T;rcases T.2 with⟨bs,_,h0,rfl⟩|⟨b,C,cap,a,K,rfl,s,hC,ha⟩
 .
  have hx:xs=[]:=List.eq_nil_of_length_eq_zero h0;subst hx;have e1:d=0:=by simp at n;omega
  have e2:g=0:=by simp at n;omega
  subst e1 e2;have hr:r=[]:=by rw[<-h];rfl
  subst hr;refine (za7 L none 0 0 0 w (Xa _) (by omega) (Xa _)).mono ?_;rintro e w' ⟨rfl,rfl⟩;have:=hR.more (w':=w') (bc:=none) (o:=.arr k (enc ([]:List α))) (hp1:=[]) (X9 _) (Xa _) (λ_ _ _=>rfl) (λb c J=>by cases J) (λow' _=> .inl ⟨q1m _ _ _,rfl⟩) rfl rfl ⟨rfl,λ_=>Xa _⟩;refine⟨_,_,_,_,upd β 1 none,rfl,⟨rfl,rfl,rfl⟩,?_,this.hp,this.ext⟩;simp only[rep];exact⟨Nat.lt_succ_self _,.inl ⟨q1m _ _ _,by trivial,rfl,by trivial⟩⟩
 have b4:a=⟨b,0,none⟩:=by
  rcases ha with rfl|⟨_,h0⟩
  . simp
  exact absurd rfl h0
 subst b4;obtain⟨cur,e,cs,R,c2,c3,Z,c5,c6,c7,c8,c9⟩:=z0f hR (id:=0) (sz:=k) (xs:=enc xs) (by simp[q0i]) K;rw[q1c]at c8 c3;have M:∀j v,cs[j]?=some v->w.cell? ⟨b,0+j,none⟩=some v:=λj v y=>by
  rw[Xj,cell_of_row w b j cur e (0,0) R];simpa using c9 j v y
 have N:enc r=(enc xs).take d++(enc xs).drop g:=by rw[<-h];simp[enc]
 have U:y8 w β 0 (own β [(0,.arr k (enc xs))] A) (enc r).flatten (cs.take (d*k)++cs.drop (g*k)):=by
  rw[N,Xr,qx1 d c5,z4e g c5];exact q5x (q6r c6 _) (q7z c6 _)
 have V:∀u∈cs.take (d*k)++cs.drop (g*k),u.oneCell'=true:=by
  intro u O;rcases X0.1 O with O|O
  . exact c7 u (X5 O)
  exact c7 u (Xf O)
 have k1:d*k<=g*k:=Xb _ b0;have k2:g*k<=xs.length*k:=Xb _ n;have k3:xs.length*k<=cur.size:=by rw[c2];exact Xb _ c3
 have b5:(cs.take (d*k)).length=d*k:=by rw[Xq];omega
 by_cases heq:d=g
 .
  subst heq;refine (za7 L (some ⟨b,0,none⟩) xs.length cap d w s (by unfold maxLen at Z;omega) n).mono ?_;rintro e' w' ⟨rfl,rfl⟩;have b6:r=xs:=by rw[<-h];simp
  subst b6;obtain⟨β',S,q2,q3⟩:=z9k (k:=k) hA I H (xs:=enc r) (b:=b) (C:=C) (cur:=cur) (e:=e) (w':=w') (Xa _) (λ_ _ _=>rfl) (λ_=>q7p (p:=(0,.arr k (enc r))) (by simp) K) R c2 (by rw[q1c];exact c3) Z c6 c5 c7 M rfl rfl ⟨rfl,λ_=>Xa _⟩ (cap:=cap) (by rw[q1c];exact s) (by omega);rw[q1c]at S;exact⟨_,_,_,_,β',rfl,⟨rfl,rfl,rfl⟩,S,q2,q3⟩
 have bi:d<g:=by omega
 refine (j0p L hk a6 (λu O=>List.all_eq_true.1 ao u O) b 0 xs.length cap d g cs w c8 M c7 (λt ht=>by rw[Xj];exact qg2 R (by omega)) (λt _=>z4c R _) s (by unfold maxLen at Z;omega) bi n).mono ?_;rintro e' w' ⟨rfl,rfl⟩;have bv:(cs.drop (g*k)).length=xs.length*k-g*k:=by rw[Xh,c8]
 have k4:(d+(xs.length-g))*k=d*k+(xs.length*k-g*k):=by rw[Xi,Xg]
 obtain⟨f1,f2,f3,f4,f5,f6⟩:=q7n b (cs.drop (g*k)) (0+d*k) w.drew;obtain⟨W,d1,d2⟩:=q8f b (cs.drop (g*k)) (0+d*k) w.drew cur e R;obtain⟨G,bk⟩:∃G,G=(Xk (xs.length-(d+(xs.length-g))) z.cells.toList).flatten:=⟨_,rfl⟩;rw[<-bk];obtain⟨m1,m2,m3,m4,m5,m6⟩:=q7n b G (0+(d+(xs.length-g))*k) (w.drew.setCells b (0+d*k) (cs.drop (g*k)));obtain⟨X,d3,d4⟩:=q8f b G (0+(d+(xs.length-g))*k) _ W e d1;have Q:∀(j:Nat) (u:Value),(cs.take (d*k)++cs.drop (g*k))[j]?=some u->((w.drew.setCells b (0+d*k) (cs.drop (g*k))).setCells b (0+(d+(xs.length-g))*k) G).cell? ⟨b,0+j,none⟩=some u:=by
  have:=eJ (w:=(w.drew.setCells b (0+d*k) (cs.drop (g*k))).setCells b (0+(d+(xs.length-g))*k) G) (b:=b) (A:=cs.take (d*k)) (B:=cs.drop (g*k)) (D:=[]) (λj u y=>by
   have E:j<d*k:=by
    have:=(List.getElem?_eq_some_iff.1 y).1;omega
   rw[World.cell?_setCells_out b _ _ _ _ (λ_ _=>by left;show j<_;omega),World.cell?_setCells_out b _ _ _ _ (λ_ _=>by left;show j<_;omega)];rw[List.getElem?_take,if_pos E]at y;have:=M j u y;rw[Nat.zero_add]at this;exact this)
   (λj u y=>by
    have E:j<(cs.drop (g*k)).length:=(Xc.1 y).1;rw[b5,World.cell?_setCells_out b G _ _ _ (λ_ _=>by left;show d*k+j<_;omega),show d*k+j=0+d*k+j by omega,
     World.cell?_setCells_in b (cs.drop (g*k)) (0+d*k) _ (λt ht=>qg2 (w:=w.drew) R (by omega)) j E]
    rw[Xd E]at y;exact y)
   (λj u y=>by simp at y)
  simpa using this
 obtain⟨β',S,q2,q3⟩:=z9k (k:=k) hA I H (xs:=enc r) (b:=b) (C:=C) (cur:=X) (e:=e) (w':=(w.drew.setCells b (0+d*k) (cs.drop (g*k))).setCells b (0+(d+(xs.length-g))*k) G) (by rw[m5,f5];exact Xa _) (λb' _ Y=>(m6 b' Y).trans (f6 b' Y)) (λ_=>q7p (p:=(0,.arr k (enc xs))) (by simp) K) d3
  (by rw[d4,d2];exact c2) (by rw[q1c,l];omega) Z U b3 V Q (by rw[m1,f1];rfl) (by rw[m2,f2];rfl) ⟨by rw[m3,f3];rfl,λ_=>by rw[m4,f4];exact X8 _⟩ (cap:=cap) (by rw[q1c,l];omega) (by omega)
 rw[q1c]at S;rw[l]at S;exact⟨_,_,_,_,β',rfl,⟨rfl,rfl,rfl⟩,by rw[l];exact S,q2,q3⟩
end
def zh2(i ov a t0 b c d sl:Nat):Ren:=
 ⟨λn=>match n with|22=>i|24=>i|29=>ov|_=>a,λn=>match n with|0=>t0|3=>b|4=>c|9=>d|_=>sl,λn=>n⟩
theorem j2u{P:Program}{t:TypeId}{z:Value}{k b:Nat}(h:(P.info? t).map (λi=>(i.zero,i.size,i.bytes))=some (some z,k,b)):∃i,P.info? t=some i/\i.zero=some z/\i.size=k/\i.bytes=b:=by
 cases hi:P.info? t with
 |none=>rw[hi]at h;cases h
 |some i=>
  rw[hi]at h;simp only[Option.map_some,Xp,Prod.mk.injEq]at h;exact⟨i,rfl,h.1,h.2.1,h.2.2⟩
theorem zc3{P:Program}{t:TypeId}{z:Value}{k b:Nat}(h:(P.info? t).map (λi=>(i.zero,i.size,i.bytes))=some (some z,k,b)):∃i,P.info? t=some i/\i.zero=some z/\i.size=k:=by
 obtain⟨i,a,c,d,_⟩:=j2u h;exact⟨i,a,c,d⟩
end Go.Proofs.YtdcdfkdhomekeaaGreat

/-
  What slices.Insert and slices.Delete do to rows of whatever type, walked once over the shelf's bodies. No condition beyond those that each theorem names.
-/
import Derived.Test.YtomicnbiniapfaaGreatLibD
import Derived.Shelf.Bodies2
import Derived.Shelf.SlGeneric
import Derived.Shelf.RegionOpenPlain
import Derived.WalkKit
import Derived.Lib.Walk
import Derived.Lib.SliceRun
import Derived.Lib.JoinLaws
import Derived.Lib.AppendZeros
import Derived.Lib.AppendZerosOnto
import Derived.Lib.Overlaps
import Derived.Laws.Externs
import Derived.Laws.IdiomCopy
import Derived.Laws.NewBlocks
import Derived.Deep.RegionLaw
set_option linter.unusedSimpArgs false
set_option linter.unusedVariables false
set_option linter.unusedSectionVars false
set_option linter.unusedVariables false
set_option linter.unusedSimpArgs false
open Nat renaming le_refl->Xa,mul_le_mul_right->Xb,add_assoc->Xe,sub_mul->Xg,add_mul->Xi,zero_add->Xj,min_def->X4,min->X5,mul_pos->X8,le_succ->X9
open List renaming getElem?_eq_some_iff->Xc,getElem?_eq_getElem->Xd,mem_of_mem_drop->Xf,length_drop->Xh,replicate->Xk,mem_map_of_mem->Xl,getElem?_take->Xm,size_toArray->Xp,length_take->Xr,flatten_append->Xs,getElem?_drop->Xt,getElem?_append_right->Xu,getElem?_append_left->Xz,mem_map->X0,mem_append->X3,mem_of_mem_take->X6,append_assoc->X7,nil_sublist->Ya
open Int renaming eq_ofNat_of_zero_le->Xo,toNat_natCast->Xx
open Option renaming some.injEq->Xq
open Array renaming getElem?_append_left->Xv,size_append->Xw,getElem?_eq_getElem->Xy
namespace Go.Proofs.YtomicnbiniapfaaGreat
open Go Go.RowKit Go.Lib Go.Shelf
section
variable {P:Program} {ρ:Ren}
theorem z6c{k:Nat}(w:World)(dT sT ty elem:TypeId)(b o G T:Nat)(a:Addr)(I W:Nat)(cs:List Value)
 (hu:P.underlying dT=some (.slice elem))(hs:(P.info? elem).map (·.size)=some k)(hn:cs.length=X5 I G*k)
 (Z:∀j v,cs[j]?=some v->w.cell? (a.add j)=some v)(hc:∀j,j<cs.length->(w.cell? ⟨b,o+j,none⟩).isSome=true)(hf:∀j,j<cs.length->w.frozen? ⟨b,o+j,none⟩=false)(h1:∀v∈cs,v.oneCell'=true):
 (Builtin.copy_ #[dT,sT] ty #[.slice (some ⟨b,o,none⟩) G T,.slice (some a) I W]).run P w=.ok (goInt (X5 I G)) (w.setCells b o cs):=by
 have hl:=run_loadCells_list (P:=P) w a cs Z;have a6:=run_storeCells_cells (P:=P) b o cs 0 w (by simpa using hc) (by simpa using hf) h1
 cases hq:P.info? elem with
 |none=>simp[hq]at hs
 |some i=>
  have hi:i.size=k:=by simpa [hq]using hs
  simp[Builtin.copy_,run_underlying hu,Builtin.lenOf,Builtin.firstCells,sizeOf,typeInfo,hq,hi,<-hn,hl,a6]
theorem j0d(w:World){o:Oper}{a:Act}{K:Act->World->Prop}{Q:Exit->Act->World->Prop}(d s:Operand)(t G:TypeId)
 (T:o.op=.call {callee:=.builtin .copy,args:=#[d,s],argTypes:=#[t,G]})(v u:Value)(hd:a.eval d=v)(W:a.eval s=u){I:Value}{w':World}
 (Z:(Builtin.copy_ #[t,G] o.type #[v,u]).run P w=.ok I w')(h:K (a.put o.dst I) w'):o.wp P a w K Q:=by
 unfold Oper.wp execOp;simp only[T,resolve,invoke,builtin,Sem.run_bind,Sem.run_pure,Result.andThen_ok,List.map_toArray,List.map_cons,List.map_nil,hd,W,Z];exact h
theorem qz7(w:World){ops:Array Oper}{G:List Oper}{o:Oper}{a:Act}{Q:Exit->Act->World->Prop}(I:o.guard=none)(d s:Operand)(t T:TypeId)
 (Z:o.op=.call {callee:=.builtin .copy,args:=#[d,s],argTypes:=#[t,T]})(v u:Value)(hd:a.eval d=v)(hs:a.eval s=u){W:Value}{w':World}
 (hr:(Builtin.copy_ #[t,T] o.type #[v,u]).run P w=.ok W w')(h:wpList P ops Q G (a.put o.dst W) w'):wpList P ops Q (o::G) a w:=
 wpList_plain I fun _ hK=>j0d w d s t T Z v u hd hs hr (hK _ _ h)
theorem z7r{ops:Array Oper}{o:Oper}{a:Act}{w:World}{K:Act->World->Prop}{Q:Exit->Act->World->Prop}{E:Prop}
 (Z:o.guard=none)(d x:Operand)(I T:TypeId)(G:o.op=Op.call {callee:=Callee.builtin Builtin.copy,args:=#[d,x],argTypes:=#[I,T]})
 (v u:Value)(hd:a.eval d=v)(hx:a.eval x=u){W:Value}{w':World}(hr:(Builtin.copy_ #[I,T] o.type #[v,u]).run P w=.ok W w')(hK:K (a.put o.dst W) w'):
 if Region.wanted o (yielded ops a.tmps)=true then Oper.wp P o a w K Q else E:=by
 have hw:Region.wanted o (yielded ops a.tmps)=true:=by simp[Region.wanted,Z]
 rw[if_pos hw];unfold Oper.wp;simp[execOp,G,resolve,invoke,builtin,hd,hx,hr,Result.andThen];exact hK
theorem qm8(b:Nat)(vs:List Value)(o:Nat)(w:World)(h:∀j,j<vs.length->(w.cell? ⟨b,o+j,none⟩).isSome=true)(k:Nat)(G:(w.cell? ⟨b,k,none⟩).isSome=true):((w.setCells b o vs).cell? ⟨b,k,none⟩).isSome=true:=by
 by_cases I:o<=k/\k<o+vs.length
 . have:=World.cell?_setCells_in b vs o w h (k-o) (by omega);rw[show o+(k-o)=k by omega]at this;rw[this];rfl
 rw[World.cell?_setCells_out b vs o w ⟨b,k,none⟩ (fun _ _=>by show k<o\/o+vs.length<=k;omega)];exact G
structure cg(P:Program)(ρ:Ren)(k bytes:Nat)(z:Value):Prop where
 mixed:P.follows .mixedOrders=true
 f22:Bears P (ρ.f 22) (Body2.n22 ρ)
 ov:∃fn,P.funcs[ρ.f 29]?=some fn/\(fn.name=="runtime.NumGoroutine")=false/\fn.body.isNone=true/\Extern.findNext fn=none/\Extern.find fn=some (Extern.SlicesOverlaps.overlaps #[ρ.t 24,ρ.t 24] #[ρ.t 4])
 t0:P.underlying (ρ.t 0)=some (TypeDesc.tuple #[])
 a0:∀w,(isAgg (ρ.t 0)).run P w=.ok false w
 z0:∀w,(Go.sizeOf (ρ.t 0)).run P w=.ok 1 w
 v0:∀w,(zeroValue (ρ.t 0)).run P w=.ok (Value.tuple #[]) w
 t3:P.underlying (ρ.t 3)=some (TypeDesc.int IntKind.i64)
 a3:∀w,(isAgg (ρ.t 3)).run P w=.ok false w
 z3:∀w,(Go.sizeOf (ρ.t 3)).run P w=.ok 1 w
 v3:∀w,(zeroValue (ρ.t 3)).run P w=.ok (Value.int IntKind.i64 0) w
 t4:P.underlying (ρ.t 4)=some (TypeDesc.bool)
 a4:∀w,(isAgg (ρ.t 4)).run P w=.ok false w
 z4:∀w,(Go.sizeOf (ρ.t 4)).run P w=.ok 1 w
 v4:∀w,(zeroValue (ρ.t 4)).run P w=.ok (Value.bool false) w
 z9:∀w,(Go.sizeOf (ρ.t 9)).run P w=.ok k w
 t24:P.underlying (ρ.t 24)=some (TypeDesc.slice (ρ.t 9))
 a24:∀w,(isAgg (ρ.t 24)).run P w=.ok false w
 z24:∀w,(Go.sizeOf (ρ.t 24)).run P w=.ok 1 w
 v24:∀w,(zeroValue (ρ.t 24)).run P w=.ok (Value.slice none 0 0) w
 i9:∃i,P.info? (ρ.t 9)=some i/\i.zero=some z/\i.size=k/\i.bytes=bytes
set_option maxHeartbeats 4000000 in
set_option maxRecDepth 100000 in
theorem j1x{k bytes:Nat}{z:Value}(L:cg P ρ k bytes z)(b off n c i vb G m vc:Nat)(cs vs:List Value)(w:World)(hk:0<k)(hi:i<n)(hm:0<m)(bv:n+m<=c)(d3:c<=9223372036854775807)(ao:vb≠b)
 (c0:cs.length=n*k)(c1:vs.length=m*k)
 (c2:∀j v,cs[j]?=some v->w.cell? ⟨b,off+j,none⟩=some v)(ak:∀j,j<(n+m)*k->(w.cell? ⟨b,off+j,none⟩).isSome=true)(aq:∀j,j<(n+m)*k->w.frozen? ⟨b,off+j,none⟩=false)
 (c3:∀j v,vs[j]?=some v->w.cell? ⟨vb,G+j,none⟩=some v)(c4:∀v∈cs,v.oneCell'=true)(c5:∀v∈vs,v.oneCell'=true)
 (tA tB:TypeId)(kA kB:Nat)(c6:w.shape? vb=some (tA,kA))(c7:w.shape? b=some (tB,kB))(c8:kB≠0)(c9:w.frozen? ⟨vb,G,none⟩=false)(cc:w.frozen? ⟨vb,kA,none⟩=false):
 Calls P (ρ.f 22) #[.slice (some ⟨b,off,none⟩) n c,.int .i64 i,.slice (some ⟨vb,G,none⟩) m vc] w fun e w'=>
  e=.returned (.slice (some ⟨b,off,none⟩) (n+m) c)/\w'=(w.drew.setCells b (off+(i+m)*k) (cs.drop (i*k))).setCells b (off+i*k) vs:=by
 have t0:=L.t0;have a0:=L.a0;have z0:=L.z0;have v0:=L.v0;have t3:=L.t3;have a3:=L.a3;have z3:=L.z3;have v3:=L.v3;have t4:=L.t4;have a4:=L.a4;have z4:=L.z4;have v4:=L.v4;have z9:=L.z9;have t24:=L.t24;have a24:=L.a24;have z24:=L.z24;have v24:=L.v24;have u0:=run_underlying L.t0;have u3:=run_underlying L.t3;have u4:=run_underlying L.t4;have d4:=run_underlying L.t24;have d5:¬((m:Int)=0):=by omega
 have d6:¬((i:Int)=(n:Int)):=by omega
 have an:(P.info? (ρ.t 9)).map (·.size)=some k:=by
  obtain⟨i0,cd,h0,h1,h2⟩:=L.i9;rw[cd];simp[h1]
 obtain⟨fo,ar,b1,b2,b3,b4⟩:=L.ov;have cl:∀lb cb,(callFunc (ρ.f 29) #[.slice (some ⟨vb,G,none⟩) m vc,.slice (some ⟨b,off+(i+m)*k,none⟩) lb cb]).run P w=.ok (.value (.bool false)) w:=fun lb cb=>by
  rw[run_callFunc_extern ar b1 b2 b3 b4,
   Lib.run_overlaps_apart w (ρ.t 24) (ρ.t 4) (ρ.t 9) L.t24 k L.z9 ⟨vb,G,none⟩ ⟨b,off+(i+m)*k,none⟩ m vc lb cb ao tA tB kA kB c6 c7 c8 c9 cc]
  rfl
 clear b4 b3 b2 b1 ar;have b5:(cs.drop (i*k)).length=(n-i)*k:=by rw[Xh,c0,Xg]
 have cp:(i+m)*k=i*k+m*k:=Xi _ _ _;have d0:(n+m)*k=n*k+m*k:=Xi _ _ _;have d1:i*k<=n*k:=Xb _ (by omega);have b6:(n-i)*k=n*k-i*k:=Xg _ _ _;have mixed:=L.mixed;have d7:IntKind.i64.wrap ((i:Int)+(m:Int))=(i:Int)+(m:Int):=by rw[IntKind.wrap_i64];omega
 have d8:(0:Int)<=(i:Int)+(m:Int):=by omega
 have dd:i<=n:=by omega
 have dk:((i:Int)+(m:Int)).toNat=i+m:=by omega
 have ds:¬(c=i+m):=by omega
 have dI:(i:Int)<=(n:Int)+(m:Int):=by omega
 have dJ:¬(c=i):=by omega
 have I:X5 (n+m-i) (n+m-(i+m))=n-i:=by simp only[X4];split<;>omega
 have T:X5 m (n+m-i)=m:=by simp only[X4];split<;>omega
 have a6:∀ty dc sc,(Builtin.copy_ #[(ρ.t 24),(ρ.t 24)] ty #[.slice (some ⟨b,off+(i+m)*k,none⟩) (n+m-(i+m)) dc,.slice (some ⟨b,off+i*k,none⟩) (n+m-i) sc]).run P w.drew=.ok (goInt ((n-i:Nat):Int)) (w.drew.setCells b (off+(i+m)*k) (cs.drop (i*k))):=fun ty dc sc=>by
  have:=z6c (k:=k) w.drew (ρ.t 24) (ρ.t 24) ty (ρ.t 9) b (off+(i+m)*k) (n+m-(i+m)) dc ⟨b,off+i*k,none⟩ (n+m-i) sc (cs.drop (i*k)) L.t24 an (by rw[b5,I])
   (fun j v hj=>by rw[Addr.add_lit,Xe];exact c2 (i*k+j) v (by rwa [Xt]at hj))
   (fun j hj=>by rw[Xe];exact ak _ (by omega)) (fun j hj=>by rw[Xe];exact aq _ (by omega)) (fun v hv=>c4 v (Xf hv))
  rw[I]at this;exact this
 obtain⟨W1,Z⟩:∃W1,W1=w.drew.setCells b (off+(i+m)*k) (cs.drop (i*k)):=⟨_,rfl⟩;have aj:∀j,j<(n+m)*k->(W1.cell? ⟨b,off+j,none⟩).isSome=true:=fun j hj=>by
  rw[Z];exact qm8 b _ _ _ (fun j hj=>by rw[Xe];exact ak _ (by omega)) _ (ak j hj)
 have bi:∀(W:World),(∀x,W.cell? x=W1.cell? x)->(∀x,W.frozen? x=W1.frozen? x)->∀ty dc,(Builtin.copy_ #[(ρ.t 24),(ρ.t 24)] ty #[.slice (some ⟨b,off+i*k,none⟩) (n+m-i) dc,.slice (some ⟨vb,G,none⟩) m vc]).run P W=.ok (goInt m) (W.setCells b (off+i*k) vs):=fun W bs d2 ty dc=>by
  have:=z6c (k:=k) W (ρ.t 24) (ρ.t 24) ty (ρ.t 9) b (off+i*k) (n+m-i) dc ⟨vb,G,none⟩ m vc vs L.t24 an (by rw[c1,T])
   (fun j v hj=>by
    rw[Addr.add_lit,bs,Z,World.cell?_setCells_out b _ _ _ _ (fun h _=>absurd h ao)];exact c3 j v hj)
   (fun j hj=>by rw[bs,Xe];exact aj _ (by omega)) (fun j hj=>by rw[d2,Z,World.frozen?_setCells,Xe];exact aq _ (by omega)) c5
  rw[T]at this;exact this
 rw[<-Z]at a6;clear an b5 cp d0 d1 b6 I T aj;obtain⟨_,_,FG⟩:=L.f22
 go_enter FG,Body2.n22_ntmps ρ
 go_wp2_with (simp only[cl])
 go_region_law_o (refine z7r rfl _ _ (ρ.t 24) (ρ.t 24) rfl _ _ (by simp[Act.eval,Act.put]) (by simp[Act.eval,Act.put]) (a6 _ _ _) ?_)
 go_wp2_with (at_builtin;refine qz7 _ rfl _ _ (ρ.t 24) (ρ.t 24) rfl _ _ rfl rfl (bi _ (fun _=>rfl) (fun _=>rfl) _ _) ?_)
 go_ret
 first|exact⟨rfl,rfl⟩|exact⟨rfl,by rw[Z]⟩
set_option maxHeartbeats 4000000 in
set_option maxRecDepth 100000 in
theorem j6u{k bytes:Nat}{z:Value}(L:cg P ρ k bytes z)(base:Option Addr)(n c W G m vc:Nat)(w:World)(hm:0<m)(a6:n<=c)(T:base=none->n=0)
 {Z:Value}{w1:World}(I:∀ty,(Builtin.append_ #[(ρ.t 24),(ρ.t 24)] ty #[.slice base n c,.slice (some ⟨W,G,none⟩) m vc]).run P w=.ok Z w1):
 Calls P (ρ.f 22) #[.slice base n c,.int .i64 n,.slice (some ⟨W,G,none⟩) m vc] w fun e w'=>e=.returned Z/\w'=w1:=by
 have t0:=L.t0;have a0:=L.a0;have z0:=L.z0;have v0:=L.v0;have t3:=L.t3;have a3:=L.a3;have z3:=L.z3;have v3:=L.v3;have t4:=L.t4;have a4:=L.a4;have z4:=L.z4;have v4:=L.v4;have z9:=L.z9;have t24:=L.t24;have a24:=L.a24;have z24:=L.z24;have v24:=L.v24;have u0:=run_underlying L.t0;have u3:=run_underlying L.t3;have u4:=run_underlying L.t4;have aj:=run_underlying L.t24;have mixed:=L.mixed;have ak:¬((m:Int)=0):=by omega
 obtain⟨_,_,FG⟩:=L.f22
 go_enter FG,Body2.n22_ntmps ρ
 cases base with
 |none=>
  have h0:=T rfl;subst h0
  go_wp2_with (at_builtin;refine Lib.wpList_append_run _ rfl _ _ _ _ rfl _ _ rfl rfl _ _ (I _) ?_)
  all_goals (go_ret;exact⟨rfl,rfl⟩)
 |some a=>
  obtain⟨ab,ao,an⟩:=a
  go_wp2_with (at_builtin;refine Lib.wpList_append_run _ rfl _ _ _ _ rfl _ _ rfl rfl _ _ (I _) ?_)
  all_goals (go_ret;exact⟨rfl,rfl⟩)
set_option maxHeartbeats 4000000 in
set_option maxRecDepth 100000 in
theorem j3r{k bytes:Nat}{z:Value}(L:cg P ρ k bytes z)(b off n c i vb a6 m vc:Nat)(cs vs:List Value)(w:World)(hk:0<k)(c8:z.cells.size=k)(hi:i<n)(hm:0<m)(ds:n<=c)(b3:c<n+m)(ar:(n+m)*bytes<=140737488355328)(ak:n+m<=maxLen)
 (c9:cs.length=n*k)(cb:vs.length=m*k)
 (b4:∀j v,cs[j]?=some v->w.cell? ⟨b,off+j,none⟩=some v)
 (bv:∀j v,vs[j]?=some v->w.cell? ⟨vb,a6+j,none⟩=some v)(cc:∀v∈cs,v.oneCell'=true)(cd:∀v∈vs,v.oneCell'=true):
 Calls P (ρ.f 22) #[.slice (some ⟨b,off,none⟩) n c,.int .i64 i,.slice (some ⟨vb,a6,none⟩) m vc] w fun e w'=>
  e=.returned (.slice (some ⟨w.heap.size,0,none⟩) (n+m) (grownCap w (n+m) c (ρ.t 9)))/\
  w'=(((w.alloc (.cells ((cs.take (i*k)).toArray++Builtin.zeroCells z.cells (n+m-i)++Builtin.zeroCells z.cells (grownCap w (n+m) c (ρ.t 9)-(n+m))) (ρ.t 9))).drew.setCells w.heap.size (i*k) vs).drew).setCells w.heap.size ((i+m)*k) (cs.drop (i*k)):=by
 have t0:=L.t0;have a0:=L.a0;have z0:=L.z0;have v0:=L.v0;have t3:=L.t3;have a3:=L.a3;have z3:=L.z3;have v3:=L.v3;have t4:=L.t4;have a4:=L.a4;have z4:=L.z4;have v4:=L.v4;have z9:=L.z9;have t24:=L.t24;have a24:=L.a24;have z24:=L.z24;have v24:=L.v24;have u0:=run_underlying L.t0;have u3:=run_underlying L.t3;have u4:=run_underlying L.t4;have dI:=run_underlying L.t24;have mixed:=L.mixed;obtain⟨i0,c0,cl,c1,c2⟩:=L.i9;have dJ:¬((m:Int)=0):=by omega
 have dK:¬((i:Int)=(n:Int)):=by omega
 have dL:(c:Int)<(n:Int)+(m:Int):=by omega
 have b5:(P.info? (ρ.t 9)).map (·.size)=some k:=by rw[c0];simp[c1]
 have cp:0<n*k:=X8 (by omega) hk;have d0:0<m*k:=X8 hm hk;have d1:b<w.heap.size:=block_lt_of_cell (b4 0 _ (Xd (by omega)));have d2:vb<w.heap.size:=block_lt_of_cell (bv 0 _ (Xd (by omega)));have c3:(n:Int)+(m:Int)-(i:Int)=((n+m-i:Nat):Int):=by omega
 have b6:i+(n+m-i)=n+m:=by omega
 have e1:(i+m)*k=i*k+m*k:=Xi _ _ _;have e2:(n+m)*k=n*k+m*k:=Xi _ _ _;have e3:i*k<=n*k:=Xb _ (by omega);have e4:(n-i)*k=n*k-i*k:=Xg _ _ _;have b1:(Builtin.firstCells i0.size i (.slice (some ⟨b,off,none⟩) i c)).run P w.drew=.ok (cs.take (i*k)).toArray w.drew:=by
  rw[c1];exact run_firstCells_some w.drew k i ⟨b,off,none⟩ i c (cs.take (i*k)) (by rw[Xr];omega) (fun j v hj=>by
   rw[Addr.add_lit];rw[Xm]at hj
   split at hj
   . exact b4 j v hj
   cases hj)
 have aq:∀ty,(Builtin.append_ #[(ρ.t 24),(ρ.t 3)] ty #[.slice (some ⟨b,off,none⟩) i c,.int .i64 ((n:Int)+(m:Int)-(i:Int))]).run P w=
  .ok (.slice (some ⟨w.heap.size,0,none⟩) (n+m) (grownCap w (n+m) c (ρ.t 9))) (w.drew.alloc (.cells ((cs.take (i*k)).toArray++Builtin.zeroCells z.cells (n+m-i)++Builtin.zeroCells z.cells (grownCap w (n+m) c (ρ.t 9)-(n+m))) (ρ.t 9))):=fun ty=>by
  have dM:(n+m-i)*bytes<=140737488355328:=Nat.le_trans (Xb _ (by omega)) ar;have h:=Lib.run_append_grow_zeros w (ρ.t 24) (ρ.t 3) ty (ρ.t 9) i0 _ .i64 .i64 L.t24 L.t3 c0 cl (some ⟨b,off,none⟩) i c (cs.take (i*k)) b1 (n+m-i) (by omega) (by omega) (by omega) (by unfold maxLen at ak;omega) (by rw[c2];omega) (by rw[c2,b6];exact growslice_fits b3 ar);rw[b6]at h;rw[c3];exact h
 obtain⟨G,hG⟩:∃G,G=grownCap w (n+m) c (ρ.t 9):=⟨_,rfl⟩;obtain⟨I,an⟩:∃I:Array Value,I=(cs.take (i*k)).toArray++Builtin.zeroCells z.cells (n+m-i)++Builtin.zeroCells z.cells (G-(n+m)):=⟨_,rfl⟩;rw[<-hG]at aq⊢;rw[<-an]at aq⊢;have d3:(n+m)*k<=I.size:=by
  rw[an];have:(n+m-i)*k=(n+m)*k-i*k:=Xg _ _ _;simp only[Xw,Xp,Xr,size_zeroCells,c8];omega
 obtain⟨W1,aj⟩:∃W1,W1=w.drew.alloc (.cells I (ρ.t 9)):=⟨_,rfl⟩;rw[<-aj]at aq;have hN:∀j,j<(n+m)*k->(W1.cell? ⟨w.heap.size,j,none⟩).isSome=true:=fun j hj=>by
  rw[aj,World.cell?_alloc_at (w:=w.drew) I _ w.heap.size j rfl,Xy (by omega)];rfl
 have bi:∀j,W1.frozen? ⟨w.heap.size,j,none⟩=false:=fun j=>by rw[aj];exact World.frozen?_alloc_at (w:=w.drew) I _ w.heap.size j rfl
 have c4:∀j v,w.cell? ⟨b,j,none⟩=some v->W1.cell? ⟨b,j,none⟩=some v:=fun j v h=>by rw[aj,World.cell?_alloc_past (w:=w.drew) _ b j d1];exact h
 have c5:∀j v,w.cell? ⟨vb,j,none⟩=some v->W1.cell? ⟨vb,j,none⟩=some v:=fun j v h=>by rw[aj,World.cell?_alloc_past (w:=w.drew) _ vb j d2];exact h
 have T:X5 m (n+m-i)=m:=by simp only[X4];split<;>omega
 have Z:X5 (n-i) (n+m-(i+m))=n-i:=by simp only[X4];split<;>omega
 have c6:∀(W:World),(∀x,W.cell? x=W1.cell? x)->(∀x,W.frozen? x=W1.frozen? x)->∀ty dc,(Builtin.copy_ #[(ρ.t 24),(ρ.t 24)] ty #[.slice (some ⟨w.heap.size,i*k,none⟩) (n+m-i) dc,.slice (some ⟨vb,a6,none⟩) m vc]).run P W=.ok (goInt m) (W.setCells w.heap.size (i*k) vs):=fun W ao bs ty dc=>by
  have:=z6c (k:=k) W (ρ.t 24) (ρ.t 24) ty (ρ.t 9) w.heap.size (i*k) (n+m-i) dc ⟨vb,a6,none⟩ m vc vs L.t24 b5 (by rw[cb,T])
   (fun j v hj=>by rw[Addr.add_lit,ao];exact c5 _ v (bv j v hj))
   (fun j hj=>by rw[ao];exact hN _ (by omega)) (fun j hj=>by rw[bs];exact bi _) cd
  rw[T]at this;exact this
 have dN:n+m<=G:=by rw[hG];exact grownCap_ge w _ _ _
 have dd:G<=9223372036854775807:=by
  have:=grownCap_le_maxLen w (n+m) c (ρ.t 9) ak;rw[<-hG]at this;unfold maxLen at this;omega
 have dO:¬(G=i):=by omega
 have dk:¬(G=i+m):=by omega
 have dP:¬(c=i):=by omega
 have d4:b≠w.heap.size:=by omega
 have c7:(cs.drop (i*k)).length=(n-i)*k:=by rw[Xh,c9,e4]
 have b2:∀(W:World),(∀x,W.cell? x=(W1.setCells w.heap.size (i*k) vs).cell? x)->(∀x,W.frozen? x=(W1.setCells w.heap.size (i*k) vs).frozen? x)->∀ty dc sc,(Builtin.copy_ #[(ρ.t 24),(ρ.t 24)] ty #[.slice (some ⟨w.heap.size,(i+m)*k,none⟩) (n+m-(i+m)) dc,.slice (some ⟨b,off+i*k,none⟩) (n-i) sc]).run P W=.ok (goInt ((n-i:Nat):Int)) (W.setCells w.heap.size ((i+m)*k) (cs.drop (i*k))):=fun W ao bs ty dc sc=>by
  have:=z6c (k:=k) W (ρ.t 24) (ρ.t 24) ty (ρ.t 9) w.heap.size ((i+m)*k) (n+m-(i+m)) dc ⟨b,off+i*k,none⟩ (n-i) sc (cs.drop (i*k)) L.t24 b5 (by rw[c7,Z])
   (fun j v hj=>by
    rw[Addr.add_lit,ao,World.cell?_setCells_out w.heap.size _ _ _ _ (fun h _=>absurd h d4),Xe];exact c4 _ v (b4 (i*k+j) v (by rwa [Xt]at hj)))
   (fun j hj=>by rw[ao];exact qm8 _ _ _ _ (fun t ht=>hN _ (by omega)) _ (hN _ (by omega)))
   (fun j hj=>by rw[bs,World.frozen?_setCells];exact bi _) (fun v hv=>cc v (Xf hv))
  rw[Z]at this;exact this
 subst aj;have d5:∀x,((w.alloc (.cells I (ρ.t 9))).drew).cell? x=(w.drew.alloc (.cells I (ρ.t 9))).cell? x:=fun x=>rfl;have d6:∀x,((w.alloc (.cells I (ρ.t 9))).drew).frozen? x=(w.drew.alloc (.cells I (ρ.t 9))).frozen? x:=fun x=>rfl;have d7:∀x,(((w.alloc (.cells I (ρ.t 9))).drew.setCells w.heap.size (i*k) vs).drew).cell? x=((w.drew.alloc (.cells I (ρ.t 9))).setCells w.heap.size (i*k) vs).cell? x:=fun x=>rfl;have d8:∀x,(((w.alloc (.cells I (ρ.t 9))).drew.setCells w.heap.size (i*k) vs).drew).frozen? x=((w.drew.alloc (.cells I (ρ.t 9))).setCells w.heap.size (i*k) vs).frozen? x:=fun x=>rfl;have dQ:IntKind.i64.wrap ((i:Int)+(m:Int))=(i:Int)+(m:Int):=by rw[IntKind.wrap_i64];unfold maxLen at ak;omega
 have dR:IntKind.i64.wrap ((n:Int)+(m:Int))=(n:Int)+(m:Int):=by rw[IntKind.wrap_i64];unfold maxLen at ak;omega
 have dS:IntKind.i64.wrap ((n:Int)+(m:Int)-(i:Int))=(n:Int)+(m:Int)-(i:Int):=by rw[IntKind.wrap_i64];unfold maxLen at ak;omega
 have dT:(0:Int)<=(i:Int)+(m:Int):=by omega
 have dU:i<=n:=by omega
 have dV:((i:Int)+(m:Int)).toNat=i+m:=by omega
 have dW:(i:Int)<=(n:Int):=by omega
 clear c3 b6 b1 an hG d3 e1 e2 e3 e4 c7 T Z cp d0 b5 hN bi c4 c5;obtain⟨_,_,FG⟩:=L.f22
 go_enter FG,Body2.n22_ntmps ρ
 go_wp2_with (first
  |(at_builtin;refine Lib.wpList_append_run _ rfl _ _ _ _ rfl _ _ rfl rfl _ _ (aq _) ?_)
  |(at_builtin;refine qz7 _ rfl _ _ (ρ.t 24) (ρ.t 24) rfl _ _ rfl rfl (c6 _ d5 d6 _ _) ?_)
  |(at_builtin;refine qz7 _ rfl _ _ (ρ.t 24) (ρ.t 24) rfl _ _ rfl rfl (b2 _ (fun _=>rfl) (fun _=>rfl) _ _ _) ?_))
 go_region_law_o (refine z7r rfl _ _ (ρ.t 24) (ρ.t 24) rfl (.slice (some ⟨w.heap.size,(i+m)*k,none⟩) (n+m-(i+m)) (G-(i+m))) (.slice (some ⟨b,off+i*k,none⟩) (n-i) (c-i)) (by simp[Act.eval,Act.put]) (by simp[Act.eval,Act.put]) (b2 _ d7 d8 (ρ.t 3) (G-(i+m)) (c-i)) ?_)
 go_wp2
 go_ret
 exact⟨rfl,rfl⟩
end
end Go.Proofs.YtomicnbiniapfaaGreat
set_option linter.unusedVariables false
set_option linter.unusedSimpArgs false
namespace Go.Proofs.YtomicnbiniapfaaGreat
open Go Go.RowKit Go.Lib Go.Shelf
section
variable {P:Program} {ρ:Ren}
def zs6{α:Type}(bytes:Nat)(xs:List α)(i:Int)(vs:List α):Option (List α):=
 u7 (0<=i/\i<=xs.length/\0<vs.length/\(xs.length+vs.length)*bytes<=140737488355328/\xs.length+vs.length<=maxLen) (some (xs.take i.toNat++vs++xs.drop i.toNat))
theorem q99(b:Nat):∀(vs:List Value) (o:Nat) (w:World),(w.setCells b o vs).os=w.os/\(w.setCells b o vs).tape=w.tape/\(w.setCells b o vs).output=w.output/\(w.setCells b o vs).drawn=w.drawn/\(w.setCells b o vs).heap.size=w.heap.size/\∀k,k≠b->(w.setCells b o vs).heap[k]?=w.heap[k]?
 |[],_,w=>⟨rfl,rfl,rfl,rfl,rfl,fun _ _=>rfl⟩
 |v::r,o,w=>by
  obtain⟨I,T,W,Z,h5,h6⟩:=q99 b r (o+1) (w.setCell ⟨b,o,none⟩ v);rw[World.setCells];refine⟨I,T,W,Z,by rw[h5];simp[World.setCell],fun k G=>(h6 k G).trans ?_⟩;simp[World.setCell,Array.getElem?_modify,Ne.symm G]
theorem qb3(b:Nat):∀(vs:List Value) (o:Nat) (w:World) (cur:Array Value) (e:TypeId),w.heap[b]?=some (.cells cur e (0,0))->∃cur',(w.setCells b o vs).heap[b]?=some (.cells cur' e (0,0))/\cur'.size=cur.size
 |[],_,w,cur,e,h=>⟨cur,h,rfl⟩
 |v::r,o,w,cur,e,h=>by
  rw[World.setCells,setCell_eq_setRow w b o cur e (0,0) v h];obtain⟨cur',G,I⟩:=qb3 b r (o+1) _ _ e (setRow_heap w b cur (cur.setIfInBounds o v) e (0,0) h);exact⟨cur',G,by rw[I];simp⟩
theorem qm3{w:World}{b:Nat}{cur:Array Value}{e:TypeId}(h:w.heap[b]?=some (.cells cur e (0,0))){j:Nat}(G:j<cur.size):(w.cell? ⟨b,j,none⟩).isSome=true:=by
 rw[cell_of_row w b j cur e (0,0) h,Xy G];rfl
theorem z6l{w:World}{b:Nat}{cur:Array Value}{e:TypeId}(h:w.heap[b]?=some (.cells cur e (0,0)))(j:Nat):w.frozen? ⟨b,j,none⟩=false:=by
 unfold World.frozen?;rw[h];simp
theorem cK{w:World}{b:Nat}{A B D:List Value}(Z:∀(j:Nat) (u:Value),A[j]?=some u->w.cell? ⟨b,j,none⟩=some u)(h2:∀(j:Nat) (u:Value),B[j]?=some u->w.cell? ⟨b,A.length+j,none⟩=some u)
 (h3:∀(j:Nat) (u:Value),D[j]?=some u->w.cell? ⟨b,A.length+B.length+j,none⟩=some u):∀(j:Nat) (u:Value),(A++B++D)[j]?=some u->w.cell? ⟨b,0+j,none⟩=some u:=by
 intro j u G;rw[Xj];rcases Nat.lt_or_ge j A.length with I|W
 . rw[X7,Xz I]at G;exact Z j u G
 rw[X7,Xu W]at G;rcases Nat.lt_or_ge (j-A.length) B.length with I|T
 .
  rw[Xz I]at G;have:=h2 _ u G
  rwa [show A.length+(j-A.length)=j by omega]at this
 rw[Xu T]at G;have:=h3 _ u G
 rwa [show A.length+B.length+(j-A.length-B.length)=j by omega]at this
theorem zy5{f:FuncId}{B:Func}(h:Bears P f B)(hb:B.body.isSome=true):q02 P f=true:=by
 obtain⟨T,G,I⟩:=h;unfold q02;rw[I];simp only[G,hb,Bool.not_false,Bool.and_self]
theorem zf0{w w':World}{β:aI}{A:Nat->Prop}{hp:Hp}{n k:Nat}(hA:∀b,A b->b<w.heap.size)(an:GS P w β hp)(ao:aV w β n A hp){xs:List (List AV)}{b C:Nat}{cur:Array Value}{e:TypeId}(aq:w.heap.size<=w'.heap.size)(G:∀T,T<w.heap.size->T≠b->w'.heap[T]?=w.heap[T]?)
 (hb:b<w.heap.size->bu β hp b)(W:w'.heap[b]?=some (.cells cur e (0,0)))(ar:cur.size=C*k)(b1:xs.length<=C)(b2:C<=maxLen){vs:List Value}(a6:y9 w β 0 (own β hp A) xs.flatten vs)(b3:∀r∈xs,r.length=k)(aj:∀u∈vs,u.oneCell'=true)
 (Z:∀(j:Nat) (u:Value),vs[j]?=some u->w'.cell? ⟨b,0+j,none⟩=some u)(h1:w'.os=w.os)(h2:w'.tape=w.tape)(h3:w'.output=w.output/\(dkF=true->w.drawn<=w'.drawn)){cap:Nat}(b4:xs.length<=cap)(bs:cap<=C):
 ∃β',rep w' β' (n+1) (own β' [(n,.arr k xs)] A) (.osl n k 0 xs.length) (.slice (some ⟨b,0,none⟩) xs.length cap)/\aV w' β' (n+1) A [(n,.arr k xs)]/\Ext w β n hp w' β' (n+1) [(n,.arr k xs)]:=by
 have hR:Rel (P:=P) ⟨w,β,n,hp,A,0⟩ ⟨n,[],hp,n,0⟩ {tmps:=#[],defers:=[]} w β:=
  {df:=rfl,nt:=rfl,ntc:=rfl,nb:=rfl,alt:=hA,gs:=an,hp:=ao,ext:={nx:=Xa _,gh:=fun _ _=>rfl,gi:=fun _ _ _=>rfl,ids:=fun p hp'=> .inl (Xl hp'),blk:=fun p hp' b I=> .inl ⟨p,hp',I⟩,os:=rfl,tape:=rfl,output:=⟨rfl,fun _=>Xa _⟩,size:=Xa _,keep:=fun _ _ _=>rfl},env:=fun t=>by simp only[q0x,rep]}
 have:=hR.more (w':=w') (bc:=some (b,C)) (o:=.arr k xs) (hp1:=[]) (Ya _) aq (fun T b5 b6=>G T b5 (fun e=>b6 C (by rw[e]))) (fun T c I ak=>by
  simp only[Xq,Prod.mk.injEq]at I;rw[<-I.1]at ak⊢;exact⟨hb ak,by rintro⟨q,hq,_⟩;cases hq⟩) (fun ow' bi=>by
  refine .inr ⟨b,C,cur,e,q1i _ _ _,W,ar,b1,b2,?_⟩;refine q6u b3 ?_ aj Z;exact q1r bi 0 0 (Xa _) (fun _ hi=>absurd hi (Nat.not_lt_zero _)) _ _ a6) h1 h2 h3
 refine⟨upd β n (some (b,C)),?_,this.hp,this.ext⟩;simp only[rep];exact⟨Nat.lt_succ_self _,.inr ⟨b,C,cap,⟨b,0,none⟩,q1i _ _ _,rfl,b4,by omega,.inl (by simp)⟩⟩
theorem jt9{t:TypeId}{k:Nat}{e:TypeId}{zs:List Value}{w:World}{β:aI}{A:Nat->Prop}{xs ys:List (List AV)}{u1 u2:Value}(hA:∀b,A b->b<w.heap.size)(aj:GS P w β [(0,.arr k xs),(1,.arr k ys)])(ak:aV w β 2 A [(0,.arr k xs),(1,.arr k ys)])
 (h1:rep w β 2 (own β [(0,.arr k xs),(1,.arr k ys)] A) (.osl 0 k 0 xs.length) u1)(h2:rep w β 2 (own β [(0,.arr k xs),(1,.arr k ys)] A) (.osl 1 k 0 ys.length) u2)(he:aO P t=some e)(hT:q19 P e=true)(hk:szT P e=k)(hz:q1w P e=some zs)(an:zs.length=k)
 (ao:0<q2h P e)(W:(xs.length+ys.length)*q2h P e<=140737488355328):
 ∃v w' β',(∀ty,(Builtin.append_ #[t,t] ty #[u1,u2]).run P w=.ok v w')/\rep w' β' 3 (own β' [(2,.arr k (xs++ys))] A) (.osl 2 k 0 (xs.length+ys.length)) v/\aV w' β' 3 A [(2,.arr k (xs++ys))]/\Ext w β 2 [(0,.arr k xs),(1,.arr k ys)] w' β' 3 [(2,.arr k (xs++ys))]:=by
 let o:Oper:={dst:=some 0,op:=.call {callee:=.builtin .append,args:=#[.tmp 0,.tmp 1],argTypes:=#[t,t]},type:=0,guard:=none,after:=#[],pos:=""}
 let C:Ctx P:=⟨w,β,2,[(0,.arr k xs),(1,.arr k ys)],A,2⟩
 let s:St:=⟨2,[(0,.osl 0 k 0 xs.length),(1,.osl 1 k 0 ys.length)],[(0,.arr k xs),(1,.arr k ys)],2,2⟩
 let a:Act:={tmps:=#[u1,u2],defers:=[]}
 have hR:Rel C s a w β:=
  {df:=rfl,nt:=rfl,ntc:=rfl,nb:=rfl,alt:=hA,gs:=aj,hp:=ak,ext:={nx:=Xa _,gh:=fun _ _=>rfl,gi:=fun _ _ _=>rfl,ids:=fun p hp'=> .inl (Xl hp'),blk:=fun p hp' b aq=> .inl ⟨p,hp',aq⟩,os:=rfl,tape:=rfl,output:=⟨rfl,fun _=>Xa _⟩,size:=Xa _,keep:=fun _ _ _=>rfl},env:=fun j=>by
    match j with
    |0=>exact h1
    |1=>exact h2
    |j+2=>simp only[s,q0x];rw[if_neg (by omega),if_neg (by omega)];simp only[rep]}
 have Z:z2i s.hp (x8 s.env (.tmp 1)).st=some (k,ys,k=k/\0+ys.length<=ys.length):=by simp[s,x8,q0x,AV.st,z2i,q0i]
 have G:=zu3 (P:=P) (K:=fun s'=>s'=(⟨2,[(0,.osl 2 k 0 (xs.length+ys.length)),(0,.osl 0 k 0 xs.length),(1,.osl 1 k 0 ys.length)],[(2,.arr k (xs++ys)),(1,.arr k ys)],3,2⟩:St)) (Q:=fun _ _ _=>False) (szx:=k) (szy:=k) (xs:=xs) (ys:=ys) (ids:=[0]) hR (o:=o) (x:=.tmp 0) (y:=.tmp 1) rfl rfl rfl rfl trivial trivial rfl ⟨rfl,rfl,rfl⟩
  Z ⟨rfl,by simp⟩ he hT hz (by rw[an,hk]) (.inr hk.symm) (.inr hk.symm) ao W rfl (by rw[hk];simp[o,s,St.put,q74,q4l])
 have ar:=z6q (P:=P) (a:=a) (w:=w) (o:=o) (x:=.tmp 0) (y:=.tmp 1) (ts:=[t,t]) rfl rfl rfl rfl rfl;unfold Oper.wp at G;rw[ar]at G;have T:∀ty,(Builtin.append_ #[t,t] ty #[u1,u2]).run P w=(Builtin.append_ ⟨[t,t]⟩ o.type #[a.eval (.tmp 0),a.eval (.tmp 1)]).run P w:=fun ty=>rfl
 revert G T
 generalize (Builtin.append_ ⟨[t,t]⟩ o.type #[a.eval (.tmp 0),a.eval (.tmp 1)]).run P w=b1
 intro G T
 cases b1 with
 |halt x w'=>cases x<;>exact G.elim
 |ok v w'=>
  obtain⟨s',β',a6,rfl⟩:=G;have I:=a6.sub (hp':=[(2,.arr k (xs++ys))]) (by simp);have hv:=a6.env 0;refine⟨v,w',β',T,?_,I.hp,I.ext⟩;simp only[q0x,if_true]at hv;simp only[rep]at hv⊢;exact hv
theorem j6v{k bytes:Nat}{z:Value}(L:cg P ρ k bytes z)(hb:(Body2.n22 ρ).body.isSome=true)(hT:q19 P (ρ.t 9)=true)(hk:0<k)(d5:z.cells.size=k)(dX:0<bytes){α:Type}[Row α](eh:Row.sz α=k)(d6:∀x:α,(Row.row x).length=k)
 {xs vs r:List α}{i:Int}(h:zs6 bytes xs i vs=some r):
 ba P (ρ.f 22) [.osl 0 k 0 xs.length,.v (.int .i64 i),.osl 1 k 0 vs.length] [(0,.arr k (enc xs)),(1,.arr k (enc vs))] 2 (.osl 2 k 0 r.length) [(2,.arr k (enc r))] 3:=by
 obtain⟨⟨g1,g2,g3,g4,g5⟩,h⟩:=q06 h;simp only[Xq]at h;obtain⟨I,rfl⟩:=Xo g1;rw[Xx]at h;have dY:I<=xs.length:=by omega
 have a6:r.length=xs.length+vs.length:=by rw[<-h];simp;omega
 intro w β A us hA aj b1 c0;refine bx.of (zy5 L.f22 hb) ?_
 match us,aj with
 |[u1,u2,u3],aj=>
 simp only[y9,and_true]at aj;obtain⟨r1,r2,r3⟩:=aj;have dZ:u2=.int .i64 I:=by simpa only[rep]using r2
 subst dZ;obtain⟨i0,d7,e0,e4,e5⟩:=L.i9;have e6:aO P (ρ.t 24)=some (ρ.t 9):=by simp[aO,L.t24]
 have dL:szT P (ρ.t 9)=k:=by simp[szT,d7,e4]
 have cc:q2h P (ρ.t 9)=bytes:=by simp[q2h,d7,e5]
 have d8:q1w P (ρ.t 9)=some z.cells.toList:=by simp[q1w,d7,e0]
 have ei:∀q∈enc xs,q.length=k:=by
  intro q hq;obtain⟨x,_,rfl⟩:=X0.1 hq;exact d6 x
 have ej:∀q∈enc vs,q.length=k:=by
  intro q hq;obtain⟨x,_,rfl⟩:=X0.1 hq;exact d6 x
 have hR:Rel (P:=P) ⟨w,β,2,[(0,.arr k (enc xs)),(1,.arr k (enc vs))],A,0⟩ ⟨2,[],[(0,.arr k (enc xs)),(1,.arr k (enc vs))],2,0⟩ {tmps:=#[],defers:=[]} w β:=
  {df:=rfl,nt:=rfl,ntc:=rfl,nb:=rfl,alt:=hA,gs:=c0,hp:=b1,ext:={nx:=Xa _,gh:=fun _ _=>rfl,gi:=fun _ _ _=>rfl,ids:=fun p hp'=> .inl (Xl hp'),blk:=fun p hp' b e7=> .inl ⟨p,hp',e7⟩,os:=rfl,tape:=rfl,output:=⟨rfl,fun _=>Xa _⟩,size:=Xa _,keep:=fun _ _ _=>rfl},env:=fun t=>by simp only[q0x,rep]}
 have dc:=r1;have dM:=r3;simp only[rep]at dc dM;rcases dM.2 with⟨_,_,h0,_⟩|⟨vb,vC,b3,va,dN,rfl,e8,ek,e9⟩
 . omega
 have dO:va=⟨vb,0,none⟩:=by
  rcases e9 with rfl|⟨_,h0⟩
  . simp
  exact absurd rfl h0
 subst dO;obtain⟨cd,ve,T,v1,v2,v3,v4,v5,v6,v7,v8,v9⟩:=z1p hR (id:=1) (sz:=k) (xs:=enc vs) (by simp[q0i]) dN;rw[q17]at v8 v3
 by_cases cl:I=xs.length
 .
  obtain⟨v,w',β',q1,q2,q3,q4⟩:=jt9 hA c0 b1 (by rw[q17];exact r1) (by rw[q17];exact r3) e6 hT dL d8 (by simpa using d5) (by rw[cc];exact dX) (by rw[q17,q17,cc];exact g4);have hr:enc xs++enc vs=enc r:=by rw[<-h,cl];simp[enc]
  rw[hr]at q2 q3 q4;rw[q17,q17,<-a6]at q2;have ea:∃base c,u1=.slice base xs.length c/\xs.length<=c/\(base=none->xs.length=0):=by
   rcases dc.2 with⟨_,_,h0,rfl⟩|⟨b,C,cap,a,_,rfl,hc,_⟩
   . exact⟨none,0,by rw[h0],by omega,fun _=>h0⟩
   exact⟨some a,cap,rfl,hc,fun h=>by cases h⟩
  obtain⟨base,c,rfl,hc,dP⟩:=ea;have:=j6u L base xs.length c vb 0 vs.length b3 w g3 hc dP q1;rw[cl];refine this.mono ?_;rintro e en ⟨rfl,rfl⟩;exact⟨v,_,_,_,β',rfl,⟨rfl,rfl,rfl⟩,q2,q3,q4⟩
 have dQ:I<xs.length:=by omega
 rcases dc.2 with⟨_,_,h0,_⟩|⟨b,C,cap,a,cb,rfl,dR,hC,ha⟩
 . omega
 have eb:a=⟨b,0,none⟩:=by
  rcases ha with rfl|⟨_,h0⟩
  . simp
  exact absurd rfl h0
 subst eb;obtain⟨cur,e,cs,c1,c2,c3,c4,c5,c6,c7,c8,c9⟩:=z1p hR (id:=0) (sz:=k) (xs:=enc xs) (by simp[q0i]) cb;rw[q17]at c8 c3;have ec:vb≠b:=fun hx=>by
  subst hx;have:=b1.inj (1,.arr k (enc vs)) (by simp) (0,.arr k (enc xs)) (by simp) vb vC C dN cb
  cases this
 have dd:∀j v,cs[j]?=some v->w.cell? ⟨b,0+j,none⟩=some v:=fun j v hj=>by
  rw[Xj,cell_of_row w b j cur e (0,0) c1];simpa using c9 j v hj
 have dS:∀j v,T[j]?=some v->w.cell? ⟨vb,0+j,none⟩=some v:=fun j v hj=>by
  rw[Xj,cell_of_row w vb j cd ve (0,0) v1];simpa using v9 j v hj
 have eo:=b1.blt (0,.arr k (enc xs)) (by simp) b C cb;have dk:enc r=(enc xs).take I++enc vs++(enc xs).drop I:=by rw[<-h];simp[enc]
 have cp:y9 w β 0 (own β [(0,.arr k (enc xs)),(1,.arr k (enc vs))] A) (enc r).flatten (cs.take (I*k)++T++cs.drop (I*k)):=by
  rw[dk,Xs,Xs,z0i I c5,z6m I c5];exact q6m (q6m (q7o c6 _) v6) (q9v c6 _)
 have d0:∀u∈cs.take (I*k)++T++cs.drop (I*k),u.oneCell'=true:=by
  intro u hu;rcases X3.1 hu with hu|hu
  .
   rcases X3.1 hu with hu|hu
   . exact c7 u (X6 hu)
   exact v7 u hu
  exact c7 u (Xf hu)
 have dT:∀q∈enc r,q.length=k:=by
  intro q hq;obtain⟨x,_,rfl⟩:=X0.1 hq;exact d6 x
 have k1:(I+vs.length)*k=I*k+vs.length*k:=Xi _ _ _;have k2:(xs.length+vs.length)*k=xs.length*k+vs.length*k:=Xi _ _ _;have k3:I*k<=xs.length*k:=Xb _ dY;have an:(cs.take (I*k)).length=I*k:=by rw[Xr];omega
 by_cases b4:xs.length+vs.length<=cap
 .
  have eg:(xs.length+vs.length)*k<=cur.size:=by rw[c2];exact Xb _ (by omega)
  have ao:=j1x L b 0 xs.length cap I vb 0 vs.length b3 cs T w hk dQ g3 b4 (by unfold maxLen at c4;omega) ec c8 v8 dd (fun j hj=>by rw[Xj];exact qm3 c1 (by omega)) (fun j _=>z6l c1 _) dS c7 v7
   ve e cd.size cur.size (by unfold World.shape?;rw[v1]) (by unfold World.shape?;rw[c1]) (by have:=X8 (by omega:0<xs.length+vs.length) hk;omega) (z6l v1 _) (z6l v1 _)
  refine ao.mono ?_;rintro e' w' ⟨rfl,rfl⟩;obtain⟨f1,f2,f3,f4,f5,f6⟩:=q99 b (cs.drop (I*k)) (0+(I+vs.length)*k) w.drew;obtain⟨m1,m2,m3,m4,m5,m6⟩:=q99 b T (0+I*k) (w.drew.setCells b (0+(I+vs.length)*k) (cs.drop (I*k)));obtain⟨b5,d1,d2⟩:=qb3 b (cs.drop (I*k)) (0+(I+vs.length)*k) w.drew cur e c1;obtain⟨b6,d3,d4⟩:=qb3 b T (0+I*k) _ b5 e d1;have ee:(cs.drop (I*k)).length=xs.length*k-I*k:=by rw[Xh,c8]
  have aq:∀(j:Nat) (u:Value),(cs.take (I*k)++T++cs.drop (I*k))[j]?=some u->((w.drew.setCells b (0+(I+vs.length)*k) (cs.drop (I*k))).setCells b (0+I*k) T).cell? ⟨b,0+j,none⟩=some u:=by
   refine cK (fun j u hj=>?_) (fun j u hj=>?_) (fun j u hj=>?_)
   .
    have W:j<I*k:=by
     have:=(Xc.1 hj).1;omega
    rw[World.cell?_setCells_out b _ _ _ _ (fun _ _=>by left;show j<_;omega),World.cell?_setCells_out b _ _ _ _ (fun _ _=>by left;show j<_;omega)];rw[Xm,if_pos W]at hj;have:=dd j u hj;rw[Xj]at this;exact this
   .
    have W:j<T.length:=(Xc.1 hj).1;rw[an,show I*k+j=0+I*k+j by omega,World.cell?_setCells_in b T (0+I*k) _ (fun t ht=>by
     refine qm8 b _ _ _ (fun t' er=>?_) _ ?_
     . exact qm3 (w:=w.drew) c1 (by omega)
     exact qm3 (w:=w.drew) c1 (by omega)) j W]
    rw[Xd W]at hj;exact hj
   have W:j<(cs.drop (I*k)).length:=(Xc.1 hj).1;rw[an,v8,World.cell?_setCells_out b T _ _ _ (fun _ _=>by right;show _<=I*k+vs.length*k+j;omega),show I*k+vs.length*k+j=0+(I+vs.length)*k+j by omega,
    World.cell?_setCells_in b (cs.drop (I*k)) (0+(I+vs.length)*k) _ (fun t ht=>qm3 (w:=w.drew) c1 (by omega)) j W]
   rw[Xd W]at hj;exact hj
  obtain⟨β',q1,q2,q3⟩:=zf0 (k:=k) hA c0 b1 (xs:=enc r) (b:=b) (C:=C) (cur:=b6) (e:=e) (w':=(w.drew.setCells b (0+(I+vs.length)*k) (cs.drop (I*k))).setCells b (0+I*k) T) (by rw[m5,f5];exact Xa _) (fun b' _ b2=>(m6 b' b2).trans (f6 b' b2)) (fun _=>q9f (p:=(0,.arr k (enc xs))) (by simp) cb) d3 (by rw[d4,d2];exact c2) (by rw[q17,a6];omega) c4 cp dT d0 aq (by rw[m1,f1];rfl) (by rw[m2,f2];rfl) ⟨by rw[m3,f3];rfl,fun _=>by rw[m4,f4];exact X9 _⟩ (cap:=cap) (by rw[q17,a6];exact b4) (by omega);rw[q17]at q1;exact⟨_,_,_,_,β',by rw[a6],⟨rfl,rfl,rfl⟩,q1,q2,q3⟩
 have ao:=j3r L b 0 xs.length cap I vb 0 vs.length b3 cs T w hk d5 dQ g3 dR (by omega) g4 g5 c8 v8 dd dS c7 v7;refine ao.mono ?_;rintro e' w' ⟨rfl,rfl⟩;have bi:xs.length+vs.length<=grownCap w (xs.length+vs.length) cap (ρ.t 9):=grownCap_ge w _ _ _;have ds:grownCap w (xs.length+vs.length) cap (ρ.t 9)<=maxLen:=grownCap_le_maxLen w _ _ _ g5
 revert bi ds
 generalize grownCap w (xs.length+vs.length) cap (ρ.t 9)=G
 intro bi ds;obtain⟨Z,bs⟩:∃Z:Array Value,Z=(cs.take (I*k)).toArray++Builtin.zeroCells z.cells (xs.length+vs.length-I)++Builtin.zeroCells z.cells (G-(xs.length+vs.length)):=⟨_,rfl⟩;rw[<-bs];have dU:Z.size=G*k:=by
  rw[bs];have e1:(xs.length+vs.length-I)*k=(xs.length+vs.length)*k-I*k:=Xg _ _ _;have e2:(G-(xs.length+vs.length))*k=G*k-(xs.length+vs.length)*k:=Xg _ _ _;have e3:(xs.length+vs.length)*k<=G*k:=Xb _ bi;simp only[Xw,Xp,an,size_zeroCells,d5];omega
 have ef:∀j,j<I*k->Z[j]?=cs[j]?:=fun j hj=>by
  rw[bs,Xv (by simp only[Xw,Xp,an];omega),Xv (by simp only[Xp,an];omega),List.getElem?_toArray,Xm,if_pos hj]
 have es:(xs.length+vs.length)*k<=Z.size:=by rw[dU];exact Xb _ bi
 have ak:(w.alloc (.cells Z (ρ.t 9))).drew.heap[w.heap.size]?=some (.cells Z (ρ.t 9) (0,0)):=heap_alloc_new w _;have bv:(w.alloc (.cells Z (ρ.t 9))).drew.heap.size=w.heap.size+1:=by show (w.alloc _).heap.size=_;simp
 have ar:∀b',b'<w.heap.size->(w.alloc (.cells Z (ρ.t 9))).drew.heap[b']?=w.heap[b']?:=fun b' b2=>Below.heap_alloc w _ b' b2
 revert ak bv ar
 have dI:(w.alloc (.cells Z (ρ.t 9))).drew.os=w.os:=rfl;have dJ:(w.alloc (.cells Z (ρ.t 9))).drew.tape=w.tape:=rfl;have dK:(w.alloc (.cells Z (ρ.t 9))).drew.output=w.output:=rfl;have dV:w.drawn<=(w.alloc (.cells Z (ρ.t 9))).drew.drawn:=X9 _
 revert dI dJ dK dV
 generalize (w.alloc (.cells Z (ρ.t 9))).drew=W0
 intro dI dJ dK dV ak bv ar;obtain⟨f1,f2,f3,f4,f5,f6⟩:=q99 w.heap.size T (I*k) W0;obtain⟨b5,d1,d2⟩:=qb3 w.heap.size T (I*k) W0 Z (ρ.t 9) ak;obtain⟨m1,m2,m3,m4,m5,m6⟩:=q99 w.heap.size (cs.drop (I*k)) ((I+vs.length)*k) (W0.setCells w.heap.size (I*k) T).drew;obtain⟨b6,d3,d4⟩:=qb3 w.heap.size (cs.drop (I*k)) ((I+vs.length)*k) (W0.setCells w.heap.size (I*k) T).drew b5 (ρ.t 9) d1;have ee:(cs.drop (I*k)).length=xs.length*k-I*k:=by rw[Xh,c8]
 have aq:∀(j:Nat) (u:Value),(cs.take (I*k)++T++cs.drop (I*k))[j]?=some u->((W0.setCells w.heap.size (I*k) T).drew.setCells w.heap.size ((I+vs.length)*k) (cs.drop (I*k))).cell? ⟨w.heap.size,0+j,none⟩=some u:=by
  refine cK (fun j u hj=>?_) (fun j u hj=>?_) (fun j u hj=>?_)
  .
   have W:j<I*k:=by
    have:=(Xc.1 hj).1;omega
   rw[World.cell?_setCells_out w.heap.size _ _ _ _ (fun _ _=>by left;show j<_;omega)]
   show (W0.setCells w.heap.size (I*k) T).cell? _=_
   rw[World.cell?_setCells_out w.heap.size _ _ _ _ (fun _ _=>by left;show j<_;omega),cell_of_row W0 w.heap.size j Z (ρ.t 9) (0,0) ak,ef j W]
   rwa [Xm,if_pos W]at hj
  .
   have W:j<T.length:=(Xc.1 hj).1;rw[an,World.cell?_setCells_out w.heap.size _ _ _ _ (fun _ _=>by left;show I*k+j<_;omega)]
   show (W0.setCells w.heap.size (I*k) T).cell? _=_
   rw[World.cell?_setCells_in w.heap.size T (I*k) _ (fun t ht=>qm3 ak (by omega)) j W];rw[Xd W]at hj;exact hj
  have W:j<(cs.drop (I*k)).length:=(Xc.1 hj).1;rw[an,v8,show I*k+vs.length*k+j=(I+vs.length)*k+j by omega,
   World.cell?_setCells_in w.heap.size (cs.drop (I*k)) ((I+vs.length)*k) _ (fun t ht=>by
    show ((W0.setCells w.heap.size (I*k) T).cell? _).isSome=true
    exact qm3 d1 (by rw[d2];omega)) j W]
  rw[Xd W]at hj;exact hj
 obtain⟨β',q1,q2,q3⟩:=zf0 (k:=k) hA c0 b1 (xs:=enc r) (b:=w.heap.size) (C:=G) (cur:=b6) (e:=ρ.t 9) (w':=(W0.setCells w.heap.size (I*k) T).drew.setCells w.heap.size ((I+vs.length)*k) (cs.drop (I*k))) (by rw[m5];show _<=(W0.setCells w.heap.size (I*k) T).heap.size;rw[f5,bv];omega) (fun b' b2 dW=>(m6 b' dW).trans ((f6 b' dW).trans (ar b' b2))) (fun hx=>absurd hx (Nat.lt_irrefl _)) d3 (by rw[d4,d2,dU]) (by rw[q17,a6];omega) ds cp dT d0 aq (by rw[m1];show (W0.setCells w.heap.size (I*k) T).os=_;rw[f1];exact dI) (by rw[m2];show (W0.setCells w.heap.size (I*k) T).tape=_;rw[f2];exact dJ) ⟨by rw[m3];show (W0.setCells w.heap.size (I*k) T).output=_;rw[f3];exact dK,fun _=>by rw[m4];show _<=(W0.setCells w.heap.size (I*k) T).drawn+1;rw[f4];omega⟩ (cap:=G) (by rw[q17,a6];exact bi) (Xa _);rw[q17]at q1;exact⟨_,_,_,_,β',by rw[a6],⟨rfl,rfl,rfl⟩,q1,q2,q3⟩
end
end Go.Proofs.YtomicnbiniapfaaGreat
set_option linter.unusedVariables false
set_option linter.unusedSimpArgs false
namespace Go.Proofs.YtomicnbiniapfaaGreat
open Go Go.RowKit Go.Lib Go.Shelf
section
variable {P:Program} {ρ:Ren}
structure cn(P:Program)(ρ:Ren)(k:Nat)(z:Value):Prop where
 mixed:P.follows .mixedOrders=true
 f24:Bears P (ρ.f 24) (Body2.n24 ρ)
 t0:P.underlying (ρ.t 0)=some (TypeDesc.tuple #[])
 a0:∀w,(isAgg (ρ.t 0)).run P w=.ok false w
 z0:∀w,(Go.sizeOf (ρ.t 0)).run P w=.ok 1 w
 v0:∀w,(zeroValue (ρ.t 0)).run P w=.ok (Value.tuple #[]) w
 t3:P.underlying (ρ.t 3)=some (TypeDesc.int IntKind.i64)
 a3:∀w,(isAgg (ρ.t 3)).run P w=.ok false w
 z3:∀w,(Go.sizeOf (ρ.t 3)).run P w=.ok 1 w
 v3:∀w,(zeroValue (ρ.t 3)).run P w=.ok (Value.int IntKind.i64 0) w
 t4:P.underlying (ρ.t 4)=some (TypeDesc.bool)
 a4:∀w,(isAgg (ρ.t 4)).run P w=.ok false w
 z4:∀w,(Go.sizeOf (ρ.t 4)).run P w=.ok 1 w
 v4:∀w,(zeroValue (ρ.t 4)).run P w=.ok (Value.bool false) w
 z9:∀w,(Go.sizeOf (ρ.t 9)).run P w=.ok k w
 v9:∀w,(zeroValue (ρ.t 9)).run P w=.ok z w
 t24:P.underlying (ρ.t 24)=some (TypeDesc.slice (ρ.t 9))
 a24:∀w,(isAgg (ρ.t 24)).run P w=.ok false w
 z24:∀w,(Go.sizeOf (ρ.t 24)).run P w=.ok 1 w
 v24:∀w,(zeroValue (ρ.t 24)).run P w=.ok (Value.slice none 0 0) w
 i9:∃i,P.info? (ρ.t 9)=some i/\i.zero=some z/\i.size=k
theorem j5p{k:Nat}(w:World)(t e ty:TypeId)(z:Value)(ht:P.underlying t=some (.slice e))(hv:∀w,(zeroValue e).run P w=.ok z w)(Z:z.cells.size=k)(hk:0<k)(h1:∀u∈z.cells.toList,u.oneCell'=true)(b o n c:Nat)(hn:0<n)
 (hc:∀j,j<n*k->(w.cell? ⟨b,o+j,none⟩).isSome=true)(hf:∀j,j<n*k->w.frozen? ⟨b,o+j,none⟩=false):
 (Builtin.clear_ #[t] ty #[.slice (some ⟨b,o,none⟩) n c]).run P w=.ok (.tuple #[]) (w.setCells b o (Xk n z.cells.toList).flatten):=by
 have hl:((Xk n z.cells.toList).flatten).length=n*k:=by
  rw[List.length_flatten];simp only[List.map_replicate,Array.length_toList,Z,List.sum_replicate_nat]
 have G:=run_storeCells_cells (P:=P) b o (Xk n z.cells.toList).flatten 0 w (by rw[hl];simpa using hc) (by rw[hl];simpa using hf) (by
  intro u hu;obtain⟨l',T,I⟩:=List.mem_flatten.1 hu;rw[List.eq_of_mem_replicate T]at I;exact h1 u I)
 simp only[Nat.add_zero]at G;have W:=z7p (z:=z) (by simpa [Z]using hk) n;obtain⟨m,rfl⟩:∃m,n=m+1:=⟨n-1,by omega⟩;simp[Builtin.clear_,run_underlying ht,hv,W,G]
set_option maxHeartbeats 4000000 in
set_option maxRecDepth 1000000 in
theorem zg7{k:Nat}{z:Value}(L:cn P ρ k z)(base:Option Addr)(n cap i:Nat)(w:World)(G:n<=cap)(W:cap<=9223372036854775807)(hi:i<=n):
 Calls P (ρ.f 24) #[.slice base n cap,.int .i64 i,.int .i64 i] w fun e w'=>e=.returned (.slice base n cap)/\w'=w:=by
 have mixed:=L.mixed;have t0:=L.t0;have a0:=L.a0;have z0:=L.z0;have v0:=L.v0;have t3:=L.t3;have a3:=L.a3;have z3:=L.z3;have v3:=L.v3;have t4:=L.t4;have a4:=L.a4;have z4:=L.z4;have v4:=L.v4;have z9:=L.z9;have t24:=L.t24;have a24:=L.a24;have z24:=L.z24;have v24:=L.v24;obtain⟨_,_,I⟩:=L.f24
 go_enter I,Body2.n24_ntmps ρ
 cases base with
 |none=>
  go_wp2
  all_goals (go_ret;exact⟨rfl,rfl⟩)
 |some a=>
  obtain⟨ab,Z,T⟩:=a
  go_wp2
  all_goals (go_ret;exact⟨rfl,rfl⟩)
set_option maxHeartbeats 4000000 in
set_option maxRecDepth 1000000 in
theorem j2j{k:Nat}{z:Value}(L:cn P ρ k z)(hk:0<k)(ak:z.cells.size=k)(an:∀u∈z.cells.toList,u.oneCell'=true)(b off n cap i j:Nat)(cs:List Value)(w:World)(ao:cs.length=n*k)(aq:∀t v,cs[t]?=some v->w.cell? ⟨b,off+t,none⟩=some v)(ar:∀v∈cs,v.oneCell'=true)
 (W:∀t,t<n*k->(w.cell? ⟨b,off+t,none⟩).isSome=true)(a6:∀t,t<n*k->w.frozen? ⟨b,off+t,none⟩=false)(b6:n<=cap)(hm:cap<=9223372036854775807)(bi:i<j)(hj:j<=n):
 Calls P (ρ.f 24) #[.slice (some ⟨b,off,none⟩) n cap,.int .i64 i,.int .i64 j] w fun e w'=>e=.returned (.slice (some ⟨b,off,none⟩) (i+(n-j)) cap)/\
  w'=(w.drew.setCells b (off+i*k) (cs.drop (j*k))).setCells b (off+(i+(n-j))*k) (Xk (n-(i+(n-j))) z.cells.toList).flatten:=by
 have mixed:=L.mixed;have t0:=L.t0;have a0:=L.a0;have z0:=L.z0;have v0:=L.v0;have t3:=L.t3;have a3:=L.a3;have z3:=L.z3;have v3:=L.v3;have t4:=L.t4;have a4:=L.a4;have z4:=L.z4;have v4:=L.v4;have z9:=L.z9;have t24:=L.t24;have a24:=L.a24;have z24:=L.z24;have v24:=L.v24;obtain⟨i0,b3,b4,b5⟩:=L.i9;have e1:j*k<=n*k:=Xb _ hj;have e2:(n-j)*k=n*k-j*k:=Xg _ _ _;have e3:(i+(n-j))*k=i*k+(n-j)*k:=Xi _ _ _;have e4:(i+(n-j))*k<=n*k:=Xb _ (by omega);have e5:(n-(i+(n-j)))*k=n*k-(i+(n-j))*k:=Xg _ _ _;obtain⟨news,G⟩:∃news,news=cs.drop (j*k):=⟨_,rfl⟩;have I:news.length=(n-j)*k:=by rw[G,Xh,ao,e2]
 obtain⟨A,hA,b1⟩:∃A:Addr,(if cap=j then some (⟨b,off,none⟩:Addr)else some ⟨b,off+j*k,none⟩)=some A/\Hid (∀t u,news[t]?=some u->w.drew.cell? (A.add t)=some u):=by
  by_cases h:cap=j
  .
   refine⟨⟨b,off,none⟩,by simp[h],fun t u Z=>?_⟩;have h0:news.length=0:=by rw[I,show n-j=0 by omega,Nat.zero_mul]
   rw[List.length_eq_zero_iff.1 h0]at Z;simp at Z
  refine⟨⟨b,off+j*k,none⟩,by simp[h],fun t u Z=>?_⟩;rw[G,Xt]at Z;rw[Addr.add_lit,Xe];exact aq _ u Z
 have s1:Hid (news.length=(n-j)*k):=I;have s2:Hid (∀u∈news,u.oneCell'=true):=fun u Z=>ar u (by rw[G]at Z;exact Xf Z);have s3:Hid (∀t,t<news.length->(w.drew.cell? ⟨b,off+i*k+t,none⟩).isSome=true/\w.drew.frozen? ⟨b,off+i*k+t,none⟩=false):=by
  intro t ht;rw[I]at ht;rw[Xe];exact⟨W _ (by omega),a6 _ (by omega)⟩
 obtain⟨W1,T⟩:∃W1,W1=w.drew.setCells b (off+i*k) news:=⟨_,rfl⟩;have b2:∀ty,(Builtin.clear_ #[ρ.t 24] ty #[.slice (some ⟨b,off+(i+(n-j))*k,none⟩) (n-(i+(n-j))) (cap-(i+(n-j)))]).run P W1=.ok (.tuple #[]) (W1.setCells b (off+(i+(n-j))*k) (Xk (n-(i+(n-j))) z.cells.toList).flatten):=
  fun ty=>j5p W1 _ _ ty _ t24 L.v9 ak hk an b (off+(i+(n-j))*k) _ _ (by omega) (fun t ht=>by
   rw[T,Xe];exact qm8 b _ _ _ (fun t' bs=>by rw[Xe];exact W _ (by omega)) _ (W _ (by omega))) (fun t ht=>by rw[T,World.frozen?_setCells,Xe];exact a6 _ (by omega))
 obtain⟨zl,aj⟩:∃zl,zl=z.cells.toList:=⟨_,rfl⟩;rw[<-aj];rw[<-aj]at b2;clear aj an ak b4;have X:Hid (W1=w.drew.setCells b (off+i*k) news/\news=cs.drop (j*k)):=⟨T,G⟩;have hW:Hid (W1=w.drew.setCells b (off+i*k) news):=T;have bv:i<=cap:=by omega
 have c0:j<=cap:=by omega
 clear T aq G I e1 e2 e3 e4 e5 W a6 ar ao;obtain⟨_,_,FG⟩:=L.f24
 go_enter FG,Body2.n24_ntmps ρ
 go_wp2_with fail
 go_region_law_o (refine step_append_room rfl (.tmp 22) (.tmp 25) (ρ.t 24) rfl (ρ.t 9) i0 k t24 b3 b5 b off i cap (by simp[Act.eval,Act.put]) A (n-j) (cap-j) news (by simp[Act.eval,Act.put]) s1.out b1.out s2.out (by omega) s3.out ?_;rw[<-hW.out])
 go_wp2
 go_ret
 exact⟨rfl,by rw[X.out.1,X.out.2]⟩
def zt9{α:Type}(xs:List α)(i j:Int):Option (List α):=
 u7 (0<=i/\i<=j/\j<=xs.length) (some (xs.take i.toNat++xs.drop j.toNat))
theorem j79{k:Nat}{z:Value}(L:cn P ρ k z)(hb:(Body2.n24 ρ).body.isSome=true)(hk:0<k)(bv:z.cells.size=k)(c0:z.cells.toList.all (·.oneCell')=true){α:Type}[Row α](cb:∀x:α,(Row.row x).length=k)
 {xs r:List α}{i j:Int}(h:zt9 xs i j=some r):
 ba P (ρ.f 24) [.osl 0 k 0 xs.length,.v (.int .i64 i),.v (.int .i64 j)] [(0,.arr k (enc xs))] 1 (.osl 1 k 0 r.length) [(1,.arr k (enc r))] 2:=by
 obtain⟨⟨g1,g2,g3⟩,h⟩:=q06 h;simp only[Xq]at h;obtain⟨G,rfl⟩:=Xo g1;obtain⟨I,rfl⟩:=Xo (by omega:0<=j);rw[Xx,Xx]at h;have cc:G<=I:=by omega
 have Z:I<=xs.length:=by omega
 have T:r.length=G+(xs.length-I):=by rw[<-h];simp;omega
 intro w β A us hA W ak an;refine bx.of (zy5 L.f24 hb) ?_
 match us,W with
 |[u1,u2,u3],W=>
 simp only[y9,and_true]at W;obtain⟨r1,r2,r3⟩:=W;have cd:u2=.int .i64 G:=by simpa only[rep]using r2
 have cl:u3=.int .i64 I:=by simpa only[rep]using r3
 subst cd cl;have cp:∀q∈enc r,q.length=k:=by
  intro q hq;obtain⟨x,_,rfl⟩:=X0.1 hq;exact cb x
 have hR:Rel (P:=P) ⟨w,β,1,[(0,.arr k (enc xs))],A,0⟩ ⟨1,[],[(0,.arr k (enc xs))],1,0⟩ {tmps:=#[],defers:=[]} w β:=
  {df:=rfl,nt:=rfl,ntc:=rfl,nb:=rfl,alt:=hA,gs:=an,hp:=ak,ext:={nx:=Xa _,gh:=fun _ _=>rfl,gi:=fun _ _ _=>rfl,ids:=fun p hp'=> .inl (Xl hp'),blk:=fun p hp' b ao=> .inl ⟨p,hp',ao⟩,os:=rfl,tape:=rfl,output:=⟨rfl,fun _=>Xa _⟩,size:=Xa _,keep:=fun _ _ _=>rfl},env:=fun t=>by simp only[q0x,rep]}
 have b3:=r1;simp only[rep]at b3;rcases b3.2 with⟨dc,_,h0,rfl⟩|⟨b,C,cap,a,aq,rfl,a6,hC,ha⟩
 .
  have hx:xs=[]:=List.eq_nil_of_length_eq_zero h0;subst hx;have e1:G=0:=by simp at Z;omega
  have e2:I=0:=by simp at Z;omega
  subst e1 e2;have hr:r=[]:=by rw[<-h];rfl
  subst hr;refine (zg7 L none 0 0 0 w (Xa _) (by omega) (Xa _)).mono ?_;rintro e w' ⟨rfl,rfl⟩;have:=hR.more (w':=w') (bc:=none) (o:=.arr k (enc ([]:List α))) (hp1:=[]) (Ya _) (Xa _) (fun _ _ _=>rfl) (fun b c ao=>by cases ao) (fun ow' _=> .inl ⟨q1i _ _ _,rfl⟩) rfl rfl ⟨rfl,fun _=>Xa _⟩;refine⟨_,_,_,_,upd β 1 none,rfl,⟨rfl,rfl,rfl⟩,?_,this.hp,this.ext⟩;simp only[rep];exact⟨Nat.lt_succ_self _,.inl ⟨q1i _ _ _,by trivial,rfl,by trivial⟩⟩
 have d0:a=⟨b,0,none⟩:=by
  rcases ha with rfl|⟨_,h0⟩
  . simp
  exact absurd rfl h0
 subst d0;obtain⟨cur,e,cs,c1,c2,c3,c4,c5,c6,c7,c8,c9⟩:=z1p hR (id:=0) (sz:=k) (xs:=enc xs) (by simp[q0i]) aq;rw[q17]at c8 c3;have ar:∀j v,cs[j]?=some v->w.cell? ⟨b,0+j,none⟩=some v:=fun j v hj=>by
  rw[Xj,cell_of_row w b j cur e (0,0) c1];simpa using c9 j v hj
 have b1:enc r=(enc xs).take G++(enc xs).drop I:=by rw[<-h];simp[enc]
 have b4:y9 w β 0 (own β [(0,.arr k (enc xs))] A) (enc r).flatten (cs.take (G*k)++cs.drop (I*k)):=by
  rw[b1,Xs,z0i G c5,z6m I c5];exact q6m (q7o c6 _) (q9v c6 _)
 have b5:∀u∈cs.take (G*k)++cs.drop (I*k),u.oneCell'=true:=by
  intro u hu;rcases X3.1 hu with hu|hu
  . exact c7 u (X6 hu)
  exact c7 u (Xf hu)
 have k1:G*k<=I*k:=Xb _ cc;have k2:I*k<=xs.length*k:=Xb _ Z;have k3:xs.length*k<=cur.size:=by rw[c2];exact Xb _ c3
 have d5:(cs.take (G*k)).length=G*k:=by rw[Xr];omega
 by_cases heq:G=I
 .
  subst heq;refine (zg7 L (some ⟨b,0,none⟩) xs.length cap G w a6 (by unfold maxLen at c4;omega) Z).mono ?_;rintro e' w' ⟨rfl,rfl⟩;have d6:r=xs:=by rw[<-h];simp
  subst d6;obtain⟨β',q1,q2,q3⟩:=zf0 (k:=k) hA an ak (xs:=enc r) (b:=b) (C:=C) (cur:=cur) (e:=e) (w':=w') (Xa _) (fun _ _ _=>rfl) (fun _=>q9f (p:=(0,.arr k (enc r))) (by simp) aq) c1 c2 (by rw[q17];exact c3) c4 c6 c5 c7 ar rfl rfl ⟨rfl,fun _=>Xa _⟩ (cap:=cap) (by rw[q17];exact a6) (by omega);rw[q17]at q1;exact⟨_,_,_,_,β',rfl,⟨rfl,rfl,rfl⟩,q1,q2,q3⟩
 have d7:G<I:=by omega
 refine (j2j L hk bv (fun u hu=>List.all_eq_true.1 c0 u hu) b 0 xs.length cap G I cs w c8 ar c7 (fun t ht=>by rw[Xj];exact qm3 c1 (by omega)) (fun t _=>z6l c1 _) a6 (by unfold maxLen at c4;omega) d7 Z).mono ?_;rintro e' w' ⟨rfl,rfl⟩;have dd:(cs.drop (I*k)).length=xs.length*k-I*k:=by rw[Xh,c8]
 have k4:(G+(xs.length-I))*k=G*k+(xs.length*k-I*k):=by rw[Xi,Xg]
 obtain⟨f1,f2,f3,f4,f5,f6⟩:=q99 b (cs.drop (I*k)) (0+G*k) w.drew;obtain⟨b6,d1,d2⟩:=qb3 b (cs.drop (I*k)) (0+G*k) w.drew cur e c1;obtain⟨ZZ,d8⟩:∃ZZ,ZZ=(Xk (xs.length-(G+(xs.length-I))) z.cells.toList).flatten:=⟨_,rfl⟩;rw[<-d8];obtain⟨m1,m2,m3,m4,m5,m6⟩:=q99 b ZZ (0+(G+(xs.length-I))*k) (w.drew.setCells b (0+G*k) (cs.drop (I*k)));obtain⟨bi,d3,d4⟩:=qb3 b ZZ (0+(G+(xs.length-I))*k) _ b6 e d1;have b2:∀(j:Nat) (u:Value),(cs.take (G*k)++cs.drop (I*k))[j]?=some u->((w.drew.setCells b (0+G*k) (cs.drop (I*k))).setCells b (0+(G+(xs.length-I))*k) ZZ).cell? ⟨b,0+j,none⟩=some u:=by
  have:=cK (w:=(w.drew.setCells b (0+G*k) (cs.drop (I*k))).setCells b (0+(G+(xs.length-I))*k) ZZ) (b:=b) (A:=cs.take (G*k)) (B:=cs.drop (I*k)) (D:=[]) (fun j u hj=>by
   have aj:j<G*k:=by
    have:=(List.getElem?_eq_some_iff.1 hj).1;omega
   rw[World.cell?_setCells_out b _ _ _ _ (fun _ _=>by left;show j<_;omega),World.cell?_setCells_out b _ _ _ _ (fun _ _=>by left;show j<_;omega)];rw[List.getElem?_take,if_pos aj]at hj;have:=ar j u hj;rw[Nat.zero_add]at this;exact this)
   (fun j u hj=>by
    have aj:j<(cs.drop (I*k)).length:=(Xc.1 hj).1;rw[d5,World.cell?_setCells_out b ZZ _ _ _ (fun _ _=>by left;show G*k+j<_;omega),show G*k+j=0+G*k+j by omega,
     World.cell?_setCells_in b (cs.drop (I*k)) (0+G*k) _ (fun t ht=>qm3 (w:=w.drew) c1 (by omega)) j aj]
    rw[Xd aj]at hj;exact hj)
   (fun j u hj=>by simp at hj)
  simpa using this
 obtain⟨β',q1,q2,q3⟩:=zf0 (k:=k) hA an ak (xs:=enc r) (b:=b) (C:=C) (cur:=bi) (e:=e) (w':=(w.drew.setCells b (0+G*k) (cs.drop (I*k))).setCells b (0+(G+(xs.length-I))*k) ZZ) (by rw[m5,f5];exact Xa _) (fun b' _ bs=>(m6 b' bs).trans (f6 b' bs)) (fun _=>q9f (p:=(0,.arr k (enc xs))) (by simp) aq) d3
  (by rw[d4,d2];exact c2) (by rw[q17,T];omega) c4 b4 cp b5 b2 (by rw[m1,f1];rfl) (by rw[m2,f2];rfl) ⟨by rw[m3,f3];rfl,fun _=>by rw[m4,f4];exact X9 _⟩ (cap:=cap) (by rw[q17,T];omega) (by omega)
 rw[q17]at q1;rw[T]at q1;exact⟨_,_,_,_,β',rfl,⟨rfl,rfl,rfl⟩,by rw[T];exact q1,q2,q3⟩
end
def j97(i ov G t0 I T W sl:Nat):Ren:=
 ⟨fun n=>match n with|22=>i|24=>i|29=>ov|_=>G,fun n=>match n with|0=>t0|3=>I|4=>T|9=>W|_=>sl,fun n=>n⟩
theorem j4y{P:Program}{t:TypeId}{z:Value}{k b:Nat}(h:(P.info? t).map (fun i=>(i.zero,i.size,i.bytes))=some (some z,k,b)):∃i,P.info? t=some i/\i.zero=some z/\i.size=k/\i.bytes=b:=by
 cases hi:P.info? t with
 |none=>rw[hi]at h;cases h
 |some i=>
  rw[hi]at h;simp only[Option.map_some,Xq,Prod.mk.injEq]at h;exact⟨i,rfl,h.1,h.2.1,h.2.2⟩
theorem jg2{P:Program}{t:TypeId}{z:Value}{k b:Nat}(h:(P.info? t).map (fun i=>(i.zero,i.size,i.bytes))=some (some z,k,b)):∃i,P.info? t=some i/\i.zero=some z/\i.size=k:=by
 obtain⟨i,G,I,T,_⟩:=j4y h;exact⟨i,G,I,T⟩
end Go.Proofs.YtomicnbiniapfaaGreat

/-
  Verification conditions for regions, calls, loops and draws, sound for the model; numbers. No condition beyond those that each theorem names.
-/
import Derived.Test.YtomicnbiniapfaaGreatLibA
import Derived.Room.Entries
import Derived.Lib.SliceRun
set_option linter.unusedSimpArgs false
set_option linter.unusedVariables false
set_option linter.unusedSectionVars false
open Option renaming some.injEq->Xa,map_eq_some_iff->Xg,bind_eq_some_iff->Xr,isSome_iff_exists->Xx,bind_some->Zh
open List renaming replicate->Xb,mem_append->Xe,length_take->Xh,mem_map_of_mem->Xj,map_congr_left->Xk,eq_of_mem_replicate->Xl,eq_nil_of_length_eq_zero->Xq,length_append->Xs,mem_map->Xt,getElem?_append_right->Xu,flatten_cons->Xv,mem_of_mem_take->Xw,length_map->Xz,size_toArray->X4,all_eq_true->X8,map_replicate->Ya,length_drop->Yc,length_nil->Yd,mem_cons_of_mem->Ye,cons.injEq->Yf,flatten_append->Yi,mem_cons_self->Yj,getElem?_take->Yk,map_cons->Ym,getD_eq_getElem?_getD->Yn,getElem?_append_left->Yp,mem_flatten->Yq,append_nil->Ys,map_append->Yt,take_zero->Yv,length_replicate->Yx,take_append_drop->Yy,mem_append_right->Y0,mem_of_mem_drop->Y3,mem_append_left->Y5,mem_cons->Y6,replicate_succ->Y8,take_succ_cons->Za,getElem?_drop->Zb,nodup_append->Zd,length_cons->Zg,range->Zj
open Nat renaming le_refl->Xc,mul_le_mul_right->Xi,add_zero->Xm,add_mul->Xp,min_eq_right->Xy,not_lt_zero->X0,min_eq_left->X3,zero_add->X5,lt_succ_self->X7,lt_of_lt_of_le->Yl,lt_trichotomy->Yo,lt_or_ge->Yr,le_succ->Yu,le_total->Zc,one_mul->Zf
open Bool renaming and_eq_true->Xd
open Prod renaming mk.injEq->Xf
open Array renaming ext'->Xo,getD_eq_getD_getElem?->X6,getElem?_eq_some_iff->X9,empty_append->Yb,mem_toList_iff->Yg,getElem?_modify->Yw,toArray_toList->Y4,length_toList->Y7,range->Ze,mem_append->Zi
open Int renaming mul_le_mul_of_nonneg_left->Yh,toNat_of_nonneg->Y9
open Classical renaming choose_spec->Yz
namespace Go.Proofs.YtomicnbiniapfaaGreat
section
open Go Go.RowKit
def z0s:List AV->Option (List (List AV))
 |[]=>some []
 |x::xs=>match qi6 x,z0s xs with
  |some r,some G=>some (r::G)
  |_,_=>none
def qg9:List (Nat×Operand)->Nat->Bool
 |[],_=>true
 |(i,_)::r,k=>i==k&&qg9 r (k+1)
def qv8(n:Nat):List (List AV)->Bool
 |[]=>true
 |r::G=>r.length==n&&qv8 n G
theorem z3s{n:Nat}:∀{G:List (List AV)},qv8 n G=true->∀r∈G,r.length=n
 |[],_,_,h=>by simp at h
 |r::G,h,x,I=>by
  simp only[qv8,Xd,beq_iff_eq]at h;rcases Y6.1 I with rfl|I
  . exact h.1
  exact z3s h.2 x I
section
variable {P:Program} {C:Ctx P} {s:St} {a:Act} {w:World} {β:aI} {nx:Nat} {ow:Nat->Prop}
theorem j26(size:Nat){ρ:Operand->Value}:∀(G:List (Nat×Operand)) (k:Nat) (cells:Array Value),qg9 G k=true->(∀p∈G,(ρ p.2).cells.size=size)->(k+G.length)*size=cells.size->
 Instr.fill (fun i=>some (i*size,size)) cells (G.map fun p=>(p.1,ρ p.2))=some ⟨cells.toList.take (k*size)++(G.map fun p=>(ρ p.2).cells.toList).flatten⟩
 |[],k,cells,_,_,h=>by
  simp only[Yd,Xm]at h;simp only[List.map_nil,Instr.fill,List.flatten_nil,Ys];rw[h]
  congr 1
  apply Xo;rw[List.take_of_length_le (by simp)]
 |(i,x)::G,k,cells,T,W,h=>by
  simp only[qg9,Xd,beq_iff_eq]at T;obtain⟨rfl,T⟩:=T;have I:=W _ Yj;simp only at I;simp only[Zg]at h;have h2:i*size+size<=cells.size:=by
   rw[<-h,show i+(G.length+1)=(i+1)+G.length by omega,Xp,Xp];omega
  simp only[Ym];rw[zy0 rfl I (by rw[I];exact h2)];have Z:(cells.toList.take (i*size)).length=i*size:=by rw[Xh];simp;omega
  have hc:(ρ x).cells.toList.length=size:=by simpa using I
  rw[j26 size G (i+1) _ T (fun p hp=>W p (Ye _ hp)) (by
   simp only[X4,Xs,Z,hc,Yc,Y7,I];rw[show i+1+G.length=i+(G.length+1) by omega];omega)]
  congr 2
  rw[show (i+1)*size=(cells.toList.take (i*size)++(ρ x).cells.toList).length by rw[Xs,Z,hc,Xp];omega];rw[List.take_left']
  . simp
  simp
theorem z2h{ρ:Operand->Value}{ev:Operand->AV}(T:∀x,rep w β nx ow (ev x) (ρ x)):∀{G:List (Nat×Operand)} {I:List (List AV)},bm (G.map fun p=>ev p.2)->z0s (G.map fun p=>(ev p.2).st)=some I->
 I.length=G.length/\y9 w β nx ow I.flatten ((G.map fun p=>(ρ p.2).cells.toList).flatten)/\∀n,qv8 n I=true->∀p∈G,(ρ p.2).cells.size=n
 |[],I,_,h=>by
  simp only[List.map_nil,z0s,Xa]at h;subst h;simp[y9]
 |p::G,I,W,h=>by
  simp only[Ym,bm]at W;simp only[Ym,z0s]at h
  split at h
  .
   rename_i r a6 h1 h2
   simp only[Xa]at h;subst h;obtain⟨i1,i2,i3⟩:=z2h T W.2 h2;have h3:=qf5 h1 (q1j (T p.2) W.1);refine⟨by simp[i1],by simp only[Xv,Ym];exact q6m h3 i2,?_⟩;intro n hl q Z;simp only[qv8,Xd,beq_iff_eq]at hl;rcases Y6.1 Z with rfl|Z
   . have:=q1p h3;simp only[Y7]at this;omega
   exact i3 n hl.2 q Z
  cases h
theorem j0t{o:Oper}{t e:TypeId}{n:Nat}{parts:Array (Nat×Operand)}{zs:List Value}(ho:o.op=.buildSlice t n parts)
 (he:aO P t=some e)(hT:q19 P e=true)(W:q1w P e=some zs)(ar:0<szT P e)(hb:n*szT P e<=16777216)(aj:qg9 parts.toList 0=true)(Z:parts.toList.length=n)
 (ak:∀p∈parts.toList,(a.eval p.2).cells.size=szT P e):(execOp a.eval o).run P w=.ok (.value (.slice (some ⟨w.heap.size,0,none⟩) n n)) (w.alloc (.cells ⟨(parts.toList.map fun p=>(a.eval p.2).cells.toList).flatten⟩ e)):=by
 obtain⟨i,hi,T,b1⟩:=qd2 hT;unfold q1w at W;simp only[Xg,Xr]at W;obtain⟨z,⟨i',hi',W⟩,rfl⟩:=W;rw[hi]at hi';simp only[Xa]at hi';subst hi';have G:=j26 (ρ:=a.eval) (szT P e) parts.toList 0 ((Ze (n*szT P e)).map (z.cells[· %z.cells.size]!)) aj ak (by simp[<-Z]);simp only[Nat.zero_mul,Yv,List.nil_append]at G;unfold execOp;simp only[ho];have b2:¬(16777216<n*i.size):=by rw[T];omega
 have I:(parts.map fun (i,x)=>(i,a.eval x)).toList=parts.toList.map fun p=>(p.1,a.eval p.2):=by simp
 by_cases h0:n=0
 . subst h0;have an:parts.toList=[]:=Xq Z;have ao:(Ze 0:Array Nat)=#[]:=rfl;simp[Instr.buildSlice,run_underlying (q0l he),sizeOf,typeInfo,hi,an,Instr.fill,newRow,ao]
 have aq:¬(n=0\/i.size=0):=by omega
 simp only[Instr.buildSlice,Sem.run_bind,run_underlying (q0l he),Result.andThen_ok,sizeOf,typeInfo,run_program,hi,Sem.run_pure,Sem.run_ite,I];rw[if_neg (by omega)];have a6:¬(n*i.size=0):=by simpa [Nat.mul_eq_zero]using aq
 rw[if_neg a6];simp only[zeroValue,typeInfo,Sem.run_bind,run_program,hi,Result.andThen_ok,W,Sem.run_pure];rw[T,G];simp[newRow]
theorem zy7(h:Rel C s a w β){o:Oper}{t e:TypeId}{n:Nat}{parts:Array (Nat×Operand)}{G:List (List AV)}{ns:List (Option Nat)}{zs:List Value}{K:St->Prop}{Q:Exit->Act->World->Prop}(ho:o.op=.buildSlice t n parts)
 (he:aO P t=some e)(hT:q19 P e=true)(Z:q1w P e=some zs)(b6:zs.length=szT P e)(I:0<szT P e)(hb:n*szT P e<=16777216)(ao:qg9 parts.toList 0=true)(T:parts.toList.length=n)
 (hn:bm (parts.toList.map fun p=>x8 s.env p.2))(hr:z0s (parts.toList.map fun p=>(x8 s.env p.2).st)=some G)(hl:qv8 (szT P e) G=true)(h1:G.flatten.all qg3=true)(hf:z10 s.hp G.flatten)
 (hp:(G.flatten.map (frz s.hp)).all qf9=true)(hd:dok s.nt o.dst=true)
 (hK:K (({s with hp:=(s.nx,.arr (szT P e) ((G.map (·.map (frz s.hp))).map (q1v ns)))::q74 (q9w G.flatten) s.hp,nx:=s.nx+1}:St).put o.dst (.osl s.nx (szT P e) 0 n))):o.wp P a w (RK C K) Q:=by
 obtain⟨g1,g2,g3⟩:=z2h (fun x=>h.ev x) hn hr;have aq:=Z;obtain⟨i,hi,b5,bi⟩:=qd2 hT;unfold q1w at Z;simp only[Xg,Xr]at Z;obtain⟨z,⟨i',hi',Z⟩,rfl⟩:=Z;rw[hi]at hi';simp only[Xa]at hi';subst hi';have W:((parts.toList.map fun p=>(a.eval p.2).cells.toList).flatten).length=n*szT P e:=by
  rw[<-q1p g2,qn0 (z3s hl),g1,T]
 have a6:=j0t (w:=w) ho he hT aq I hb ao T (g3 _ hl);unfold Oper.wp;rw[a6];have ar:=zb2 h.hp (qd1 (ids:=q9w G.flatten)) (fun j hj o' b1=>(z2m.1 b1).2 hj) hf g2;have b2:=qi8 hp ar;have aj:=q9i h1 g2;have hs:=h.sub (qd1 (ids:=q9w G.flatten));have h2:=hs.alloc (cs:=(parts.toList.map fun p=>(a.eval p.2).cells.toList).flatten) (e:=e) (o:=.arr (szT P e) ((G.map (·.map (frz s.hp))).map (q1v ns))) (c:=n) (fun w' ow' hA ak=>by
  refine .inr ⟨w.heap.size,n,_,e,q1i _ _ _,ak,?_,?_,?_,?_⟩
  . simp only[X4];exact W
  . rw[Xz,Xz,g1,T];exact Xc _
  . have:n<=n*szT P e:=Nat.le_mul_of_pos_right _ I;simp only[maxLen];omega
  refine q6u (us:=(parts.toList.map fun p=>(a.eval p.2).cells.toList).flatten) ?_ ?_ aj ?_
  . intro r b3;obtain⟨r2,b4,rfl⟩:=Xt.1 b3;obtain⟨r',an,rfl⟩:=Xt.1 b4;rw[qj4,Xz];exact z3s hl r' an
  . refine qg8 ?_;rw[<-List.map_flatten];exact q1r hA 0 0 (Xc _) (fun _ hi=>absurd hi (X0 _)) _ _ b2
  intro j u hj;rw[X5,cell_of_row _ w.heap.size j _ e (0,0) ak]
  simpa using hj)
 refine⟨_,_,h2.put ?_ hd,hK⟩;simp only[rep];exact⟨X7 _,.inr ⟨w.heap.size,n,n,⟨w.heap.size,0,none⟩,q1i _ _ _,rfl,Xc _,by omega,.inl (by simp)⟩⟩
theorem zq7(h:Rel C s a w β){o:Oper}{t e:TypeId}{n:Nat}{parts:Array (Nat×Operand)}{I:List (List AV)}{zs:List Value}{K:St->Prop}{Q:Exit->Act->World->Prop}(ho:o.op=.buildSlice t n parts)
 (he:aO P t=some e)(hT:q19 P e=true)(hz:q1w P e=some zs)(h1:szT P e=1)(hb:n<=16777216)(T:qg9 parts.toList 0=true)(W:parts.toList.length=n)
 (hn:bm (parts.toList.map fun p=>x8 s.env p.2))(hr:z0s (parts.toList.map fun p=>(x8 s.env p.2).st)=some I)(hl:qv8 (szT P e) I=true)(hd:dok s.nt o.dst=true)
 (hK:K (({s with hp:=(s.nx,.box I.flatten)::s.hp,nx:=s.nx+1}:St).put o.dst (.bsl s.nx 0 n))):o.wp P a w (RK C K) Q:=by
 obtain⟨g1,g2,g3⟩:=z2h (fun x=>h.ev x) hn hr;have G:=j0t (w:=w) ho he hT hz (by omega) (by rw[h1];omega) T W (g3 _ hl);unfold Oper.wp;rw[G];have h2:=h.alloc (cs:=(parts.toList.map fun p=>(a.eval p.2).cells.toList).flatten) (e:=e) (o:=.box I.flatten) (c:=n) (fun w' ow' hA Z=>
  ⟨w.heap.size,n,_,e,q1i _ _ _,Z,q1r hA _ _ (Yu _) (fun _ hi=>q35 _ _ _ _ hi) _ _ g2⟩)
 refine⟨_,_,h2.put ?_ hd,hK⟩;simp only[rep];exact⟨X7 _,w.heap.size,n,n,⟨w.heap.size,0,none⟩,q1i _ _ _,rfl,Xc _,.inl rfl⟩
end
end
section
open Go Go.RowKit
section
variable {P:Program} {C:Ctx P} {s:St} {a:Act} {w:World} {β:aI} {nx:Nat} {ow:Nat->Prop}
theorem za6(zs:List Value)(I:0<zs.length):∀n:Nat,(Zj (n*zs.length)).map (fun i=>(⟨zs⟩:Array Value)[i%zs.length]!)=(Xb n zs).flatten
 |0=>by simp
 |n+1=>by
  rw[List.replicate_succ',Yi,Xp,Zf,List.range_add,Yt,za6 zs I n]
  congr 1
  rw[List.map_map];apply List.ext_getElem
  . simp
  intro i G T;simp only[Xz,List.length_range]at G;simp[Nat.mul_add_mod_self_right,Nat.mod_eq_of_lt G,G]
theorem z3n(zs:List Value)(w:World)(β:aI)(nx:Nat)(ow:Nat->Prop):∀n:Nat,y9 w β nx ow (Xb n (zs.map AV.v)).flatten (Xb n zs).flatten
 |0=>by simp[y9]
 |n+1=>by
  rw[Y8,Y8,Xv,Xv];exact q6m (z08 w β nx ow zs) (z3n zs w β nx ow n)
theorem wrap_small(n:Int)(G:0<=n)(I:n<9223372036854775808):IntKind.i64.wrap n=n:=by
 simp[IntKind.wrap,IntKind.signed,IntKind.bits];split<;>omega
theorem j8a{o:Oper}{t e:TypeId}{l c:Operand}{k k':IntKind}{n:Int}{zs:List Value}(ho:o.op=.makeSlice t l c)
 (W:a.eval l=.int k n)(Z:a.eval c=.int k' n)(he:aO P t=some e)(hT:q19 P e=true)(hz:q1w P e=some zs)(aq:zs.length=szT P e)
 (a6:0<szT P e)(b4:0<q2h P e)(h0:0<=n)(hb:n*q2h P e<=140737488355328):
 (execOp a.eval o).run P w=.ok (.value (.slice (some ⟨w.heap.size,0,none⟩) n.toNat n.toNat)) (w.alloc (.cells ⟨(Xb n.toNat zs).flatten⟩ e)):=by
 obtain⟨i,hi,T,aj⟩:=qd2 hT;unfold q1w at hz;simp only[Xg,Xr]at hz;obtain⟨z,⟨i',hi',hz⟩,rfl⟩:=hz;rw[hi]at hi';simp only[Xa]at hi';subst hi';have ar:n<=n*q2h P e:=by
  have:n*1<=n*(q2h P e:Int):=Yh (by omega) h0;omega
 have hw:=wrap_small n h0 (by omega);have ak:z.cells.size=szT P e:=by rw[<-aq];simp
 have G:=za6 z.cells.toList (by simpa [ak]using a6) n.toNat;unfold execOp;simp only[ho];have b1:(q2h P e:Int)*n<=140737488355328:=by rw[Int.mul_comm];exact hb
 have b2:¬n<0:=by omega
 have an:¬(q2h P e:Int)*n>281474976710656:=by omega
 have I:(Ze (n.toNat*szT P e)).map (fun x=>z.cells[x%z.cells.size]!)=⟨(Xb n.toNat z.cells.toList).flatten⟩:=by
  apply Xo;rw[<-G];simp[ak]
 by_cases ao:n.toNat*szT P e=0
 .
  have hn:n.toNat=0:=by
   rcases Nat.mul_eq_zero.1 ao with h|h
   . exact h
   omega
  have b3:n=0:=by omega
  subst b3;simp[Instr.makeSlice,run_underlying (q0l he),W,Z,asInt,asIntOf,typeInfo,hi,aj,hw,Room.run_askRoom,sizeOf,T,newRow]
  congr 2
  apply Xo;simp
 clear G hb ar b1;simp[Instr.makeSlice,run_underlying (q0l he),W,Z,asInt,asIntOf,typeInfo,hi,aj,hw,Room.run_askRoom,sizeOf,T,newRow,b2,an,ao,zeroValue,hz,I]
theorem j0g(h:Rel C s a w β){o:Oper}{t e:TypeId}{l c:Operand}{k k':IntKind}{n:Int}{ns:List (Option Nat)}{zs:List Value}{K:St->Prop}{Q:Exit->Act->World->Prop}(ho:o.op=.makeSlice t l c)
 (hl:(x8 s.env l).st=.v (.int k n))(hc:(x8 s.env c).st=.v (.int k' n))(ao:(x8 s.env l).aU)(aq:(x8 s.env c).aU)(he:aO P t=some e)(hT:q19 P e=true)(T:q1w P e=some zs)(W:zs.length=szT P e)
 (Z:0<szT P e)(ar:0<q2h P e)(h0:0<=n)(hb:n*q2h P e<=140737488355328)(h1:zs.all (·.oneCell')=true)(hd:dok s.nt o.dst=true)
 (hK:K (({s with hp:=(s.nx,.arr (szT P e) (Xb n.toNat (q1v ns (zs.map AV.v))))::s.hp,nx:=s.nx+1}:St).put o.dst (.osl s.nx (szT P e) 0 n.toNat))):o.wp P a w (RK C K) Q:=by
 obtain⟨i,hi,b2,b3⟩:=qd2 hT;have G:=q2c h ao;have I:=q2c h aq;rw[hl]at G;rw[hc]at I;simp only[rep]at G I;have a6:=j8a (w:=w) (a:=a) ho G I he hT T W Z ar h0 hb;unfold q1w at T;simp only[Xg,Xr]at T;obtain⟨z,⟨i',hi',T⟩,rfl⟩:=T;rw[hi]at hi';simp only[Xa]at hi';subst hi';have b4:n<=n*q2h P e:=by
  have:n*1<=n*(q2h P e:Int):=Yh (by omega) h0;omega
 have aj:z.cells.size=szT P e:=by rw[<-W];simp
 unfold Oper.wp;rw[a6];have h2:=h.alloc (cs:=(Xb n.toNat z.cells.toList).flatten) (e:=e) (o:=.arr (szT P e) (Xb n.toNat (q1v ns (z.cells.toList.map AV.v)))) (c:=n.toNat) (fun w' ow' hA ak=>by
  refine .inr ⟨w.heap.size,n.toNat,_,e,q1i _ _ _,ak,?_,?_,?_,?_⟩
  . simp[aj]
  . simp
  . simp only[maxLen];omega
  refine q6u (us:=(Xb n.toNat z.cells.toList).flatten) ?_ (by rw[<-Ya];exact qg8 (z3n _ _ _ _ _ _)) ?_ ?_
  . intro r hr;rw[Xl hr,qj4];simp[aj]
  . intro u hu;obtain⟨l',b1,an⟩:=Yq.1 hu;rw[Xl b1]at an;exact X8.1 h1 u an
  intro j u hj;rw[X5,cell_of_row _ w.heap.size j _ e (0,0) ak]
  simpa using hj)
 refine⟨_,_,h2.put ?_ hd,hK⟩;simp only[rep];exact⟨X7 _,.inr ⟨w.heap.size,n.toNat,n.toNat,⟨w.heap.size,0,none⟩,q1i _ _ _,rfl,Xc _,by omega,.inl (by simp)⟩⟩
theorem j7s(h:Rel C s a w β){o:Oper}{t t':TypeId}{x y:Operand}{sz:Nat}{xs:List (List AV)}{K:St->Prop}{Q:Exit->Act->World->Prop}(ho:o.op=.binOp .eql t x y t')
 (hx:(x8 s.env x).st=.sl sz xs)(hy:(x8 s.env y).st=.v (.slice none 0 0))(W:(x8 s.env x).aU)(Z:(x8 s.env y).aU)(ht:(aO P t).isSome=true)(hd:dok s.nt o.dst=true)
 (hK:∀b:Bool,(xs≠[]->b=false)->K (s.put o.dst (.v (.bool b)))):o.wp P a w (RK C K) Q:=by
 obtain⟨e,he⟩:=Xx.1 ht;have G:=q2c h W;have T:=q2c h Z;rw[hx]at G;rw[hy]at T;simp only[rep]at G T;have I:∃b:Bool,(xs≠[]->b=false)/\(execOp a.eval o).run P w=.ok (.value (.bool b)) w:=by
  have key:∀ad len cap,a.eval x=.slice ad len cap->(execOp a.eval o).run P w=.ok (.value (.bool ad.isNone)) w:=fun ad len cap hv=>by
   unfold execOp;simp only[ho,hv,T,Sem.run_bind];have h0:(eqGuard .eql t x y (.slice ad len cap) (.slice none 0 0)).run P w=.ok () w:=rfl;rw[h0];simp only[Result.andThen_ok,Lib.run_eql_slice_nil w t e ad len cap 0 0 (q0l he),Sem.run_pure]
  rcases G with⟨rfl,ad,cap,G⟩|⟨b,o',cap,G,_⟩
  . exact⟨ad.isNone,(fun h=>absurd rfl h),key _ _ _ G⟩
  exact⟨false,(fun _=>rfl),key _ _ _ G⟩
 obtain⟨b,hb,I⟩:=I;unfold Oper.wp;rw[I];exact⟨_,_,h.put (by simp only[rep]) hd,hK b hb⟩
theorem jb5(h:Rel C s a w β){o:Oper}{t e:TypeId}{x:Operand}{id:Nat}{xs:List (List AV)}{K:St->Prop}{Q:Exit->Act->World->Prop}(ho:o.op=.convert t t x)
 (hx:(x8 s.env x).st=.osl id 1 0 xs.length)(b2:(x8 s.env x).aU)(hg:q0i s.hp id=some (.arr 1 xs))(he:aO P t=some e)(hk:qz0 P e=some .u8)(b3:xs≠[])
 (hd:dok s.nt o.dst=true)(hK:K (({s with hp:=q4l s.hp id}:St).put o.dst (.sl 1 xs))):o.wp P a w (RK C K) Q:=by
 have hu:=q2c h b2;rw[hx]at hu;simp only[rep]at hu;obtain⟨hid,hu⟩:=hu;have hm:=q0k hg;have b4:=h.hp.obj _ hm;have ak:xs.length≠0:=fun e0=>b3 (Xq e0);rcases hu with⟨_,_,h0,_⟩|⟨b,c,cap,ad,hb,hu,an,hC,W⟩
 . exact absurd h0 ak
 rcases b4 with⟨h0,_⟩|⟨b',c',cur,e',a6,I,bv,c0,c1,aj⟩
 . simp only at h0;rw[hb]at h0;cases h0
 simp only at a6;rw[hb]at a6;simp only[Xa,Xf]at a6;obtain⟨rfl,rfl⟩:=a6;obtain rfl:ad=⟨b,0,none⟩:=by
  rcases W with W|W
  . simpa using W
  exact absurd rfl W.2
 have ao:b<w.heap.size:=(X9.1 I).1
 let w':=w.freeze ⟨b,cur.size,none⟩ 1
 have aq:w'.heap[b]?=some (.cells cur e' (cur.size,cur.size+1)):=by
  simp only[w',World.freeze,Nat.one_ne_zero,if_false];rw[Yw];simp[I]
 have Z:∀j,j≠b->w'.heap[j]?=w.heap[j]?:=fun j hj=>by
  simp only[w',World.freeze,Nat.one_ne_zero,if_false];rw[Yw,if_neg (fun e0=>hj e0.symm)]
 have T:w'.heap.size=w.heap.size:=by simp[w',World.freeze]
 have ar:(execOp a.eval o).run P w=.ok (.value (.slice (some ⟨b,0,none⟩) xs.length cap)) w':=by
  unfold execOp;have b5:w.shape? b=some (e',cur.size):=by unfold World.shape?;rw[I]
  simp only[ho,hu];simp[convert,run_underlying (q0l he),run_underlying (z0v hk),markStringish,b5];rfl
 unfold Oper.wp;rw[ar];have G:∀p,p∈q4l s.hp id->p∈s.hp/\p.1≠id:=fun p hp=>z1r.1 hp;have b6:¬own β (q4l s.hp id) C.A b:=by
  rintro (h1|⟨p,hp,h1⟩)
  . exact h.hp.av _ hm b c hb h1
  obtain⟨h2,h3⟩:=G p hp
  exact h3 (h.hp.bf p h2 _ hm b h1 (.inl ⟨c,hb⟩))
 have hA:aW w w' (own β s.hp C.A) (own β (q4l s.hp id) C.A):=⟨by rw[T];exact Xc _,fun j hj _=>⟨Z j (fun e0=>hj (.inr (e0▸q9f hm hb))),fun hx=>hj (j4o bo hx)⟩⟩;have bi:=h.step (w':=w') (β':=β) (hp':=q4l s.hp id) (Xc _) (fun _ _=>rfl) (by rw[T];exact Xc _)
  (fun j _ hj=>Z j (fun e0=>hj (e0▸q9f hm hb))) (fun j _ ⟨q,hq,hc⟩=>⟨q,(G q hq).1,hc⟩)
  {obj:=fun p hp=>by
    obtain⟨h1,h2⟩:=G p hp;exact q47 hA (Xc _) (fun _ _=>rfl) (h.hp.lt p h1) (fun b1 bs=>Z b1 (fun e0=>h2 (h.hp.bf p h1 _ hm b1 bs (.inl ⟨c,by rw[e0];exact hb⟩)))) (fun _=>rfl) (h.hp.obj p h1)
   lt:=fun p hp=>h.hp.lt p (G p hp).1
   nd:=h.hp.nd.sublist (bo.map _)
   inj:=fun p hp q hq=>h.hp.inj p (G p hp).1 q (G q hq).1
   av:=fun p hp=>h.hp.av p (G p hp).1
   i0:=fun p hp=>h.hp.i0 p (G p hp).1
   ib:=fun p hp b hb=>by
    obtain⟨i1,i2,i3,i4⟩:=h.hp.ib p (G p hp).1 b hb;exact⟨by rw[T];exact i1,i2,fun q hq=>i3 q (G q hq).1,fun q hq=>i4 q (G q hq).1⟩}
  (fun p hp=> .inl (Xj (G p hp).1)) rfl rfl ⟨rfl,fun _=>Xc _⟩
 refine⟨_,_,bi.put ?_ hd,hK⟩;simp only[rep];refine .inr ⟨b,0,cap,rfl,an,b6,by rw[T];exact ao,q26 hA 1 b (fun q u hq=>?_) xs 0 aj⟩;rw[cell_of_row w b q cur e' (0,0) I]at hq;rw[cell_of_row w' b q cur e' _ aq];exact hq
end
end
section
open Go Go.RowKit
section
variable {P:Program} {C:Ctx P} {s:St} {a:Act} {w:World} {β:aI} {nx:Nat} {ow:Nat->Prop}
theorem z3m{t e:TypeId}(T:P.underlying t=some (.slice e))(W:q19 P e=true)(a:Option Addr)(len cap:Nat)(k I G:IntKind)(l h m:Int)(Z:0<=l)(c1:l<=h)(c2:h<=m)(c3:m<=cap):
 (Instr.sliceAt t (.slice a len cap) (some (.int k l)) (some (.int I h)) (some (.int G m))).run P w=.ok (.slice (if m.toNat=l.toNat then a else a.map (·.add (l.toNat*szT P e))) (h.toNat-l.toNat) (m.toNat-l.toNat)) w:=by
 have e2:(h.toNat:Int)=h:=Y9 (by omega);have e3:(m.toNat:Int)=m:=Y9 (by omega);have key:(Instr.sliceBounds true len cap (some (.int k l)) (some (.int I h)) (some (.int G m))).run P w=.ok (l.toNat,h.toNat,m.toNat) w:=by
  simp[Instr.sliceBounds,run_sliceBound w G m cap _ (by omega) c3,run_sliceBound w I h m.toNat _ (by omega) (by omega),run_sliceBound w k l h.toNat _ Z (by omega)]
 simp only[Instr.sliceAt,Instr.slice,Sem.run_bind,run_underlying T,Result.andThen_ok,key,run_sizeOf W,Sem.run_pure]
def z7t(P:Program)(t:TypeId)(lo hi G:AV):AV->Option (Prop×AV)
 |.osl id sz off len=>match aO P t,lo,hi,G with
  |some e,.v (.int _ l),.v (.int _ h),.v (.int _ m)=>some (q19 P e=true/\szT P e=sz/\0<=l/\l<=h/\h<=m/\m<=len,.osl id sz (off+l.toNat) (h.toNat-l.toNat))
  |_,_,_,_=>none
 |.sl sz xs=>match aO P t,lo,hi,G with
  |some e,.v (.int _ l),.v (.int _ h),.v (.int _ m)=>some (q19 P e=true/\szT P e=sz/\0<=l/\l<=h/\h<=m/\m<=xs.length,.sl sz ((xs.take h.toNat).drop l.toNat))
  |_,_,_,_=>none
 |_=>none
theorem zy8{t:TypeId}{lo hi mx a r:AV}{c:Prop}{u ul uh um:Value}(h:z7t P t lo hi mx a=some (c,r))(hc:c)(ha:rep w β nx ow a u)(W:rep w β nx ow lo ul)(Z:rep w β nx ow hi uh)(a6:rep w β nx ow mx um):
 ∃z,(Instr.sliceAt t u (some ul) (some uh) (some um)).run P w=.ok z w/\rep w β nx ow r z:=by
 unfold z7t at h
 split at h
 .
  rename_i id sz off len
  split at h
  .
   rename_i e k l k' T I m he
   simp only[Xa,Xf]at h;obtain⟨rfl,rfl⟩:=h;obtain⟨c1,c2,c3,c4,c5,c6⟩:=hc;simp only[rep]at ha W Z a6⊢;subst W Z a6;obtain⟨h1,ha⟩:=ha;rcases ha with⟨h2,rfl,rfl,rfl⟩|⟨b,C,cap,a,h2,rfl,h3,h4,h5⟩
   .
    have e0:m=0:=by simp only[Int.natCast_zero]at c6;omega
    have e1:T=0:=by omega
    have e2:l=0:=by omega
    subst e0 e1 e2;exact⟨_,z3m (q0l he) c1 none 0 0 k k' I 0 0 0 c3 c4 c5 (by simp),h1,.inl ⟨h2,by simp,by simp,by simp⟩⟩
   refine⟨_,z3m (q0l he) c1 (some a) len cap k k' I l T m c3 c4 c5 (by omega),h1,.inr ⟨b,C,m.toNat-l.toNat,if m.toNat=l.toNat then a else a.add (l.toNat*szT P e),h2,?_,by omega,by omega,?_⟩⟩
   . split<;>simp
   by_cases aj:m.toNat=l.toNat
   .
    rw[if_pos aj]
    by_cases ak:l.toNat=0
    .
     rcases h5 with h5|h5
     . left;rw[h5,ak,Xm]
     right;omega
    right;omega
   rw[if_neg aj];rcases h5 with rfl|h5
   . left;rw[q9g,c2];simp[Xp]
   omega
  cases h
 .
  rename_i sz xs
  split at h
  .
   rename_i e k l k' T I m he
   simp only[Xa,Xf]at h;obtain⟨rfl,rfl⟩:=h;obtain⟨c1,c2,c3,c4,c5,c6⟩:=hc;simp only[rep]at ha W Z a6⊢;subst W Z a6;rcases ha with⟨rfl,a,cap,rfl⟩|⟨b,o,cap,rfl,h2,h3,h4,h5⟩
   . simp only[Yd,Int.natCast_zero]at c6;refine⟨_,z3m (q0l he) c1 a 0 cap k k' I l T m c3 c4 c5 (by omega),.inl ⟨by simp,if m.toNat=l.toNat then a else a.map (·.add (l.toNat*szT P e)),m.toNat-l.toNat,?_⟩⟩;rw[show T.toNat-l.toNat=0 by omega]
   refine⟨_,z3m (q0l he) c1 _ xs.length cap k k' I l T m c3 c4 c5 (by omega),?_⟩;have G:((xs.take T.toNat).drop l.toNat).length=T.toNat-l.toNat:=by
    rw[Yc,Xh];omega
   by_cases hz:(xs.take T.toNat).drop l.toNat=[]
   . refine .inl ⟨hz,?_⟩;rw[<-G,hz];exact⟨_,_,rfl⟩
   have an:0<T.toNat-l.toNat:=by
    rw[<-G];exact List.length_pos_iff.2 hz
   refine .inr ⟨b,o+l.toNat*sz,m.toNat-l.toNat,?_,by rw[G];omega,h3,h4,qs1 (qk9 h5 _) _⟩;rw[if_neg (by omega),G,c2];simp[q9g]
  cases h
 cases h
theorem j7r(h:Rel C s a w β){o:Oper}{t:TypeId}{x lo hi I:Operand}{c:Prop}{r:AV}{K:St->Prop}{Q:Exit->Act->World->Prop}(ho:o.op=.slice t x (some lo) (some hi) (some I))
 (hr:z7t P t (x8 s.env lo).st (x8 s.env hi).st (x8 s.env I).st (x8 s.env x).st=some (c,r))(hc:c)(T:(x8 s.env x).aU)(W:(x8 s.env lo).aU)(Z:(x8 s.env hi).aU)(a6:(x8 s.env I).aU)(hd:dok s.nt o.dst=true)
 (hK:K (s.put o.dst r)):o.wp P a w (RK C K) Q:=by
 obtain⟨z,hz,aj⟩:=zy8 hr hc (q2c h T) (q2c h W) (q2c h Z) (q2c h a6);have G:(execOp a.eval o).run P w=.ok (.value z) w:=by
  unfold execOp;simp only[ho];simp[hz]
 unfold Oper.wp;rw[G];exact⟨_,_,h.put aj hd,hK⟩
theorem j3z(h:Rel C s a w β){o:Oper}{t t':TypeId}{x y:Operand}{id sz off len:Nat}{eq:Bool}{K:St->Prop}{Q:Exit->Act->World->Prop}(ho:o.op=.binOp (if eq then .eql else .neq) t x y t')
 (hx:(x8 s.env x).st=.osl id sz off len)(hy:(x8 s.env y).st=.v (.slice none 0 0))(a6:(x8 s.env x).aU)(aj:(x8 s.env y).aU)(ht:(aO P t).isSome=true)(hp:0<len)(hd:dok s.nt o.dst=true)
 (hK:K (s.put o.dst (.v (.bool (!eq))))):o.wp P a w (RK C K) Q:=by
 obtain⟨e,he⟩:=Xx.1 ht;have I:=q2c h a6;have G:=q2c h aj;rw[hx]at I;rw[hy]at G;simp only[rep]at I G;have W:(execOp a.eval o).run P w=.ok (.value (.bool (!eq))) w:=by
  rcases I.2 with⟨_,_,Z,_⟩|⟨b,c,cap,ad,_,hv,_⟩
  . omega
  unfold execOp;have hq:=Lib.run_eql_slice_nil (P:=P) w t e (some ad) len cap 0 0 (q0l he)
  cases eq with
  |true=>
   have T:o.op=.binOp .eql t x y t':=ho;simp only[T,hv,G,Sem.run_bind];have Z:(eqGuard .eql t x y (.slice (some ad) len cap) (.slice none 0 0)).run P w=.ok () w:=rfl;rw[Z];simp only[Result.andThen_ok,hq,Sem.run_pure];rfl
  |false=>
   have T:o.op=.binOp .neq t x y t':=ho;simp only[T,hv,G,Sem.run_bind];have Z:(eqGuard .neq t x y (.slice (some ad) len cap) (.slice none 0 0)).run P w=.ok () w:=rfl;rw[Z];have ak:(binOp .neq t (.slice (some ad) len cap) (.slice none 0 0)).run P w=.ok (.bool true) w:=by
    simp only[binOp];simp[Op.equal,Op.maxDepth,Lib.run_equalIn_slice_nil w 9999 t e (some ad) len cap 0 0 (q0l he)]
   simp only[Result.andThen_ok,ak,Sem.run_pure];rfl
 unfold Oper.wp;rw[W];exact⟨_,_,h.put (by simp only[rep]) hd,hK⟩
theorem j40(h:Rel C s a w β){o:Oper}{t Z:TypeId}{x y:Operand}{eq:Bool}{K:St->Prop}{Q:Exit->Act->World->Prop}(ho:o.op=.binOp (if eq then .eql else .neq) t x y Z)
 (hx:(x8 s.env x).st=.v (.slice none 0 0))(hy:(x8 s.env y).st=.v (.slice none 0 0))(a6:(x8 s.env x).aU)(aj:(x8 s.env y).aU)(ht:(aO P t).isSome=true)(hd:dok s.nt o.dst=true)
 (hK:K (s.put o.dst (.v (.bool eq)))):o.wp P a w (RK C K) Q:=by
 obtain⟨e,he⟩:=Xx.1 ht;have G:=q2c h a6;have I:=q2c h aj;rw[hx]at G;rw[hy]at I;simp only[rep]at G I;have W:(execOp a.eval o).run P w=.ok (.value (.bool eq)) w:=by
  unfold execOp;have hq:=Lib.run_eql_slice_nil (P:=P) w t e none 0 0 0 0 (q0l he)
  cases eq with
  |true=>
   have T:o.op=.binOp .eql t x y Z:=ho;simp only[T,G,I,Sem.run_bind];have h0:(eqGuard .eql t x y (.slice none 0 0) (.slice none 0 0)).run P w=.ok () w:=rfl;rw[h0];simp only[Result.andThen_ok,hq,Sem.run_pure];rfl
  |false=>
   have T:o.op=.binOp .neq t x y Z:=ho;simp only[T,G,I,Sem.run_bind];have h0:(eqGuard .neq t x y (.slice none 0 0) (.slice none 0 0)).run P w=.ok () w:=rfl;rw[h0];have ak:(binOp .neq t (.slice none 0 0) (.slice none 0 0)).run P w=.ok (.bool false) w:=by
    simp only[binOp];simp[Op.equal,Op.maxDepth,Lib.run_equalIn_slice_nil w 9999 t e none 0 0 0 0 (q0l he)]
   simp only[Result.andThen_ok,ak,Sem.run_pure]
 unfold Oper.wp;rw[W];exact⟨_,_,h.put (by simp only[rep]) hd,hK⟩
theorem Rel.cB(h:Rel C s a w β){id sz:Nat}{xs ys:List (List AV)}(hg:q0i s.hp id=some (.arr sz xs)){b c:Nat}(hb:β id=some (b,c)){cur:Array Value}{e:TypeId}(G:w.heap[b]?=some (.cells cur e (0,0)))
 (W:cur.size=c*sz)(Z:c<=maxLen){cur':Array Value}(a6:cur'.size=cur.size)(aj:ys.length<=c)(ak:∀r∈ys,r.length=sz){us:List Value}(an:y9 w β 0 (own β s.hp C.A) ys.flatten us)(T:∀u∈us,u.oneCell'=true)
 (I:∀(j:Nat) (u:Value),us[j]?=some u->cur'[j]?=some u):Rel C {s with hp:=q0u s.hp id (.arr sz ys)} a (w.setRow b cur') β:=by
 refine h.write (cur':=cur') (o':=.arr sz ys) hg hb (fun w' hA ao=>?_);subst ao;refine .inr ⟨b,c,cur',e,hb,setRow_heap w b cur _ e (0,0) G,by rw[a6];exact W,aj,Z,?_⟩;refine q6u ak (q1r hA 0 0 (Xc _) (fun _ hi=>absurd hi (X0 _)) _ _ an) T fun j u hj=>?_;rw[X5,cell_setRow_same w b j cur _ e (0,0) G];exact I j u hj
theorem z1p(h:Rel C s a w β){id sz:Nat}{xs:List (List AV)}(Z:q0i s.hp id=some (.arr sz xs)){b c:Nat}(hb:β id=some (b,c)):
 ∃cur e us,w.heap[b]?=some (.cells cur e (0,0))/\cur.size=c*sz/\xs.length<=c/\c<=maxLen/\(∀r∈xs,r.length=sz)/\y9 w β 0 (own β s.hp C.A) xs.flatten us/\(∀u∈us,u.oneCell'=true)/\us.length=xs.length*sz/\
  (∀(j:Nat) (u:Value),us[j]?=some u->cur.toList[j]?=some u):=by
 rcases h.hp.obj _ (q0k Z)with⟨G,_⟩|⟨b',c',cur,e,G,T,h3,h4,h5,I⟩
 . simp only at G;rw[hb]at G;cases G
 simp only at G;rw[hb]at G;simp only[Xa,Xf]at G;obtain⟨rfl,rfl⟩:=G;obtain⟨us,W,h8,h9⟩:=qs0 I;refine⟨cur,e,us,T,h3,h4,h5,qe3 I,W,h8,by rw[<-q1p W];exact qn0 (qe3 I),fun j u hj=>?_⟩;have:=h9 j u hj;rw[X5,cell_of_row w b j cur e (0,0) T]at this
 simpa using this
theorem z0i{α:Type}{sz:Nat}:∀{xs:List (List α)} (k:Nat),(∀r∈xs,r.length=sz)->(xs.take k).flatten=xs.flatten.take (k*sz)
 |[],k,_=>by simp
 |r::I,0,_=>by simp
 |r::I,k+1,h=>by
  have G:=h r Yj;have e:(k+1)*sz=r.length+k*sz:=by rw[Xp,Zf,G,Nat.add_comm]
  rw[Za,Xv,Xv,z0i k fun r G=>h r (Ye _ G),e,List.take_length_add_append]
theorem z6m{α:Type}{sz:Nat}:∀{xs:List (List α)} (k:Nat),(∀r∈xs,r.length=sz)->(xs.drop k).flatten=xs.flatten.drop (k*sz)
 |[],k,_=>by simp
 |r::I,0,_=>by simp
 |r::I,k+1,h=>by
  have G:=h r Yj;have e:(k+1)*sz=r.length+k*sz:=by rw[Xp,Zf,G,Nat.add_comm]
  rw[List.drop_succ_cons,Xv,z6m k fun r G=>h r (Ye _ G),e,List.drop_length_add_append]
theorem Rel.cH(h:Rel C s a w β){id sz:Nat}{xs ys:List (List AV)}(hg:q0i s.hp id=some (.arr sz xs)){b c:Nat}(hb:β id=some (b,c)){vs:List Value}(Z:y9 w β 0 (own β s.hp C.A) ys.flatten vs)(ao:∀u∈vs,u.oneCell'=true)
 (a6:∀r∈ys,r.length=sz)(off:Nat)(aq:off+ys.length<=xs.length){cur:Array Value}{e:TypeId}(G:w.heap[b]?=some (.cells cur e (0,0))):
 Rel C {s with hp:=q0u s.hp id (.arr sz (xs.take off++ys++xs.drop (off+ys.length)))} a (w.setRow b (cur.toList.take (off*sz)++vs++cur.toList.drop (off*sz+vs.length)).toArray) β:=by
 obtain⟨b5,e2,us,h2,h3,h4,h5,h6,h7,h8,h9,aj⟩:=z1p h hg hb;rw[G]at h2;simp only[Xa,Obj.cells.injEq,and_true]at h2;obtain⟨rfl,rfl⟩:=h2;have ar:vs.length=ys.length*sz:=by rw[<-q1p Z];exact qn0 a6
 have b6:off*sz+ys.length*sz<=xs.length*sz:=by rw[<-Xp];exact Xi _ aq
 have b1:xs.length*sz<=c*sz:=Xi _ h4;have b2:cur.toList.length=c*sz:=by simpa using h3
 refine h.cB (us:=us.take (off*sz)++vs++us.drop (off*sz+vs.length)) hg hb G h3 h5 ?_ ?_ ?_ ?_ ?_ ?_
 . simp only[X4,Xs,Xh,Yc,b2];omega
 . simp only[Xs,Xh,Yc];omega
 .
  intro r I;rcases Xe.1 I with I|I
  .
   rcases Xe.1 I with I|I
   . exact h6 r (Xw I)
   exact a6 r I
  exact h6 r (Y3 I)
 . rw[Yi,Yi,z0i off h6,z6m _ h6,Xp,<-ar];exact q6m (q6m (q7o h7 _) Z) (q9v h7 _)
 .
  intro u T;rcases Xe.1 T with T|T
  .
   rcases Xe.1 T with T|T
   . exact h8 u (Xw T)
   exact ao u T
  exact h8 u (Y3 T)
 intro j u W;simp only[List.getElem?_toArray];have ht:(us.take (off*sz)).length=off*sz:=by rw[Xh];omega
 have ak:(cur.toList.take (off*sz)).length=off*sz:=by rw[Xh];omega
 have b3:(us.take (off*sz)++vs).length=off*sz+vs.length:=by rw[Xs,ht]
 have b4:(cur.toList.take (off*sz)++vs).length=off*sz+vs.length:=by rw[Xs,ak]
 rcases Yr j (off*sz+vs.length)with bs|bv
 .
  rw[Yp (by omega)]at W⊢;rcases Yr j (off*sz)with an|bi
  . rw[Yp (by omega),Yk,if_pos an]at W⊢;exact aj j u W
  rw[Xu (by omega),ht]at W;rw[Xu (by omega),ak];exact W
 rw[Xu (by omega),b3,Zb]at W;rw[Xu (by omega),b4,Zb];exact aj _ u W
theorem z7p{z:Value}(G:0<z.cells.toList.length)(n:Nat):(Builtin.zeroCells z.cells n).toList=(Xb n z.cells.toList).flatten:=by
 have:=za6 z.cells.toList G n;simp only[Builtin.zeroCells,Array.toList_map,Array.toList_range]
 simpa using this
theorem jb7(h:Rel C s a w β){o:Oper}{cl:Call}{x:Operand}{t e:TypeId}{id sz off len:Nat}{xs:List (List AV)}{zs:List Value}{K:St->Prop}{Q:Exit->Act->World->Prop}
 (ho:o.op=.call cl)(b3:cl.callee=.builtin .clear)(W:cl.args.toList=[x])(b4:cl.argTypes.toList=[t])(b5:(x8 s.env x).aU)(hx:(x8 s.env x).st=.osl id sz off len)(hg:q0i s.hp id=some (.arr sz xs))(b6:off+len<=xs.length)
 (he:aO P t=some e)(hT:q19 P e=true)(c2:szT P e=sz)(hz:q1w P e=some zs)(Z:zs.length=sz)(an:0<sz)(h1:zs.all (·.oneCell')=true)(hd:dok s.nt o.dst=true)
 (hK:K (({s with hp:=q0u s.hp id (.arr sz (xs.take off++Xb len (q1v (qh6 P e) (zs.map AV.v))++xs.drop (off+len)))}:St).put o.dst (.tup []))):o.wp P a w (RK C K) Q:=by
 have I:=q2c h b5;rw[hx]at I;simp only[rep]at I;obtain⟨hid,I⟩:=I;obtain⟨i,hi,c0,c3⟩:=qd2 hT;have c4:=hz;unfold q1w at hz;simp only[Xg,Xr]at hz;obtain⟨z,⟨i',hi',hz⟩,rfl⟩:=hz;rw[hi]at hi';simp only[Xa]at hi';subst hi';have e2:cl.args=#[x]:=Xo W;have e3:cl.argTypes=#[t]:=Xo b4;have a6:∀v w',(Builtin.clear_ #[t] o.type #[a.eval x]).run P w=.ok v w'->(execOp a.eval o).run P w=.ok (.value v) w':=fun v w' hr=>by
  unfold execOp;simp only[ho];simp[resolve,b3,e2,e3,invoke,builtin,hr]
 have aj:∀{s' w'},Rel C s' a w' β->rep w' β s'.nx (own β s'.hp C.A) (.tup []) (.tuple #[]):=fun _=>by
  simp only[rep];exact⟨[],rfl,by simp only[y9]⟩
 by_cases h0:len=0
 .
  subst h0;have ak:xs.take off++Xb 0 (q1v (qh6 P e) (z.cells.toList.map AV.v))++xs.drop (off+0)=xs:=by simp
  rw[ak]at hK;have ao:q0u s.hp id (.arr sz xs)=s.hp:=by
   clear hK hd aj a6;have:∀hp:Hp,q0i hp id=some (.arr sz xs)->q0u hp id (.arr sz xs)=hp:=by
    intro hp
    induction hp with
    |nil=>intro h;simp[q0i]at h
    |cons p r ih=>
     obtain⟨k,q⟩:=p;intro hq;simp only[q0i]at hq;simp only[q0u]
     by_cases hk:k=id
     . rw[if_pos hk]at hq⊢;simp only[Xa]at hq;rw[hq,hk]
     rw[if_neg hk]at hq⊢;rw[ih hq]
   exact this _ hg
  rw[ao]at hK;have hr:(Builtin.clear_ #[t] o.type #[a.eval x]).run P w=.ok (.tuple #[]) w:=by
   rcases I with⟨_,_,_,hv⟩|⟨b,c,cap,ad,_,hv,_⟩<;>rw[hv]<;>simp[Builtin.clear_,run_underlying (q0l he)]
  unfold Oper.wp;rw[a6 _ _ hr];exact⟨_,_,h.put (aj h) hd,hK⟩
 rcases I with⟨_,_,hl,_⟩|⟨b,c,cap,ad,hb,hv,c1,hC,G⟩
 . exact absurd hl h0
 have aq:ad=⟨b,off*sz,none⟩:=by
  rcases G with G|G
  . exact G
  omega
 subst aq;obtain⟨cur,e',us,h2,h3,h4,h5,h6,h7,h8,h9,c5⟩:=z1p h hg hb;have bi:0<z.cells.toList.length:=by rw[Z];exact an
 have bs:((Xb len z.cells.toList).flatten).length=len*sz:=by
  rw[List.length_flatten];simp only[Ya,Z,List.sum_replicate_nat]
 have ar:off*sz+len*sz<=cur.size:=by
  rw[h3,<-Xp];exact Xi _ (by omega)
 have T:∀u∈(Xb len z.cells.toList).flatten,u.oneCell'=true:=by
  intro u I;obtain⟨l',bv,b1⟩:=Yq.1 I;rw[Xl bv]at b1;exact X8.1 h1 u b1
 have b2:=run_storeCells_at P b (off*sz) e' ((Xb len z.cells.toList).flatten) 0 cur w h2 (by rw[Xm,bs];exact ar) T;simp only[Xm]at b2;have hr:(Builtin.clear_ #[t] o.type #[a.eval x]).run P w=.ok (.tuple #[]) (w.setRow b (cur.toList.take (off*sz)++(Xb len z.cells.toList).flatten++cur.toList.drop (off*sz+((Xb len z.cells.toList).flatten).length)).toArray):=by
  rw[hv];obtain⟨m,rfl⟩:∃m,len=m+1:=⟨len-1,by omega⟩;simp[Builtin.clear_,run_underlying (q0l he),zeroValue,typeInfo,hi,hz,z7p bi,b2]
 unfold Oper.wp;rw[a6 _ _ hr];have hR:=h.cH (ys:=Xb len (q1v (qh6 P e) (z.cells.toList.map AV.v))) hg hb (vs:=(Xb len z.cells.toList).flatten) (by rw[<-Ya];exact qg8 (z3n _ _ _ _ _ _)) T (fun r hr=>by rw[Xl hr,qj4];simp[Z]) off (by rw[Yx];exact b6) h2;rw[Yx]at hR;exact⟨_,_,hR.put (aj hR) hd,hK⟩
theorem jn2(h:Rel C s a w β){o:Oper}{cl:Call}{x y:Operand}{t t' e:TypeId}{id sz off len szy:Nat}{xs ys:List (List AV)}{cs:Prop}{K:St->Prop}{Q:Exit->Act->World->Prop}
 (ho:o.op=.call cl)(c2:cl.callee=.builtin .copy)(aj:cl.args.toList=[x,y])(c3:cl.argTypes.toList=[t,t'])(c4:(x8 s.env x).aU)(c5:(x8 s.env y).aU)(hx:(x8 s.env x).st=.osl id sz off len)(hg:q0i s.hp id=some (.arr sz xs))(cd:off+len<=xs.length)
 (b1:z2i s.hp (x8 s.env y).st=some (szy,ys,cs))(c6:cs)(he:aO P t=some e)(hT:q19 P e=true)(c7:szT P e=sz)(hy:ys=[]\/szy=sz)(hd:dok s.nt o.dst=true)
 (hK:K (({s with hp:=q0u s.hp id (.arr sz (xs.take off++ys.take len++xs.drop (off+(ys.take len).length)))}:St).put o.dst (.v (.int .i64 ((min ys.length len:Nat):Int))))):o.wp P a w (RK C K) Q:=by
 have hu:=q2c h c4;rw[hx]at hu;simp only[rep]at hu;obtain⟨hid,hu⟩:=hu;obtain⟨i,hi,b2,cp⟩:=qd2 hT;obtain⟨ad,b3,vs,ak,hL,an,ao,b4,Z⟩:=z6z h.hp b1 c6 (q2c h c5);have G:∀r∈ys,r.length=sz:=by
  rcases an with h0|h0
  . subst h0;simp
  rcases hy with h1|h1
  . subst h1;simp
  rw[<-h1];exact h0
 have aq:vs.length=ys.length*sz:=by rw[<-q1p hL];exact qn0 G
 have e2:cl.args=#[x,y]:=Xo aj;have e3:cl.argTypes=#[t,t']:=Xo c3;have b5:∀v w',(Builtin.copy_ #[t,t'] o.type #[a.eval x,a.eval y]).run P w=.ok v w'->(execOp a.eval o).run P w=.ok (.value v) w':=fun v w' hr=>by
  unfold execOp;simp only[ho];simp[resolve,c2,e2,e3,invoke,builtin,hr]
 have b6:Nat.min ys.length len=min ys.length len:=rfl;have I:(Builtin.firstCells i.size (min ys.length len) (a.eval y)).run P w=.ok ⟨vs.take (len*sz)⟩ w:=by
  rw[ak,b2,c7];have ar:(vs.take (len*sz)).length=min ys.length len*sz:=by
   rw[Xh,aq,Nat.min_comm];rcases Zc ys.length len with T|T
   . have:=Xi sz T;rw[X3 T,X3 this]
   have:=Xi sz T;rw[Xy T,Xy this]
  cases ad with
  |none=>
   have h0:=ao rfl;subst h0;have c8:vs=[]:=Xq (by rw[aq];simp);subst c8;simp[Builtin.firstCells]
  |some q=>exact run_firstCells_some w sz _ q _ b3 _ ar (fun j u hj=>Z q rfl j u (by
   rw[Yk]at hj
   split at hj
   . exact hj
   cases hj))
 rcases hu with⟨hb,rfl,rfl,hv⟩|⟨b,c,cap,bi,hb,hv,cc,hC,a6⟩
 .
  have c9:xs.take 0++ys.take 0++xs.drop (0+(ys.take 0).length)=xs:=by simp
  rw[c9]at hK;have bs:q0u s.hp id (.arr sz xs)=s.hp:=by
   have:∀hp:Hp,q0i hp id=some (.arr sz xs)->q0u hp id (.arr sz xs)=hp:=by
    intro hp
    induction hp with
    |nil=>intro h;simp[q0i]at h
    |cons p r ih=>
     obtain⟨k,q⟩:=p;intro hq;simp only[q0i]at hq;simp only[q0u]
     by_cases hk:k=id
     . rw[if_pos hk]at hq⊢;simp only[Xa]at hq;rw[hq,hk]
     rw[if_neg hk]at hq⊢;rw[ih hq]
   exact this _ hg
  rw[bs]at hK;have hr:(Builtin.copy_ #[t,t'] o.type #[a.eval x,a.eval y]).run P w=.ok (.int .i64 ((min ys.length 0:Nat):Int)) w:=by
   rw[hv];simp only[Nat.min_zero]at I;rw[ak]at I⊢;simp[Builtin.copy_,run_underlying (q0l he),Builtin.lenOf,sizeOf,typeInfo,hi,I,goInt]
  unfold Oper.wp;rw[b5 _ _ hr];exact⟨_,_,h.put (by simp only[rep]) hd,hK⟩
 obtain⟨cur,e',us,h2,h3,h4,h5,h6,h7,h8,h9,d0⟩:=z1p h hg hb;have ar:(vs.take (len*sz)).length=(ys.take len).length*sz:=by
  rw[Xh,Xh,aq];rcases Zc len ys.length with T|T
  . rw[X3 T,X3 (Xi sz T)]
  rw[Xy T,Xy (Xi sz T)]
 have W:∀u∈vs.take (len*sz),u.oneCell'=true:=fun u hu=>b4 u (Xw hu);have bv:y9 w β 0 (own β s.hp C.A) (ys.take len).flatten (vs.take (len*sz)):=by
  rw[z0i len G];exact q7o hL _
 have d1:(ys.take len).length<=len:=by rw[Xh];omega
 have hR:=h.cH (ys:=ys.take len) hg hb bv W (fun r hr=>G r (Xw hr)) off (by omega) h2;have c0:off*sz+(vs.take (len*sz)).length<=cur.size:=by
  rw[ar,h3,<-Xp];exact Xi _ (by omega)
 have c1:bi=⟨b,off*sz,none⟩\/(vs.take (len*sz)=[]):=by
  rcases a6 with a6|a6
  . exact .inl a6
  right
  have:len=0:=by omega
  subst this;simp
 have cb:(storeCells bi (vs.take (len*sz))).run P w=.ok () (w.setRow b (cur.toList.take (off*sz)++vs.take (len*sz)++cur.toList.drop (off*sz+(vs.take (len*sz)).length)).toArray):=by
  rcases c1 with rfl|h0
  . have:=run_storeCells_at P b (off*sz) e' (vs.take (len*sz)) 0 cur w h2 (by rw[Xm];exact c0) W;simp only[Xm]at this;exact this
  rw[h0];simp only[storeCells,Ys,Yd,Xm,Yy,Y4];rw[setRow_self w b cur e' (0,0) h2];rfl
 have hr:(Builtin.copy_ #[t,t'] o.type #[a.eval x,a.eval y]).run P w=.ok (.int .i64 ((min ys.length len:Nat):Int)) (w.setRow b (cur.toList.take (off*sz)++vs.take (len*sz)++cur.toList.drop (off*sz+(vs.take (len*sz)).length)).toArray):=by
  rw[hv];rw[ak]at I⊢;simp[Builtin.copy_,run_underlying (q0l he),Builtin.lenOf,sizeOf,typeInfo,hi,b6,I,cb,goInt]
 unfold Oper.wp;rw[b5 _ _ hr];exact⟨_,_,hR.put (by simp only[rep]) hd,hK⟩
theorem jb6(h:Rel C s a w β){o:Oper}{cl:Call}{x y:Operand}{t t' e:TypeId}{id off len szy:Nat}{xs:List AV}{ys:List (List AV)}{cs:Prop}{K:St->Prop}{Q:Exit->Act->World->Prop}
 (ho:o.op=.call cl)(ao:cl.callee=.builtin .copy)(T:cl.args.toList=[x,y])(bi:cl.argTypes.toList=[t,t'])(bs:(x8 s.env x).aU)(bv:(x8 s.env y).aU)(hx:(x8 s.env x).st=.bsl id off len)(hg:q0i s.hp id=some (.box xs))(cb:off+len<=xs.length)
 (aq:z2i s.hp (x8 s.env y).st=some (szy,ys,cs))(c0:cs)(he:aO P t=some e)(hT:q19 P e=true)(c1:szT P e=1)(hy:ys=[]\/szy=1)(hd:dok s.nt o.dst=true)
 (hK:K (({s with hp:=q0u s.hp id (.box (q81 xs off (ys.take len).flatten))}:St).put o.dst (.v (.int .i64 ((min ys.length len:Nat):Int))))):o.wp P a w (RK C K) Q:=by
 have hu:=q2c h bs;rw[hx]at hu;simp only[rep]at hu;obtain⟨hid,b,c,cap,c2,hb,hv,c9,c3⟩:=hu;obtain⟨i,hi,ar,cc⟩:=qd2 hT;obtain⟨ad,b1,vs,b2,hL,W,Z,b3,G⟩:=z6z h.hp aq c0 (q2c h bv);have I:∀r∈ys,r.length=1:=by
  rcases W with h0|h0
  . subst h0;simp
  rcases hy with h1|h1
  . subst h1;simp
  rw[<-h1];exact h0
 have a6:vs.length=ys.length*1:=by rw[<-q1p hL];exact qn0 I
 have e2:cl.args=#[x,y]:=Xo T;have e3:cl.argTypes=#[t,t']:=Xo bi;have c4:∀v w',(Builtin.copy_ #[t,t'] o.type #[a.eval x,a.eval y]).run P w=.ok v w'->(execOp a.eval o).run P w=.ok (.value v) w':=fun v w' hr=>by
  unfold execOp;simp only[ho];simp[resolve,ao,e2,e3,invoke,builtin,hr]
 have b4:Nat.min ys.length len=min ys.length len:=rfl;have aj:(Builtin.firstCells i.size (min ys.length len) (a.eval y)).run P w=.ok ⟨vs.take (len*1)⟩ w:=by
  rw[b2,ar,c1];have c5:(vs.take (len*1)).length=min ys.length len*1:=by
   rw[Xh,a6,Nat.min_comm];rcases Zc ys.length len with hh|hh
   . have:=Xi 1 hh;rw[X3 hh,X3 this]
   have:=Xi 1 hh;rw[Xy hh,Xy this]
  cases ad with
  |none=>
   have h0:=Z rfl;subst h0;have c6:vs=[]:=Xq (by rw[a6];simp);subst c6;simp[Builtin.firstCells]
  |some q=>exact run_firstCells_some w 1 _ q _ b1 _ c5 (fun j u hj=>G q rfl j u (by
   rw[Yk]at hj
   split at hj
   . exact hj
   cases hj))
 obtain⟨b',c',cur,e',h5,h6,h7⟩:=h.hp.obj _ (q0k hg);simp only at h5;rw[hb]at h5;simp only[Xa,Xf]at h5;obtain⟨rfl,rfl⟩:=h5;have ao:=q1p h7;simp only[Nat.mul_one]at a6 aj;have ak:∀u∈vs.take len,u.oneCell'=true:=fun u hu=>b3 u (Xw hu);have an:(ys.take len).flatten=ys.flatten.take len:=by rw[z0i len I,Nat.mul_one]
 have b5:y9 w β 0 (own β s.hp C.A) (ys.take len).flatten (vs.take len):=by rw[an];exact q7o hL _
 have b6:off+(vs.take len).length<=cur.size:=by
  rw[Xh];have:cur.toList.length=cur.size:=by simp
  omega
 have c7:(storeCells c2 (vs.take len)).run P w=.ok () (w.setRow b (cur.toList.take off++vs.take len++cur.toList.drop (off+(vs.take len).length)).toArray):=by
  rcases c3 with rfl|h0
  . have:=run_storeCells_at P b off e' (vs.take len) 0 cur w h6 (by rw[Xm];exact b6) ak;simp only[Xm]at this;exact this
  subst h0;simp only[Yv,storeCells,Ys,Yd,Xm,Yy,Y4];rw[setRow_self w b cur e' (0,0) h6];rfl
 have hr:(Builtin.copy_ #[t,t'] o.type #[a.eval x,a.eval y]).run P w=.ok (.int .i64 ((min ys.length len:Nat):Int)) (w.setRow b (cur.toList.take off++vs.take len++cur.toList.drop (off+(vs.take len).length)).toArray):=by
  rw[hv];rw[b2]at aj⊢;simp[Builtin.copy_,run_underlying (q0l he),Builtin.lenOf,sizeOf,typeInfo,hi,b4,aj,c7,goInt]
 unfold Oper.wp;rw[c4 _ _ hr];have h8:=h.write (cur':=(cur.toList.take off++vs.take len++cur.toList.drop (off+(vs.take len).length)).toArray) (o':=.box (q81 xs off (ys.take len).flatten)) hg hb (fun w' hA c8=>
  ⟨b,c,_,e',hb,by rw[<-c8];exact setRow_heap w b cur _ e' (0,0) h6,z2q (q1r hA _ _ (Xc _) (fun _ _=>rfl) _ _ h7) (q1r hA 0 _ (Nat.zero_le _) (fun _ hi=>absurd hi (X0 _)) _ _ b5)⟩)
 exact⟨_,_,h8.put (by simp only[rep]) hd,hK⟩
end
end
section
open Go Go.RowKit
def q20:List Value->Option (List (Option IntKind))
 |[]=>some []
 |.int k _::r=>(q20 r).map (some k::·)
 |.bool _::r=>(q20 r).map (none::·)
 |_=>none
def qo3:List AV->Option (List (Option IntKind))
 |[]=>some []
 |.v (.int k _)::r=>(qo3 r).map (some k::·)
 |.v (.bool _)::r=>(qo3 r).map (none::·)
 |_=>none
def eqV:List Value->List Value->Bool
 |.int _ a::r,.int _ b::q=>a==b&&eqV r q
 |.bool a::r,.bool b::q=>a==b&&eqV r q
 |_,_=>true
def eqA:List AV->List AV->Bool
 |.v (.int _ a)::r,.v (.int _ b)::q=>a==b&&eqA r q
 |.v (.bool a)::r,.v (.bool b)::q=>a==b&&eqA r q
 |_,_=>true
def EqT(P:Program)(t:TypeId)(G:List (Option IntKind)):Prop:=
 P.eqGuardType P.depth t=false/\∀(us vs:List Value),q20 us=some G->q20 vs=some G->∀w:World,(Op.equalIn 10000 t (.agg ⟨us⟩) (.agg ⟨vs⟩)).run P w=.ok (eqV us vs) w
def eqR(P:Program)(op:BinOp)(t:TypeId):AV->AV->Option (Prop×AV)
 |.agg xs,.agg ys=>match qo3 xs,op with
  |some G,.eql=>some (qo3 ys=some G/\EqT P t G,.v (.bool (eqA xs ys)))
  |some G,.neq=>some (qo3 ys=some G/\EqT P t G,.v (.bool (!eqA xs ys)))
  |_,_=>none
 |.v (.bool a),.v (.bool b)=>match op with
  |.eql=>some (P.underlying t=some .bool,.v (.bool (a==b)))
  |.neq=>some (P.underlying t=some .bool,.v (.bool (!(a==b))))
  |_=>none
 |.v (.string a),.v (.string b)=>match op with
  |.eql=>some (True,.v (.bool (a==b)))
  |.neq=>some (True,.v (.bool (a !=b)))
  |.add=>some (a.data.toList.length+b.data.toList.length<=9223372036854775807,.v (.string ⟨⟨a.data.toList++b.data.toList⟩⟩))
  |_=>none
 |_,_=>none
section
variable {P:Program} {w:World} {β:aI} {nx:Nat} {ow:Nat->Prop}
theorem qk8:∀{xs:List AV} {us:List Value} {W:List (Option IntKind)},qo3 xs=some W->y9 w β nx ow xs us->q20 us=some W/\∀{ys:List AV} {vs:List Value},y9 w β nx ow ys vs->qo3 ys=some W->eqV us vs=eqA xs ys
 |[],[],W,h,_=>by
  simp only[qo3,Xa]at h;subst h;exact⟨rfl,fun _ _=>rfl⟩
 |x::xs,u::us,W,h,T=>by
  unfold qo3 at h
  split at h
  . rename_i heq;simp at heq
  .
   rename_i k n r heq
   simp only[Yf]at heq;obtain⟨rfl,rfl⟩:=heq;simp only[Xg]at h;obtain⟨Z,h1,rfl⟩:=h;simp only[y9,rep]at T;obtain⟨rfl,T⟩:=T;obtain⟨h2,h3⟩:=qk8 h1 T;refine⟨by simp[q20,h2],?_⟩;intro ys vs I G;unfold qo3 at G
   split at G
   . simp at G
   .
    rename_i k' n' r'
    simp only[Xg,Yf,Xa]at G;obtain⟨a6,h4,rfl,rfl⟩:=G
    cases vs with
    |nil=>simp only[y9]at I
    |cons v vs=>
     simp only[y9,rep]at I;obtain⟨rfl,I⟩:=I;simp only[eqV,eqA,h3 I h4]
   . simp at G
   cases G
  .
   rename_i b r heq
   simp only[Yf]at heq;obtain⟨rfl,rfl⟩:=heq;simp only[Xg]at h;obtain⟨Z,h1,rfl⟩:=h;simp only[y9,rep]at T;obtain⟨rfl,T⟩:=T;obtain⟨h2,h3⟩:=qk8 h1 T;refine⟨by simp[q20,h2],?_⟩;intro ys vs I G;unfold qo3 at G
   split at G
   . simp at G
   . simp at G
   .
    rename_i b' r'
    simp only[Xg,Yf,true_and]at G;obtain⟨a6,h4,rfl⟩:=G
    cases vs with
    |nil=>simp only[y9]at I
    |cons v vs=>
     simp only[y9,rep]at I;obtain⟨rfl,I⟩:=I;simp only[eqV,eqA,h3 I h4]
   cases G
  cases h
 |[],_::_,_,_,h=>by simp only[y9]at h
 |_::_,[],_,_,h=>by simp only[y9]at h
theorem j9m{op:BinOp}{t:TypeId}{xo yo:Operand}{x y r:AV}{c:Prop}{u v:Value}(h:eqR P op t x y=some (c,r))(Z:c)(T:rep w β nx ow x u)(G:rep w β nx ow y v):
 ∃z,(do eqGuard op t xo yo u v;binOp op t u v:Sem Value).run P w=.ok z w/\rep w β nx ow r z:=by
 unfold eqR at h
 split at h
 .
  rename_i xs ys
  simp only[rep]at T G;obtain⟨us,rfl,T⟩:=T;obtain⟨vs,rfl,G⟩:=G
  split at h
  .
   rename_i sh W
   simp only[Xa,Xf]at h;obtain⟨rfl,rfl⟩:=h;obtain⟨I,hg,he⟩:=Z;obtain⟨h1,h2⟩:=qk8 W T;have h3:=(qk8 I G).1;refine⟨.bool (eqA xs ys),?_,by simp only[rep]⟩;have:=he us vs h1 h3 w;rw[h2 G I]at this;simp only[Sem.run_bind,run_eqGuard_agg (P:=P) w _ t xo yo ⟨us⟩ ⟨vs⟩ hg,Result.andThen_ok,run_eql_struct,this]
  .
   rename_i sh W
   simp only[Xa,Xf]at h;obtain⟨rfl,rfl⟩:=h;obtain⟨I,hg,he⟩:=Z;obtain⟨h1,h2⟩:=qk8 W T;have h3:=(qk8 I G).1;refine⟨.bool (!eqA xs ys),?_,by simp only[rep]⟩;have:=he us vs h1 h3 w;rw[h2 G I]at this;simp only[Sem.run_bind,run_eqGuard_agg (P:=P) w _ t xo yo ⟨us⟩ ⟨vs⟩ hg,Result.andThen_ok,run_neq_struct,this]
  cases h
 .
  rename_i a b
  simp only[rep]at T G;subst T G
  split at h
  . simp only[Xa,Xf]at h;obtain⟨rfl,rfl⟩:=h;exact⟨.bool (a==b),by simp[eqGuard,run_eql_bool w t a b Z],by simp only[rep]⟩
  . simp only[Xa,Xf]at h;obtain⟨rfl,rfl⟩:=h;exact⟨.bool (!(a==b)),by simp[eqGuard,run_neq_bool w t a b Z],by simp only[rep]⟩
  cases h
 .
  rename_i a b
  simp only[rep]at T G;subst T G
  split at h
  . simp only[Xa,Xf]at h;obtain⟨_,rfl⟩:=h;exact⟨.bool (a==b),by simp[eqGuard,binOp,Op.stringOp,beq_toListBytes],by simp only[rep]⟩
  . simp only[Xa,Xf]at h;obtain⟨_,rfl⟩:=h;exact⟨.bool (a !=b),by simp[eqGuard,binOp,Op.stringOp,bne,beq_toListBytes],by simp only[rep]⟩
  .
   simp only[Xa,Xf]at h;obtain⟨rfl,rfl⟩:=h;have a6:(a.size:Int)+(b.size:Int)<=9223372036854775807:=by
    have e1:a.size=a.data.toList.length:=rfl;have e2:b.size=b.data.toList.length:=rfl;rw[e1,e2];omega
   refine⟨.string (a++b),by simp[eqGuard,binOp,Op.stringOp,a6],?_⟩;simp only[rep]
   congr 1
  cases h
 cases h
def zo0(P:Program)(t:TypeId):Bool:=match P.underlying t with
 |some (.interface _)=>true
 |_=>false
def z4y(P:Program)(t:TypeId):Bool:=match P.underlying t with
 |some (.pointer _)=>true
 |_=>false
def j04(P:Program)(op:BinOp)(t:TypeId)(a:AV)(y:Operand):Option (Prop×AV):=match op,a,y with
 |.eql,.erb g,.const .nilIface=>some (zo0 P t=true,.v (.bool g))
 |.neq,.erb g,.const .nilIface=>some (zo0 P t=true,.v (.bool (!g)))
 |.eql,.ptr _ _,.const (.pointer none)=>some (z4y P t=true,.v (.bool false))
 |.neq,.ptr _ _,.const (.pointer none)=>some (z4y P t=true,.v (.bool true))
 |.eql,.v (.pointer none),.const (.pointer none)=>some (z4y P t=true,.v (.bool true))
 |.neq,.v (.pointer none),.const (.pointer none)=>some (z4y P t=true,.v (.bool false))
 |_,_,_=>none
theorem j3n{op:BinOp}{t:TypeId}{xo W:Operand}{x r:AV}{c:Prop}{u v:Value}(h:j04 P op t x W=some (c,r))(Z:c)(G:rep w β nx ow x u)(hy:∀z,W=.const z->v=z):
 ∃z,(do eqGuard op t xo W u v;binOp op t u v:Sem Value).run P w=.ok z w/\rep w β nx ow r z:=by
 have key:∀g:Bool,W=.const .nilIface->x=.erb g->zo0 P t=true->(eqGuard .eql t xo W u v).run P w=.ok () w/\(eqGuard .neq t xo W u v).run P w=.ok () w/\(binOp .eql t u v).run P w=.ok (.bool g) w/\(binOp .neq t u v).run P w=.ok (.bool (!g)) w:=by
  intro g h1 h2 I;obtain rfl:=hy _ h1;subst h1 h2;obtain⟨ms,hi⟩:∃ms,P.underlying t=some (.interface ms):=by
   unfold zo0 at I
   split at I
   . exact⟨_,by assumption⟩
   cases I
  simp only[rep]at G
  cases g with
  |true=>
   obtain rfl:=G.1 rfl;have h:∀d:Nat,(Op.equalIn (d+1) t .nilIface .nilIface).run P w=.ok true w:=fun d=>by simp[Op.equalIn,run_underlying hi]
   exact⟨by simp[eqGuard],by simp[eqGuard],by simp only[binOp];simp[Op.equal,Op.maxDepth,h 9999],by simp only[binOp];simp[Op.equal,Op.maxDepth,h 9999]⟩
  |false=>
   obtain⟨tp,p,rfl⟩:=G.2 rfl;have h:∀d:Nat,(Op.equalIn (d+1) t (.iface tp p) .nilIface).run P w=.ok false w:=fun d=>by simp[Op.equalIn,run_underlying hi]
   exact⟨by simp[eqGuard],by simp[eqGuard],by simp only[binOp];simp[Op.equal,Op.maxDepth,h 9999],by simp only[binOp];simp[Op.equal,Op.maxDepth,h 9999]⟩
 have kp:∀(x:Option Addr),z4y P t=true->∀d:Nat,(Op.equalIn (d+1) t (.pointer x) (.pointer none)).run P w=.ok (x==none) w:=fun x I d=>by
  unfold z4y at I
  split at I
  . rename_i he;cases x<;>simp[Op.equalIn,run_underlying he]
  cases I
 unfold j04 at h
 split at h
 .
  rename_i g
  simp only[Xa,Xf]at h;obtain⟨rfl,rfl⟩:=h;obtain⟨k1,k2,k3,k4⟩:=key g rfl rfl Z;exact⟨.bool g,by simp[k1,k3],by simp only[rep]⟩
 .
  rename_i g
  simp only[Xa,Xf]at h;obtain⟨rfl,rfl⟩:=h;obtain⟨k1,k2,k3,k4⟩:=key g rfl rfl Z;exact⟨.bool (!g),by simp[k2,k4],by simp only[rep]⟩
 . simp only[Xa,Xf]at h;obtain⟨rfl,rfl⟩:=h;obtain rfl:=hy _ rfl;simp only[rep]at G;obtain⟨_,b,c',_,rfl⟩:=G;have T:=fun x=>kp x Z 9999;exact⟨.bool false,by simp only[binOp];simp[eqGuard,Op.equal,Op.maxDepth,T],by simp only[rep]⟩
 . simp only[Xa,Xf]at h;obtain⟨rfl,rfl⟩:=h;obtain rfl:=hy _ rfl;simp only[rep]at G;obtain⟨_,b,c',_,rfl⟩:=G;have T:=fun x=>kp x Z 9999;exact⟨.bool true,by simp only[binOp];simp[eqGuard,Op.equal,Op.maxDepth,T],by simp only[rep]⟩
 . simp only[Xa,Xf]at h;obtain⟨rfl,rfl⟩:=h;obtain rfl:=hy _ rfl;simp only[rep]at G;subst G;have T:=fun x=>kp x Z 9999;exact⟨.bool true,by simp only[binOp];simp[eqGuard,Op.equal,Op.maxDepth,T],by simp only[rep]⟩
 . simp only[Xa,Xf]at h;obtain⟨rfl,rfl⟩:=h;obtain rfl:=hy _ rfl;simp only[rep]at G;subst G;have T:=fun x=>kp x Z 9999;exact⟨.bool false,by simp only[binOp];simp[eqGuard,Op.equal,Op.maxDepth,T],by simp only[rep]⟩
 cases h
def qt2(P:Program)(hp:Hp)(ev:Operand->AV):Op->Option (Prop×AV)
 |.build t parts=>zc2 P ev t parts.toList
 |.binOp op t x y ty=>match fop P hp ev (.binOp op t x y ty)with
  |some r=>some r
  |none=>match j04 P op t (ev x) y with
   |some r=>some r
   |none=>n1 (ev x) (n1 (ev y) (eqR P op t (ev x).st (ev y).st))
 |op=>fop P hp ev op
theorem z95{A:Nat->Prop}{hp:Hp}{ev:Operand->AV}{ρ:Operand->Value}(W:aV w β nx A hp)(G:∀x,rep w β nx (own β hp A) (ev x) (ρ x)){o:Oper}{c:Prop}{r:AV}(Z:∀y z,y=.const z->ρ y=z)(h:qt2 P hp ev o.op=some (c,r))(I:c):
 ∃z,(execOp ρ o).run P w=.ok (.value z) w/\rep w β nx (own β hp A) r z:=by
 unfold qt2 at h
 split at h
 .
  rename_i t parts heq
  obtain⟨z,T,hr⟩:=j2s G h I;refine⟨z,?_,hr⟩;unfold execOp;simp only[heq];simp[T]
 .
  rename_i op t x y ty heq
  split at h
  .
   rename_i r' h'
   simp only[Xa]at h;subst h;exact zx5 W G (by rw[heq];exact h') I
  split at h
  .
   rename_i r' h'
   simp only[Xa]at h;subst h;obtain⟨z,T,hr⟩:=j3n (P:=P) h' I (G x) (Z _);refine⟨z,?_,hr⟩;unfold execOp;simp only[heq];simp only[Sem.run_bind,Sem.run_pure]at T⊢;rw[T];rfl
  obtain⟨c',h1,rfl⟩:=q4g h;obtain⟨a6,h2,rfl⟩:=q4g h1;obtain⟨z,T,hr⟩:=j9m (P:=P) h2 I.2.2 (q1j (G _) I.1) (q1j (G _) I.2.1);refine⟨z,?_,hr⟩;unfold execOp;simp only[heq];simp only[Sem.run_bind,Sem.run_pure]at T⊢;rw[T];rfl
 exact zx5 W G h I
end
end
section
open Go Go.RowKit
def qg1(P:Program)(s:St)(f:FuncId)(args:List AV)(K:St->AV->Prop):Prop:=
 ∀(C:Ctx P) (a:Act) (w:World) (β:aI) (vs:List Value),Rel C s a w β->y9 w β s.nx (own β s.hp C.A) args vs->
  bx P f ⟨vs⟩ w fun e w'=>∃v r s' β',e=.returned v/\Rel C s' a w' β'/\rep w' β' s'.nx (own β' s'.hp C.A) r v/\K s' r
def jm2(dst:Option Nat)(K:St->Prop):St->AV->Prop:=fun s r=>K (s.put dst r)
theorem ji2(dst:Option Nat)(K:St->Prop)(s:St)(r:AV):jm2 dst K s r=K (s.put dst r):=rfl
def opW(P:Program)(o:Oper)(s:St)(K:St->Prop):Prop:=dok s.nt o.dst=true->∀(C:Ctx P) (a:Act) (w:World) (β:aI),Rel C s a w β->∀Q:Exit->Act->World->Prop,o.wp P a w (RK C K) Q
def opS(P:Program)(o:Oper)(s:St)(K:St->Prop):Prop:=
 ∃(H:Hp) (N:Nat) (R:AV),K (({s with hp:=H,nx:=N}:St).put o.dst R)/\∀G:List (Nat×AV),(∀x∈o.op.operands,x8 G x=x8 s.env x)->∀K':St->Prop,K' (({s with env:=G,hp:=H,nx:=N}:St).put o.dst R)->opW P o {s with env:=G} K'
def vcX(P:Program)(o:Oper)(s:St)(K:St->Prop):Prop:=
 match o.op with
 |.alloc e=>match q1w P e with
  |some (.pointer none:: .slice none 0 0::zs)=>K (({s with hp:=(s.nx,.con (z7n e) (.v (.pointer none):: .v (.slice none 0 0)::zs.map AV.v))::s.hp,nx:=s.nx+1}:St).put o.dst (.ptr s.nx 0))
  |some zs=>K (({s with hp:=(s.nx,.box (zs.map AV.v))::s.hp,nx:=s.nx+1}:St).put o.dst (.ptr s.nx 0))
  |none=>False
 |.box e x=>match qi6 (x8 s.env x).st with
  |some (.v (.pointer none):: .v (.slice none 0 0)::r)=>(x8 s.env x).aU/\K (({s with hp:=(s.nx,.con (z7n e) (.v (.pointer none):: .v (.slice none 0 0)::r))::s.hp,nx:=s.nx+1}:St).put o.dst (.ptr s.nx 0))
  |some cs=>(x8 s.env x).aU/\K (({s with hp:=(s.nx,.box cs)::s.hp,nx:=s.nx+1}:St).put o.dst (.ptr s.nx 0))
  |none=>False
 |.store t x y=>match (x8 s.env x).st,qi6 (x8 s.env y).st with
  |.ptr id off,some ys=>match q0i s.hp id with
   |some (.box cs)=>((x8 s.env x).aU/\(x8 s.env y).aU/\q19 P t=true/\ys.length=szT P t/\off+ys.length<=cs.length/\ys.all qg3=true)/\
    K (({s with hp:=q0u s.hp id (.box (q81 cs off ys))}:St).put o.dst (.v undef))
   |some (.con k cs)=>match k.k with
    |some n=>(n<=off/\(x8 s.env x).aU/\(x8 s.env y).aU/\q19 P t=true/\ys.length=szT P t/\off-n+ys.length<=cs.length/\ys.all qg3=true)/\
     K (({s with hp:=q0u s.hp id (.con k (q81 cs (off-n) ys))}:St).put o.dst (.v undef))
    |none=>False
   |_=>False
  |.apt id sz i off,some ys=>match q0i (q74 (q9w ys) s.hp) id with
   |some (.arr G xs)=>((x8 s.env x).aU/\(x8 s.env y).aU/\G=sz/\z10 s.hp ys/\q19 P t=true/\ys.length=szT P t/\(i<xs.length/\off+ys.length<=sz)/\ys.all qg3=true/\(ys.map (frz s.hp)).all qf9=true)/\
    K (({s with hp:=q0u (q74 (q9w ys) s.hp) id (.arr sz (xs.set i (q81 (q3l xs i) off (q1v (qh6 P t) (ys.map (frz s.hp))))))}:St).put o.dst (.v undef))
   |some (.con k cs)=>match k.k with
    |some n=>(n=i*sz/\q0i s.hp id=some (.con k cs)/\(x8 s.env x).aU/\(x8 s.env y).aU/\q19 P t=true/\ys.length=szT P t/\off+ys.length<=cs.length/\ys.all qg3=true)/\
     K (({s with hp:=q0u s.hp id (.con k (q81 cs off ys))}:St).put o.dst (.v undef))
    |none=>False
   |_=>False
  |_,_=>False
 |.buildSlice t n parts=>match aO P t,z0s (parts.toList.map fun p=>(x8 s.env p.2).st)with
  |some e,some ([.ptr i0 W]::I)=>match q1w P e with
   |some _=>(q19 P e=true/\szT P e=1/\n<=16777216/\qg9 parts.toList 0=true/\parts.toList.length=n/\bm (parts.toList.map fun p=>x8 s.env p.2)/\qv8 (szT P e) ([.ptr i0 W]::I)=true)/\
    K (({s with hp:=(s.nx,.box (.ptr i0 W::I.flatten))::s.hp,nx:=s.nx+1}:St).put o.dst (.bsl s.nx 0 n))
   |none=>False
  |some e,some I=>match q1w P e with
   |some zs=>(q19 P e=true/\zs.length=szT P e/\0<szT P e/\n*szT P e<=16777216/\qg9 parts.toList 0=true/\parts.toList.length=n/\bm (parts.toList.map fun p=>x8 s.env p.2)/\qv8 (szT P e) I=true/\
    I.flatten.all qg3=true/\z10 s.hp I.flatten/\(I.flatten.map (frz s.hp)).all qf9=true)/\
    K (({s with hp:=(s.nx,.arr (szT P e) ((I.map (·.map (frz s.hp))).map (q1v (z2l s.hp P e))))::q74 (q9w I.flatten) s.hp,nx:=s.nx+1}:St).put o.dst (.osl s.nx (szT P e) 0 n))
   |none=>False
  |_,_=>False
 |.makeSlice t l c=>match (x8 s.env l).st,(x8 s.env c).st,aO P t with
  |.v (.int _ n),.v (.int _ m),some e=>match q1w P e with
   |some zs=>((x8 s.env l).aU/\(x8 s.env c).aU/\m=n/\q19 P e=true/\zs.length=szT P e/\0<szT P e/\0<q2h P e/\0<=n/\n*q2h P e<=140737488355328/\zs.all (·.oneCell')=true)/\
    K (({s with hp:=(s.nx,.arr (szT P e) (Xb n.toNat (q1v (z2l s.hp P e) (zs.map AV.v))))::s.hp,nx:=s.nx+1}:St).put o.dst (.osl s.nx (szT P e) 0 n.toNat))
   |none=>False
  |_,_,_=>False
 |.convert src dst x=>match (x8 s.env x).st,aO P src with
  |.osl id sz off len,some e=>match q0i s.hp id with
   |some (.arr G xs)=>((x8 s.env x).aU/\dst=src/\qz0 P e=some .u8/\sz=1/\G=1/\off=0/\len=xs.length/\xs≠[])/\K (({s with hp:=q4l s.hp id}:St).put o.dst (.sl 1 xs))
   |_=>False
  |_,_=>False
 |.slice t x (some lo) (some hi) (some Z)=>match z7t P t (x8 s.env lo).st (x8 s.env hi).st (x8 s.env Z).st (x8 s.env x).st with
  |some (c,r)=>((x8 s.env x).aU/\(x8 s.env lo).aU/\(x8 s.env hi).aU/\(x8 s.env Z).aU/\c)/\K (s.put o.dst r)
  |none=>False
 |.binOp .eql t x y _=>match (x8 s.env x).st,(x8 s.env y).st with
  |.sl _ xs,.v (.slice none 0 0)=>((x8 s.env x).aU/\(x8 s.env y).aU/\(aO P t).isSome=true)/\∀b:Bool,(xs≠[]->b=false)->K (s.put o.dst (.v (.bool b)))
  |.osl _ _ _ len,.v (.slice none 0 0)=>((x8 s.env x).aU/\(x8 s.env y).aU/\(aO P t).isSome=true/\0<len)/\K (s.put o.dst (.v (.bool false)))
  |.v (.slice none 0 0),.v (.slice none 0 0)=>((x8 s.env x).aU/\(x8 s.env y).aU/\(aO P t).isSome=true)/\K (s.put o.dst (.v (.bool true)))
  |_,_=>False
 |.binOp .neq t x y _=>match (x8 s.env x).st,(x8 s.env y).st with
  |.osl _ _ _ len,.v (.slice none 0 0)=>((x8 s.env x).aU/\(x8 s.env y).aU/\(aO P t).isSome=true/\0<len)/\K (s.put o.dst (.v (.bool true)))
  |.v (.slice none 0 0),.v (.slice none 0 0)=>((x8 s.env x).aU/\(x8 s.env y).aU/\(aO P t).isSome=true)/\K (s.put o.dst (.v (.bool false)))
  |_,_=>False
 |.mapUpdate _ _ _ _=>opS P o s K
 |.makeMap _ _=>opS P o s K
 |.call c=>match c.callee,c.args.toList,c.argTypes.toList with
  |.builtin .append,[x,y],[t,t']=>match aO P t,j0a s.hp (x8 s.env x).st,z2i s.hp (x8 s.env y).st with
   |some e,some (szx,xs,ids,cb),some (szy,ys,cs)=>match q1w P e with
    |some zs=>(t'=t/\(x8 s.env x).aU/\(x8 s.env y).aU/\cb/\cs/\q19 P e=true/\zs.length=szT P e/\(ids=[]\/szx=szT P e)/\(ys=[]\/szy=szT P e)/\0<q2h P e/\
     (xs.length+ys.length)*q2h P e<=140737488355328)/\
     K (({s with hp:=(s.nx,.arr (szT P e) (xs++ys))::q74 ids s.hp,nx:=s.nx+1}:St).put o.dst (.osl s.nx (szT P e) 0 (xs.length+ys.length)))
    |none=>False
   |some _,none,some _=>opS P o s K
   |_,_,_=>False
  |.builtin .clear,[x],[t]=>match (x8 s.env x).st,aO P t with
   |.osl id sz off len,some e=>match q0i s.hp id,q1w P e with
    |some (.arr G xs),some zs=>((x8 s.env x).aU/\G=sz/\off+len<=xs.length/\q19 P e=true/\szT P e=sz/\zs.length=sz/\0<sz/\zs.all (·.oneCell')=true)/\
     K (({s with hp:=q0u s.hp id (.arr sz (xs.take off++Xb len (q1v (qh6 P e) (zs.map AV.v))++xs.drop (off+len)))}:St).put o.dst (.tup []))
    |_,_=>False
   |_,_=>False
  |.builtin .copy,[x,y],[t,_]=>match (x8 s.env x).st,aO P t,z2i s.hp (x8 s.env y).st with
   |.osl id sz off len,some e,some (szy,ys,cs)=>match q0i s.hp id with
    |some (.arr G xs)=>((x8 s.env x).aU/\(x8 s.env y).aU/\G=sz/\off+len<=xs.length/\cs/\q19 P e=true/\szT P e=sz/\(ys=[]\/szy=sz))/\
     K (({s with hp:=q0u s.hp id (.arr sz (xs.take off++ys.take len++xs.drop (off+(ys.take len).length)))}:St).put o.dst (.v (.int .i64 ((min ys.length len:Nat):Int))))
    |_=>False
   |.bsl id off len,some e,some (szy,ys,cs)=>match q0i s.hp id with
    |some (.box xs)=>((x8 s.env x).aU/\(x8 s.env y).aU/\off+len<=xs.length/\cs/\q19 P e=true/\szT P e=1/\(ys=[]\/szy=1))/\
     K (({s with hp:=q0u s.hp id (.box (q81 xs off (ys.take len).flatten))}:St).put o.dst (.v (.int .i64 ((min ys.length len:Nat):Int))))
    |_=>False
   |_,_,_=>False
  |.builtin .delete,_,_=>opS P o s K
  |.value fo,args,_=>match (x8 s.env fo).st with
   |.clo f T=>(True/\(x8 s.env fo).aU/\bm (args.map (x8 s.env)))/\qg1 P s f ((args.map fun x=>(x8 s.env x).st)++T) (jm2 o.dst K)
   |_=>False
  |_,_,_=>False
 |_=>False
section
variable {P:Program} {C:Ctx P} {s:St} {a:Act} {w:World} {β:aI}
theorem zv7{f:FuncId}{args:Array Value}(h:q02 P f=true):(callFunc f args).run P w=.ok (.enter f args) w:=by
 unfold q02 at h
 split at h
 .
  rename_i fn I
  simp only[Xd,Bool.not_eq_true',Xx]at h;obtain⟨G,b,T⟩:=h;unfold callFunc;simp[I,T]at G⊢;simp[G]
 cases h
theorem j41(h:Rel C s a w β){o:Oper}{W:Call}{fo:Operand}{f:FuncId}{Z:List AV}{K:St->Prop}{Q:Exit->Act->World->Prop}(ho:o.op=.call W)(aj:W.callee=.value fo)(hf:(x8 s.env fo).st=.clo f Z)
 (ak:(x8 s.env fo).aU)(hn:bm (W.args.toList.map (x8 s.env)))(hd:dok s.nt o.dst=true)
 (hK:qg1 P s f ((W.args.toList.map fun x=>(x8 s.env x).st)++Z) (fun s' r=>K (s'.put o.dst r))):o.wp P a w (RK C K) Q:=by
 have h1:=q2c h ak;rw[hf]at h1;simp only[rep]at h1;obtain⟨l,h1,h2⟩:=h1;have h3:=z8u (fun x=>h.ev x) W.args.toList hn;have G:W.args.map a.eval=⟨W.args.toList.map a.eval⟩:=Xo (by simp);have e0:(⟨W.args.toList.map a.eval⟩:Array Value)++(⟨l⟩:Array Value)=⟨W.args.toList.map a.eval++l⟩:=Xo (by simp);have I:=hK C a w β _ h (q6m h3 h2)
 cases hB:q02 P f with
 |true=>
  have T:(execOp a.eval o).run P w=.ok (.enter f ⟨W.args.toList.map a.eval++l⟩) w:=by
   unfold execOp;simp only[ho];simp only[resolve,aj,h1,G,Deferred.ofValue,Sem.run_bind,Sem.run_pure,Result.andThen_ok,invoke,Yb,e0,zv7 hB]
  unfold Oper.wp;rw[T];simp only[Oper.upon];refine (I.1 hB).mono ?_;rintro e w' ⟨v,r,s',β',rfl,hR,hv,k⟩;have a6:s'.nt=s.nt:=hR.nt.symm.trans h.nt;exact⟨_,β',hR.put hv (by rw[a6];exact hd),k⟩
 |false=>
  obtain⟨v0,w',an,v,r,s',β',ao,hR,hv,k⟩:=I.2 hB
  cases ao
  have T:(execOp a.eval o).run P w=.ok (.value v0) w':=by
   unfold execOp;simp only[ho];simp only[resolve,aj,h1,G,Deferred.ofValue,Sem.run_bind,Sem.run_pure,Result.andThen_ok,invoke,Yb,e0,an]
  unfold Oper.wp;rw[T];simp only[Oper.upon];have a6:s'.nt=s.nt:=hR.nt.symm.trans h.nt;exact⟨_,β',hR.put hv (by rw[a6];exact hd),k⟩
theorem zu4(h:Rel C s a w β){o:Oper}{K:St->Prop}{Q:Exit->Act->World->Prop}(hd:dok s.nt o.dst=true)(G:vcX P o s K):o.wp P a w (RK C K) Q:=by
 unfold vcX at G
 split at G
 .
  rename_i e Z
  split at G
  . rename_i hz;exact j7t h Z hz hd G
  . rename_i zs _ hz;exact jb8 h Z hz hd G
  exact G.elim
 .
  rename_i e x Z
  split at G
  . rename_i r hc;exact jn3 h Z G.1 hc hd G.2
  . rename_i cs _ hc;exact jv7 h Z G.1 hc hd G.2
  exact G.elim
 .
  rename_i t x y Z
  split at G
  .
   rename_i id off ys hx hy
   split at G
   .
    rename_i cs hg
    obtain⟨⟨T,W,c3,c4,c5,c6⟩,I⟩:=G;exact jb4 h Z T W hx hg hy c3 c4 c5 c6 hd I
   .
    rename_i k cs hg
    split at G
    .
     rename_i n hn
     obtain⟨⟨c0,T,W,c3,c4,c5,c6⟩,I⟩:=G;exact j7p h Z T W hx hn c0 hg hy c3 c4 c5 c6 hd I
    exact G.elim
   exact G.elim
  .
   rename_i id sz i off ys hx hy
   split at G
   .
    rename_i a6 xs hg
    obtain⟨⟨T,W,rfl,c4,c5,c6,c7,c8,c9⟩,I⟩:=G;exact j7q h Z T W hx hy c4 hg c5 c6 c7 c8 c9 hd I
   .
    rename_i k cs hg
    split at G
    .
     rename_i n hn
     obtain⟨⟨c0,an,T,W,c3,c4,c5,c6⟩,I⟩:=G;exact j7o h Z T W hx hn c0 an hy c3 c4 c5 c6 hd I
    exact G.elim
   exact G.elim
  exact G.elim
 .
  rename_i t n parts Z
  split at G
  .
   rename_i e i0 o0 rs he hr
   split at G
   .
    rename_i zs hz
    obtain⟨⟨T,W,c3,c4,c5,c6,c7⟩,I⟩:=G;exact zq7 h Z he T hz W c3 c4 c5 c6 hr c7 hd I
   exact G.elim
  .
   rename_i e rs _ he hr
   split at G
   .
    rename_i zs hz
    obtain⟨⟨T,W,c3,c4,c5,c6,c7,c8,c9,aj,ak⟩,I⟩:=G;exact zy7 h Z he T hz W c3 c4 c5 c6 c7 hr c8 c9 aj ak hd I
   exact G.elim
  exact G.elim
 .
  rename_i t l c Z
  split at G
  .
   rename_i k n k' m e hl hc he
   split at G
   .
    rename_i zs hz
    obtain⟨⟨T,W,rfl,c3,c4,c5,c6,c7,c8,c9⟩,I⟩:=G;exact j0g h Z hl hc T W he c3 hz c4 c5 c6 c7 c8 c9 hd I
   exact G.elim
  exact G.elim
 .
  rename_i src dst x Z
  split at G
  .
   rename_i id sz off len e hx he
   split at G
   .
    rename_i a6 xs hg
    obtain⟨⟨T,rfl,c3,rfl,rfl,rfl,rfl,c4⟩,I⟩:=G;exact jb5 h Z hx T hg he c3 c4 hd I
   exact G.elim
  exact G.elim
 .
  rename_i t x lo hi mx Z
  split at G
  .
   rename_i c r hr
   obtain⟨⟨T,W,c3,c4,c5⟩,I⟩:=G;exact j7r h Z hr c5 T W c3 c4 hd I
  exact G.elim
 .
  rename_i t x y t' Z
  split at G
  .
   rename_i sz xs hx hy
   obtain⟨⟨T,W,c3⟩,I⟩:=G;exact j7s h Z hx hy T W c3 hd I
  .
   rename_i id sz off len hx hy
   obtain⟨⟨T,W,c3,c4⟩,I⟩:=G;exact j3z (eq:=true) h Z hx hy T W c3 c4 hd I
  .
   rename_i hx hy
   obtain⟨⟨T,W,c3⟩,I⟩:=G;exact j40 (eq:=true) h Z hx hy T W c3 hd I
  exact G.elim
 .
  rename_i t x y t' Z
  split at G
  .
   rename_i id sz off len hx hy
   obtain⟨⟨T,W,c3,c4⟩,I⟩:=G;exact j3z (eq:=false) h Z hx hy T W c3 c4 hd I
  .
   rename_i hx hy
   obtain⟨⟨T,W,c3⟩,I⟩:=G;exact j40 (eq:=false) h Z hx hy T W c3 hd I
  exact G.elim
 . obtain⟨H,N,R,I,hw⟩:=G;exact hw s.env (fun _ _=>rfl) K I hd _ a w β h Q
 . obtain⟨H,N,R,I,hw⟩:=G;exact hw s.env (fun _ _=>rfl) K I hd _ a w β h Q
 .
  rename_i cl Z
  split at G
  .
   rename_i x y t t' e1 e2 e3
   split at G
   .
    rename_i e szx xs ids cb szy ys cs he hb hs
    split at G
    .
     rename_i zs hz
     obtain⟨⟨rfl,W,c3,c4,c5,c6,c7,c8,c9,aj,ak⟩,I⟩:=G;exact zu3 h Z e1 e2 e3 W c3 hb c4 hs c5 he c6 hz c7 c8 c9 aj ak hd I
    exact G.elim
   . obtain⟨H,N,R,I,hw⟩:=G;exact hw s.env (fun _ _=>rfl) K I hd _ a w β h Q
   exact G.elim
  .
   rename_i x t e1 e2 e3
   split at G
   .
    rename_i id sz off len e hx he
    split at G
    .
     rename_i a6 xs zs hg hz
     obtain⟨⟨T,rfl,c3,c4,c5,c6,c7,c8⟩,I⟩:=G;exact jb7 h Z e1 e2 e3 T hx hg c3 he c4 c5 hz c6 c7 c8 hd I
    exact G.elim
   exact G.elim
  .
   rename_i x y t t' e1 e2 e3
   split at G
   .
    rename_i id sz off len e szy ys cs hx he hs
    split at G
    .
     rename_i a6 xs hg
     obtain⟨⟨T,W,rfl,c4,c5,c6,c7,c8⟩,I⟩:=G;exact jn2 h Z e1 e2 e3 T W hx hg c4 hs c5 he c6 c7 c8 hd I
    exact G.elim
   .
    rename_i id off len e szy ys cs hx he hs
    split at G
    .
     rename_i xs hg
     obtain⟨⟨T,W,c4,c5,c6,c7,c8⟩,I⟩:=G;exact jb6 h Z e1 e2 e3 T W hx hg c4 hs c5 he c6 c7 c8 hd I
    exact G.elim
   exact G.elim
  . obtain⟨H,N,R,I,hw⟩:=G;exact hw s.env (fun _ _=>rfl) K I hd _ a w β h Q
  .
   split at G
   .
    rename_i f ao hf
    obtain⟨⟨T,W,c3⟩,I⟩:=G;exact j41 h Z (by assumption) hf W c3 hd I
   exact G.elim
  exact G.elim
 exact G.elim
end
end
section
open Go Go.RowKit
def z2w:AV->Bool->Option Bool
 |.v (.bool b),G=>some (b==G)
 |.grd h (.v (.bool b)),G=>some (h&&(b==G))
 |.v (.tuple _),_=>some false
 |.grd _ (.v (.tuple _)),_=>some false
 |.grd false .bk,_=>some false
 |_,_=>none
def mkG(g:Bool):AV->AV
 |.grd h a=> .grd (g&&h) a
 |a=> .grd g a
def q1y(ops:Array Oper)(j:Nat):Option Nat:=(ops[j]?).bind (·.dst)
def vcO(P:Program)(o:Oper)(s:St)(K:St->Prop):Prop:=
 match qt2 P s.hp (x8 s.env) o.op with
 |some (c,r)=>c/\K (s.put o.dst r)
 |none=>vcX P o s K
def zk9:Op->Bool
 |.indexAddr .. |.index .. |.slice .. |.makeSlice .. |.binOp .quo .. |.binOp .rem .. =>true
 |.call c=>match c.callee with|.builtin .len=>false|.builtin .min=>false|.builtin .max=>false|_=>true
 |_=>false
def z4s(P:Program)(o:Oper)(K:St->Prop)(s:St)(g:Bool):Prop:=(g=true->vcO P o s K)/\(g=false->K (s.put o.dst (.v undef)))
theorem jd2(P:Program)(o:Oper)(K:St->Prop)(s:St):z4s P o K s true=vcO P o s K:=by simp[z4s]
theorem jd3(P:Program)(o:Oper)(K:St->Prop)(s:St):z4s P o K s false=K (s.put o.dst (.v undef)):=by simp[z4s]
def vcG(P:Program)(ops:Array Oper)(o:Oper)(s:St)(K:St->Prop):Prop:=
 match o.guard with
 |none=>vcO P o s K
 |some (j,G)=>match q1y ops j with
  |some d=>match z2w (q0x s.env d) G with
   |some g=>if zk9 o.op=true then z4s P o K s g else match qt2 P s.hp (x8 s.env) o.op with
    |some (c,r)=>(g=true->c)/\K (s.put o.dst (mkG g r))
    |none=>z4s P o K s g
   |none=>False
  |none=>False
def qk3(P:Program)(ops:Array Oper):List Oper->St->(St->Prop)->Prop
 |[],s,K=>K s
 |o::r,s,K=>vcG P ops o s fun s'=>qk3 P ops r s' K
section
variable {P:Program} {C:Ctx P} {s:St} {a:Act} {w:World} {β:aI}
theorem qt0{ops:Array Oper}{o:Oper}{j d:Nat}{I g:Bool}(hg:o.guard=some (j,I))(hd:q1y ops j=some d){nx:Nat}{ow:Nat->Prop}{x:AV}(hb:z2w x I=some g)
 {tmps:Array Value}(T:rep w β nx ow x (tmps.getD d undef)):Region.wanted o (yielded ops tmps)=g:=by
 have hy:∀b,tmps.getD d undef=.bool b->yielded ops tmps j=some b:=fun b hb=>by
  unfold yielded;unfold q1y at hd;rw[hd];simp only[Zh];rw[X6]at hb
  cases W:tmps[d]? with
  |none=>rw[W]at hb;cases hb
  |some v=>rw[W]at hb;simp only[Option.getD_some]at hb;subst hb;rfl
 have Z:(∀b,tmps.getD d undef≠ .bool b)->yielded ops tmps j=none:=fun hb=>by
  unfold yielded;unfold q1y at hd;rw[hd];simp only[Zh];rw[X6]at hb
  cases W:tmps[d]? with
  |none=>rfl
  |some v=>
   rw[W]at hb
   cases v<;>first|rfl|exact absurd rfl (hb _)
 unfold Region.wanted;rw[hg];simp only;unfold z2w at hb
 split at hb
 .
  rename_i b
  simp only[Xa]at hb;simp only[rep]at T;rw[hy b T,<-hb]
  cases b<;>cases I<;>rfl
 .
  rename_i h b
  simp only[Xa]at hb;simp only[rep]at T
  cases h with
  |true=>
   rw[hy b (T.1 rfl),<-hb]
   cases b<;>cases I<;>rfl
  |false=>
   rw[Z (fun b G=>by rw[T.2 rfl]at G;cases G),<-hb];simp
 . simp only[Xa]at hb;simp only[rep]at T;rw[Z (fun b G=>by rw[T]at G;cases G),<-hb];simp
 .
  rename_i h l
  simp only[Xa]at hb;simp only[rep]at T;have a6:∀b,tmps.getD d undef≠ .bool b:=fun b G=>by
   cases h with
   |true=>rw[T.1 rfl]at G;cases G
   |false=>rw[T.2 rfl]at G;cases G
  rw[Z a6,<-hb];simp
 . simp only[Xa]at hb;simp only[rep]at T;rw[Z (fun b G=>by rw[T.2 trivial]at G;cases G),<-hb];simp
 cases hb
theorem z4v{nx:Nat}{ow:Nat->Prop}{r:AV}{u:Value}(h:rep w β nx ow r u):rep w β nx ow (mkG true r) u:=by
 cases r<;>simp only[mkG]<;>simp only[rep]at h⊢<;>first
  |exact⟨fun _=>h,fun G=>by cases G⟩
  |simpa using h
theorem z3c{nx:Nat}{ow:Nat->Prop}{r:AV}:rep w β nx ow (mkG false r) undef:=by
 cases r<;>simp[mkG,rep]
theorem zu5(h:Rel C s a w β){o:Oper}{K:St->Prop}{Q:Exit->Act->World->Prop}(hd:dok s.nt o.dst=true)(G:vcO P o s K):o.wp P a w (RK C K) Q:=by
 unfold vcO at G
 split at G
 .
  rename_i c r I
  obtain⟨z,T,W⟩:=z95 h.hp (fun x=>h.ev x) (fun _ _ e=>by subst e;rfl) I G.1;unfold Oper.wp;rw[T];exact⟨_,_,h.put W hd,G.2⟩
 exact zu4 h hd G
theorem zu6(h:Rel C s a w β){ops:Array Oper}{o:Oper}{K:St->Prop}{Q:Exit->Act->World->Prop}(hd:dok s.nt o.dst=true)(G:vcG P ops o s K):
 if Region.wanted o (yielded ops a.tmps)then o.wp P a w (RK C K) Q else RK C K (a.put o.dst undef) w:=by
 unfold vcG at G
 split at G
 .
  rename_i T
  rw[if_pos (by simp[Region.wanted,T])];exact zu5 h hd G
 rename_i j a6 T
 split at G
 .
  rename_i d W
  split at G
  .
   rename_i g Z
   have hw:=qt0 T W Z (h.env d);rw[hw];have I:z4s P o K s g->if g=true then o.wp P a w (RK C K) Q else RK C K (a.put o.dst undef) w:=fun G=>by
    cases g with
    |true=>rw[if_pos rfl];exact zu5 h hd (G.1 rfl)
    |false=>
     rw[if_neg (by simp)];exact⟨_,_,h.put (by simp only[rep]) hd,G.2 rfl⟩
   split at G
   . exact I G
   split at G
   .
    rename_i c r hf
    cases g with
    |true=>
     rw[if_pos rfl];obtain⟨z,hz,hr⟩:=z95 h.hp (fun x=>h.ev x) (fun _ _ e=>by subst e;rfl) hf (G.1 rfl);unfold Oper.wp;rw[hz];exact⟨_,_,h.put (z4v hr) hd,G.2⟩
    |false=>
     rw[if_neg (by simp)];exact⟨_,_,h.put z3c hd,G.2⟩
   exact I G
  exact G.elim
 exact G.elim
def z2j(n:Nat)(ops:List Oper):Bool:=ops.all fun o=>dok n o.dst
theorem zf6{ops:Array Oper}{Q:Exit->Act->World->Prop}{K:St->Prop}(hQ:∀a w,RK C K a w->Q .normal a w):∀(l:List Oper) (s:St) (a:Act) (w:World) (β:aI),Rel C s a w β->z2j s.nt l=true->qk3 P ops l s K->wpList P ops Q l a w
 |[],s,a,w,β,h,_,hv=>hQ a w ⟨s,β,h,hv⟩
 |o::r,s,a,w,β,h,W,hv=>by
  simp only[z2j,List.all_cons,Xd]at W;have T:=zu6 (Q:=Q) h W.1 hv;unfold wpList;have G:∀Z w',Z.tmps.size=a.tmps.size->RK C (fun s'=>qk3 P ops r s' K) Z w'->wpList P ops Q r Z w':=by
   rintro Z w' a6 ⟨s',β',hR,hk⟩;refine zf6 hQ r s' Z w' β' hR ?_ hk;have:s'.nt=s.nt:=by rw[<-hR.nt,a6,h.nt]
   rw[this];exact W.2
  have I:∀v,(a.put o.dst v).tmps.size=a.tmps.size:=fun v=>by
   cases aj:o.dst<;>simp[Act.put]
  split
  .
   rename_i hw
   rw[if_pos hw]at T
   left
   unfold Oper.wp at T⊢
   generalize (execOp a.eval o).run P w=ak at T⊢
   cases ak with
   |ok n w'=>
    cases n<;>simp only[Oper.upon]at T⊢
    . exact G _ _ (I _) T
    . exact G _ _ (I _) T
    .
     exact T.mono fun e an he=>by
      cases e<;>first|exact G _ _ (I _) he|exact he
    .
     refine G _ _ ?_ T
     cases aj:o.dst<;>simp[Act.put]
    exact T.mono fun _ _ he=>G _ _ (I _) he
   |halt x w'=>cases x<;>simp only[Oper.upon]at T⊢<;>exact T
  rename_i hw
  rw[if_neg hw]at T;exact G _ _ (I _) T
end
end
section
open Go Go.RowKit
def z8e(ops:Array Oper):Bool:=
 Region.noSelect ops&&(Zj ops.size).all fun j=>match ops[j]? with
  |some G=>G.after.all (fun e=>!Region.binds .any e||decide (e.on<j))&&(Zj j).all fun i=>match ops[i]? with
   |some I=>G.after.any (fun e=>Region.binds .any e&&e.on==i)||I.apart ops G
   |none=>true
  |none=>true
def okB(n:Nat):Code->Bool
 |.region _ ops G=>z2j n ops.toList&&(!G||z8e ops)
 |.seq a b=>okB n a&&okB n b
 |.cond _ a b=>okB n a&&okB n b
 |.block _ c=>okB n c
 |.loop c=>okB n c
 |.scope c=>okB n c
 |_=>true
def wpV(P:Program)(c:Code)(Q:Exit->St->Prop)(s:St):Prop:=
 okB s.nt c=true->∀(C:Ctx P) (a:Act) (w:World) (β:aI),Rel C s a w β->∀G:Exit->Act->World->Prop,
  (∀e s' I w' β',Rel C s' I w' β'->Q e s'->G e I w')->c.wp P G a w
def z2n(P:Program)(ops:Array Oper)(s:St)(K:St->Prop):Prop:=
 ∀id,wpV P (.region id ops true) (fun e s'=>e=.normal/\K s') s
def q6t(N:St->Prop)(Q:Exit->St->Prop):Exit->St->Prop
 |.normal,s=>N s
 |.exit i,s=>Q (.exit i) s
 |.ret,s=>Q .ret s
 |_,_=>False
def qf7(id:Nat)(Q:Exit->St->Prop):Exit->St->Prop
 |.exit j,s=>if j=id then Q .normal s else Q (.exit j) s
 |.normal,s=>Q .normal s
 |.ret,s=>Q .ret s
 |_,_=>False
def ck:Code->Bool
 |.ret|.exit _|.goto _|.loop _=>false
 |.seq a b=>ck a&&ck b
 |.cond _ a b=>ck a||ck b
 |_=>true
def bC:Code->Bool
 |.seq a b=>bC a||bC b
 |.cond _ a b=>ck a&&ck b||bC a||bC b
 |.block _ c=>bC c
 |.loop _=>true
 |.scope c=>bC c
 |_=>false
def vc(P:Program):Code->(Exit->St->Prop)->St->Prop
 |.skip,Q,s=>Q .normal s
 |.label _,Q,s=>Q .normal s
 |.ret,Q,s=>Q .ret s
 |.exit i,Q,s=>Q (.exit i) s
 |.region _ ops G,Q,s=>if G=true then z2n P ops s (Q .normal)else qk3 P ops ops.toList s (Q .normal)
 |.seq a b,Q,s=>if bC a=true then wpV P (.seq a b) Q s else vc P a (q6t (vc P b Q) Q) s
 |.cond c x y,Q,s=>match x8 s.env c with
  |.v (.bool b)=>(b=true->vc P x Q s)/\(b=false->vc P y Q s)
  |_=>False
 |.block i c,Q,s=>vc P c (qf7 i Q) s
 |.loop c,Q,s=>wpV P (.loop c) Q s
 |_,_,_=>False
section
variable {P:Program} {C:Ctx P} {s:St} {a:Act} {w:World} {β:aI}
theorem q98:∀(c:Code) (Q:Exit->St->Prop) (s:St),vc P c Q s->wpV P c Q s
 |.skip,Q,s,h=>fun _ C a w β W Z T=>wp_skip (T _ _ _ _ _ W h)
 |.label _,Q,s,h=>fun _ C a w β W Z T=>wp_label (T _ _ _ _ _ W h)
 |.ret,Q,s,h=>fun _ C a w β W Z T=>wp_ret (T _ _ _ _ _ W h)
 |.exit i,Q,s,h=>fun _ C a w β W Z T=>wp_exit (T _ _ _ _ _ W h)
 |.region id ops aj,Q,s,h=>fun G C a w β W Z T=>by
  unfold vc at h;simp only[okB,Xd]at G
  cases aj with
  |true=>
   rw[if_pos rfl]at h;exact h id (by simp only[okB,Xd];exact G) C a w β W Z (fun e s' a' w' β' I hK=>by
    obtain⟨rfl,hK⟩:=hK;exact T _ _ _ _ _ I hK)
  |false=>
   rw[if_neg (by simp)]at h;exact wp_region_list (zf6 (K:=Q .normal) (fun a' w' ⟨s',β',I,hk⟩=>T _ _ _ _ _ I hk) ops.toList s a w β W G.1 h)
 |.seq x y,Q,s,h=>fun G C a w β W Z T=>by
  unfold vc at h
  split at h
  . exact h G C a w β W Z T
  simp only[okB,Xd]at G;refine wp_seq (q98 x _ s h G.1 C a w β W _ ?_);intro e s' a' w' β' I hq;have ak:s'.nt=s.nt:=I.ntc.trans W.ntc.symm
  cases e<;>simp only[q6t]at hq<;>simp only[Exit.then]
  . exact q98 y Q s' hq (by rw[ak];exact G.2) C a' w' β' I Z T
  . exact T _ _ _ _ _ I hq
  exact T _ _ _ _ _ I hq
 |.cond c x y,Q,s,h=>fun G C a w β W Z T=>by
  unfold vc at h;simp only[okB,Xd]at G
  split at h
  .
   rename_i b hb
   have:=W.ev c;rw[hb]at this;simp only[rep]at this;exact wp_cond_split this (fun a6=>q98 x Q s (h.1 a6) G.1 C a w β W Z T) (fun a6=>q98 y Q s (h.2 a6) G.2 C a w β W Z T)
  exact h.elim
 |.block i c,Q,s,h=>fun G C a w β W Z T=>by
  unfold vc at h;refine wp_block (q98 c _ s h G C a w β W _ ?_);intro e s' a' w' β' I hq
  cases e<;>simp only[qf7]at hq<;>simp only[Exit.inBlock]
  . exact T _ _ _ _ _ I hq
  .
   split at hq
   . rename_i hj;rw[if_pos hj];exact T _ _ _ _ _ I hq
   rename_i hj;rw[if_neg hj];exact T _ _ _ _ _ I hq
  exact T _ _ _ _ _ I hq
 |.loop c,Q,s,h=>h
 |.rangeFunc ..,_,_,h=>by unfold vc at h;exact h.elim
 |.scope _,_,_,h=>by unfold vc at h;exact h.elim
 |.goto _,_,_,h=>by unfold vc at h;exact h.elim
 |.refuse _,_,_,h=>by unfold vc at h;exact h.elim
end
end
section
open Go Go.RowKit
section
variable {P:Program} {C:Ctx P} {s:St} {a:Act} {w:World} {β:aI}
theorem jb2{c:Code}{Q:Exit->St->Prop}{s':St}{l:List (Option Nat)}(T:Le s s' l)(h:wpV P c Q s'):wpV P c Q s:=
 fun G C a w β W Z hQ=>by
  obtain⟨β',I,_⟩:=qv0 W T;exact h (by rw[T.1];exact G) C a w β' I Z hQ
theorem j0e{c:Code}{Q T:Exit->St->Prop}(h:wpV P c Q s)(W:∀e s,Q e s->T e s):wpV P c T s:=
 fun G C a w β Z Q' hQ=>h G C a w β Z Q' fun e s' a' w' β' I hk=>hQ e s' a' w' β' I (W _ _ hk)
def dE(P:Program)(y:Code)(Q:Exit->St->Prop)(s:St):Prop:=vc P y Q s
theorem jw9{x y:Code}{Q:Exit->St->Prop}(h:vc P x (q6t (dE P y Q) Q) s):wpV P (.seq x y) Q s:=fun I C a w β hR Q' W=>by
 simp only[okB,Xd]at I;refine wp_seq (q98 x _ s h I.1 C a w β hR _ ?_);intro e s' a' w' β' G T;have Z:s'.nt=s.nt:=G.ntc.trans hR.ntc.symm
 cases e<;>simp only[q6t]at T<;>simp only[Exit.then]
 . exact q98 y Q s' T (by rw[Z];exact I.2) C a' w' β' G Q' W
 . exact W _ _ _ _ _ G T
 exact W _ _ _ _ _ G T
theorem jp4{ι:Type}{x y:Code}{Q:Exit->St->Prop}(S:ι->St)(I:ι->Prop)(h:vc P x (q6t (fun s'=>∃i l,Le s' (S i) l/\I i) Q) s)(hk:∀i,I i->vc P y Q (S i)):wpV P (.seq x y) Q s:=fun T C a w β hR Q' Z=>by
 simp only[okB,Xd]at T;refine wp_seq (q98 x _ s h T.1 C a w β hR _ ?_);intro e s' a' w' β' G W;have a6:s'.nt=s.nt:=G.ntc.trans hR.ntc.symm
 cases e<;>simp only[q6t]at W<;>simp only[Exit.then]
 . obtain⟨i,l,hl,hI⟩:=W;obtain⟨aj,ak,_⟩:=qv0 G hl;exact q98 y Q (S i) (hk i hI) (by rw[hl.1,a6];exact T.2) C a' w' aj ak Q' Z
 . exact Z _ _ _ _ _ G W
 exact Z _ _ _ _ _ G W
theorem z9b{p:Nat->Prop}(h:∃n,p n):∃n,p n/\∀k,p k->n<=k:=by
 obtain⟨n,Z⟩:=h
 induction n using Nat.strongRecOn with
 |_ n ih=>
  by_cases W:∃k,k<n/\p k
  . obtain⟨k,G,hp⟩:=W;exact ih k G hp
  refine⟨n,Z,fun k G=>?_⟩;rcases Yr k n with I|T
  . exact absurd ⟨k,I,G⟩ W
  exact T
theorem z7f{ι:Type}{c:Code}{Q:Exit->St->Prop}(S:ι->St)(I:ι->Prop)(W:ι->Nat)(i0:ι)(l0:List (Option Nat))(h0:Le s (S i0) l0)(hI:I i0)
 (hr:∀i,I i->wpV P c (q6t (fun s'=>∃G l',Le s' (S G) l'/\I G/\W G<W i) Q) (S i)):wpV P (.loop c) Q s:=by
 intro an C a w β hR Q' hQ;simp only[okB]at an
 let Inv:Act->World->Prop:=fun a w=>∃i β,Rel C (S i) a w β/\I i
 let has:Act->World->Nat->Prop:=fun a w n=>∃i β,Rel C (S i) a w β/\I i/\W i=n
 classical
 let m:Act->World->Nat:=fun a w=>if h:∃n,has a w n then Classical.choose (z9b h)else 0
 obtain⟨β0,ar,_⟩:=qv0 hR h0;refine wp_loop Inv m ⟨i0,β0,ar,hI⟩ ?_;rintro a1 w1 ⟨i,b1,b2,b3⟩;have ao:∃n,has a1 w1 n:=⟨W i,i,b1,b2,b3,rfl⟩;obtain⟨j,b4,aq,b5,b6⟩:=(Yz (z9b ao)).1;have hm:m a1 w1=W j:=by simp only[m,dif_pos ao];exact b6.symm
 have bi:(S j).nt=s.nt:=aq.ntc.trans hR.ntc.symm;refine hr j b5 (by rw[bi];exact an) C a1 w1 b4 aq _ ?_;intro e s' a' w' β' Z hq
 cases e<;>simp only[q6t]at hq<;>simp only[Exit.then]
 .
  obtain⟨G,l',hl,a6,bs⟩:=hq;obtain⟨aj,ak,_⟩:=qv0 Z hl;refine⟨⟨G,aj,ak,a6⟩,?_⟩;have T:∃n,has a' w' n:=⟨W G,G,aj,ak,a6,rfl⟩;have:m a' w'<=W G:=by
   simp only[m,dif_pos T];exact (Yz (z9b T)).2 _ ⟨G,aj,ak,a6,rfl⟩
  omega
 . exact hQ _ _ _ _ _ Z hq
 exact hQ _ _ _ _ _ Z hq
theorem j6l{ι:Type}{c:Code}{Q:Exit->St->Prop}(S:ι->St)(I:ι->Prop)(G:ι->Nat)(i0:ι)(W:List (Option Nat))(Z:Le s (S i0) W)(hI:I i0)
 (hr:∀i,I i->vc P c (q6t (fun s'=>∃T l',Le s' (S T) l'/\I T/\G T<G i) Q) (S i)):wpV P (.loop c) Q s:=z7f S I G i0 W Z hI fun i hi=>q98 c _ _ (hr i hi)
def qx4:List AV->Nat->List (Nat×AV)
 |[],_=>[]
 |a::r,k=>(k,a)::qx4 r (k+1)
theorem zx4:∀(as:List AV) (k t:Nat),q0x (qx4 as k) t=if t<k then .bk else as.getD (t-k) .bk
 |[],k,t=>by simp[qx4,q0x]
 |a::as,k,t=>by
  simp only[qx4,q0x]
  split
  . rename_i h;subst h;simp
  rename_i h
  rw[zx4 as (k+1) t]
  by_cases G:t<k
  . rw[if_pos (by omega),if_pos G]
  rw[if_neg (by omega),if_neg G,show t-k=(t-(k+1))+1 by omega,List.getD_cons_succ]
def z1o(P:Program)(hp:Hp)(env:List (Nat×AV)):List ResultVar->Option (Prop×List AV)
 |[]=>some (True,[])
 |.tmp t::r=>(z1o P hp env r).map fun p=>((q0x env t).aU/\p.1,(q0x env t).st::p.2)
 |.cell t ty::r=>match ze2 P hp ty (q0x env t).st,z1o P hp env r with
  |some (c,x),some (G,xs)=>some ((q0x env t).aU/\c/\G,x::xs)
  |_,_=>none
def oneOf:List AV->AV
 |[x]=>x
 |xs=> .tup xs
def z4u(s:St)(r:AV)(Q:AV->Hp->Nat->Prop):Prop:=
 ∃(l:List (Option Nat)) (hp':Hp) (nx':Nat) (G:AV),Le s ⟨s.nb,[],hp',nx',s.nt⟩ l/\be (q82 s.nb l) s.hp (fun j=>qh5 (q82 s.nb l) j hp') nx' r G/\Q G hp' nx'
def z7a(P:Program)(G:List ResultVar)(Q:AV->Hp->Nat->Prop):Exit->St->Prop
 |.normal,s=>match z1o P s.hp s.env G with
  |some (c,I)=>c/\z4u s (oneOf I) Q
  |none=>False
 |.ret,s=>match z1o P s.hp s.env G with
  |some (c,I)=>c/\z4u s (oneOf I) Q
  |none=>False
 |_,_=>False
theorem z8s(h:Rel C s a w β):∀{W:List ResultVar} {c:Prop} {Z:List AV},z1o P s.hp s.env W=some (c,Z)->c->
 ∃vs,(W.mapM (fun r=>match r with|.tmp t=>pure (a.tmps.getD t undef)|.cell b t=>do loadVar t (<-asAddr (a.tmps.getD b undef)):ResultVar->Sem Value)).run P w=.ok vs w/\y9 w β s.nx (own β s.hp C.A) Z vs
 |[],c,Z,G,_=>by
  simp only[z1o,Xa,Xf]at G;obtain⟨_,rfl⟩:=G;exact⟨[],rfl,by simp[y9]⟩
 |.tmp t::r,c,Z,G,I=>by
  simp only[z1o,Xg,Xf]at G;obtain⟨⟨c',a6⟩,h1,rfl,rfl⟩:=G;obtain⟨vs,h2,h3⟩:=z8s h h1 I.2;refine⟨a.tmps.getD t undef::vs,?_,by simp only[y9];exact⟨q1j (h.env t) I.1,h3⟩⟩;simp only[List.mapM_cons,Sem.run_bind,Sem.run_pure,Result.andThen_ok,h2]
 |.cell t ty::r,c,Z,G,I=>by
  unfold z1o at G
  split at G
  .
   rename_i c1 x c2 xs h1 h2
   simp only[Xa,Xf]at G;obtain⟨rfl,rfl⟩:=G;obtain⟨vs,h3,h4⟩:=z8s h h2 I.2.2;obtain⟨z,T,h6⟩:=zf9 h.hp h1 I.2.1 (q1j (h.env t) I.1);refine⟨z::vs,?_,by simp only[y9];exact⟨h6,h4⟩⟩;have h7:(do loadVar ty (<-asAddr (a.tmps.getD t undef)):Sem Value).run P w=.ok z w:=by
    cases hv:a.tmps.getD t undef with
    |pointer p=>
     cases p with
     |none=>rw[hv]at T;simp[Instr.loadAt,Instr.sureAddr]at T
     |some ad=>rw[hv]at T;simpa [Instr.loadAt,Instr.sureAddr,asAddr]using T
    |_=>rw[hv]at T;simp[Instr.loadAt,Instr.sureAddr]at T
   simp only[List.mapM_cons,Sem.run_bind]at h7⊢;rw[h7];simp only[Result.andThen_ok,h3,Sem.run_pure]
  cases G
theorem zz1(h:Rel C s a w β){fn:Func}{c:Prop}{I:List AV}(T:z1o P s.hp s.env fn.results.toList=some (c,I))(W:c):
 ∃v,(results fn a.tmps).run P w=.ok v w/\rep w β s.nx (own β s.hp C.A) (oneOf I) v:=by
 obtain⟨vs,Z,G⟩:=z8s h T W;have h3:(results fn a.tmps).run P w=.ok (if h:vs.length=1 then vs[0]else .tuple ⟨vs⟩) w:=by
  unfold results;rw[Array.mapM_eq_mapM_toList];simp only[Sem.run_bind,Sem.run_map]
  erw [Z]
  simp only[Result.andThen_ok,Sem.run_pure,X4];rfl
 refine⟨_,h3,?_⟩;have hl:=q1p G
 match I,vs,hl,G with
 |[x],[v],_,G=>simp only[y9]at G;simpa [oneOf]using G.1
 |[],[],_,G=>simp[oneOf,rep];exact G
 |x::y::r,u::v::q,_,G=>simp only[oneOf,rep];exact⟨u::v::q,by simp,G⟩
theorem Spec.of_wp{f:FuncId}{fn:Func}{c:Code}{args:List AV}{hp:Hp}{nx:Nat}{Q:AV->Hp->Nat->Prop}(hf:P.funcs[f]?=some fn)(hb:fn.body=some c)(aj:okB fn.ntmps c=true)(I:(decide (args.length<=fn.ntmps)&&!(fn.name=="runtime.NumGoroutine"))=true)
 (hv:wpV P c (z7a P fn.results.toList Q) ⟨nx,qx4 args 0,hp,nx,fn.ntmps⟩):Spec P f args hp nx Q:=by
 intro w β A vs hA T ak an;rw[Xd,decide_eq_true_eq]at I;have ao:args.length<=fn.ntmps:=I.1;have b4:=q1p T
 let C:Ctx P:=⟨w,β,nx,hp,A,fn.ntmps⟩
 have hR:Rel C ⟨nx,qx4 args 0,hp,nx,fn.ntmps⟩ {tmps:=(⟨vs⟩:Array Value)++Array.replicate (fn.ntmps-(⟨vs⟩:Array Value).size) undef,defers:=[]} w β:=by
  refine {df:=rfl,nt:=?_,ntc:=rfl,nb:=rfl,alt:=hA,gs:=an,hp:=ak,env:=?_,ext:=?_}
  . simp only[Array.size_append,X4,Array.size_replicate];omega
  .
   intro t;simp only[zx4,X0,if_false,Nat.sub_zero];rcases Yr t args.length with aq|ar
   .
    have:=z00 T t aq;rw[X6,Array.getElem?_append_left (by simp;omega)]
    simpa [Yn]using this
   rw[Yn,List.getElem?_eq_none ar];simp only[Option.getD_none,rep]
  exact {nx:=Xc _,gh:=fun _ _=>rfl,gi:=fun _ _ _=>rfl,ids:=fun p hp'=> .inl (Xj hp'),blk:=fun p hp' b b1=> .inl ⟨p,hp',b1⟩,os:=rfl,tape:=rfl,output:=⟨rfl,fun _=>Xc _⟩,size:=Xc _,keep:=fun _ _ _=>rfl}
 refine bx.of (by unfold q02;rw[hf];simp only[hb,I.2,Option.isSome_some,Bool.and_self]) ?_;refine calls_of_wp hf hb (hv aj C _ w β hR _ ?_);have key:∀(s':St) (W:Act) (w':World) (β':aI),Rel C s' W w' β'->(match z1o P s'.hp s'.env fn.results.toList with
  |some (c,rs)=>c/\z4u s' (oneOf rs) Q
  |none=>False)->W.defers=[]/\∃v,(results fn W.tmps).run P w'=.ok v w'/\∃v' r hp' nx' β',Ending.returned v=.returned v'/\Q r hp' nx'/\rep w' β' nx' (own β' hp' A) r v'/\aV w' β' nx' A hp'/\Ext w β nx hp w' β' nx' hp':=by
  intro s' W w' β' G Z
  split at Z
  .
   rename_i c' rs b2
   obtain⟨hc,l,hp',nx',r',hl,ha,hQ⟩:=Z;obtain⟨v,h1,h2⟩:=zz1 G b2 hc;obtain⟨b3,a6,h3⟩:=qv0 G hl;exact⟨G.df,v,h1,v,r',hp',nx',b3,rfl,hQ,h3 _ r' v ha h2,a6.hp,a6.ext⟩
  exact Z.elim
 intro e s' W w' β' G Z
 cases e<;>simp only[z7a]at Z<;>simp only[bodyPost]
 . exact key s' W w' β' G Z
 exact key s' W w' β' G Z
theorem Spec.cD{f:FuncId}{fn:Func}{c:Code}{args:List AV}{hp:Hp}{nx:Nat}{Q:AV->Hp->Nat->Prop}(T:P.funcs[f]?=some fn)(hb:fn.body=some c)(I:okB fn.ntmps c=true)(G:(decide (args.length<=fn.ntmps)&&!(fn.name=="runtime.NumGoroutine"))=true)
 (W:vc P c (z7a P fn.results.toList Q) ⟨nx,qx4 args 0,hp,nx,fn.ntmps⟩):Spec P f args hp nx Q:=Spec.of_wp T hb I G (q98 c _ _ W)
theorem z9j{f:FuncId}{args:List AV}{K:St->AV->Prop}{hp1 hp2:Hp}{Q:AV->Hp->Nat->Prop}(an:s.hp.Perm (hp1++hp2))(h:Spec P f args hp1 s.nx Q)
 (hk:∀r hp' nx',Q r hp' nx'->K {s with hp:=hp'++hp2,nx:=nx'} r):qg1 P s f args K:=by
 intro C a w β vs hR bi;have G:∀p,p∈s.hp↔p∈hp1\/p∈hp2:=fun p=>by rw[an.mem_iff,Xe]
 have bs:((hp1++hp2).map (·.1)).Nodup:=(an.map _).nodup_iff.1 hR.hp.nd;rw[Yt,Zd]at bs;obtain⟨bv,c0,ao⟩:=bs
 let A':Nat->Prop:=fun b=>C.A b\/bu β hp2 b
 have c1:∀b,bu β s.hp b->b<w.heap.size:=fun b ⟨q,I,W⟩=>hR.hp.bB q I b W;have b6:own β hp1 A'=own β s.hp C.A:=by
  funext b
  apply propext
  constructor
  .
   rintro ((h1|⟨q,I,W⟩)|⟨q,I,W⟩)
   . exact .inl h1
   . exact .inr ⟨q,(G q).2 (.inr I),W⟩
   exact .inr ⟨q,(G q).2 (.inl I),W⟩
  rintro (h1|⟨q,I,W⟩)
  . exact .inl (.inl h1)
  rcases (G q).1 I with I|I
  . exact .inr ⟨q,I,W⟩
  exact .inl (.inr ⟨q,I,W⟩)
 have a6:∀p∈hp1,∀q∈hp2,∀b,bof β p.1 b->bof β q.1 b->False:=fun p hp q I b h1 h2=>by
  have:=hR.hp.bf p ((G p).2 (.inl hp)) q ((G q).2 (.inr I)) b h1 h2;exact ao p.1 (Xj hp) q.1 (Xj I) this
 have c2:aV w β s.nx A' hp1:=by
  refine⟨fun p hp=>?_,fun p hp=>hR.hp.lt p ((G p).2 (.inl hp)),bv,fun p hp q I=>hR.hp.inj p ((G p).2 (.inl hp)) q ((G q).2 (.inl I)),fun p hp b c aq=>?_,fun p hp=>hR.hp.i0 p ((G p).2 (.inl hp)),fun p hp b hb=>?_⟩
  . rw[b6];exact hR.hp.obj p ((G p).2 (.inl hp))
  .
   rintro (hx|⟨q,I,aj⟩)
   . exact hR.hp.av p ((G p).2 (.inl hp)) b c aq hx
   exact a6 p hp q I b (.inl ⟨c,aq⟩) aj
  obtain⟨i1,i2,i3,i4⟩:=hR.hp.ib p ((G p).2 (.inl hp)) b hb;refine⟨i1,?_,fun q I=>i3 q ((G q).2 (.inl I)),fun q I=>i4 q ((G q).2 (.inl I))⟩;rintro (hx|⟨q,I,aj⟩)
  . exact i2 hx
  exact a6 p hp q I b (.inr hb) aj
 have c3:∀b,A' b->b<w.heap.size:=by
  rintro b (hx|⟨q,I,W⟩)
  . exact hR.alt b hx
  exact c1 b ⟨q,(G q).2 (.inr I),W⟩
 refine (h w β A' vs c3 (by rw[b6];exact bi) c2 ((hR.gs.ext hR.ext).sub fun b ⟨q,I,hb⟩=>⟨q,(G q).2 (.inl I),hb⟩)).mono ?_;rintro e w' ⟨v,r,hp',nx',β',rfl,I,hr,Z,T⟩;have ar:∀q∈hp2,β' q.1=β q.1:=fun q I=>T.gh q.1 (hR.hp.lt q ((G q).2 (.inr I)));have b1:∀q∈hp2,β'.inn q.1=β.inn q.1:=fun q I=>T.gi q.1 (hR.hp.lt q ((G q).2 (.inr I))) fun hm=>by
  obtain⟨p,hp,he⟩:=Xt.1 hm;exact ao p.1 (Xj hp) q.1 (Xj I) he
 have ak:∀q∈hp2,∀b,bof β' q.1 b↔bof β q.1 b:=fun q I b=>by unfold bof;rw[ar q I,b1 q I]
 have b2:own β' hp' A'=own β' (hp'++hp2) C.A:=by
  funext b
  apply propext
  constructor
  .
   rintro ((h1|⟨q,I,W⟩)|⟨q,I,W⟩)
   . exact .inl h1
   . exact .inr ⟨q,Y0 _ I,(ak q I b).2 W⟩
   exact .inr ⟨q,Y5 _ I,W⟩
  rintro (h1|⟨q,I,W⟩)
  . exact .inl (.inl h1)
  rcases Xe.1 I with I|I
  . exact .inr ⟨q,I,W⟩
  exact .inl (.inr ⟨q,I,(ak q I b).1 W⟩)
 have hK:∀b,b<w.heap.size->¬bu β s.hp b->w'.heap[b]?=w.heap[b]?:=fun b hb b3=>T.keep b hb fun⟨q,I,W⟩=>b3 ⟨q,(G q).2 (.inl I),W⟩;have hO:∀b,b<w.heap.size->bu β' (hp'++hp2) b->bu β s.hp b:=by
  rintro b hb ⟨q,I,W⟩;rcases Xe.1 I with I|I
  .
   rcases T.blk q I b W with⟨q',c4,aj⟩|c9
   . exact⟨q',(G q').2 (.inl c4),aj⟩
   omega
  exact⟨q,(G q).2 (.inr I),(ak q I b).1 W⟩
 have hA:aW w w' (own β s.hp C.A) (own β' (hp'++hp2) C.A):=⟨T.size,fun b b3 hb=>⟨hK b hb (fun hx=>b3 (.inr hx)),fun c5=>by
  rcases c5 with hh|hh
  . exact b3 (.inl hh)
  exact b3 (.inr (hO b hb hh))⟩⟩
 have c6:=hR.step (w':=w') (β':=β') (hp':=hp'++hp2) (nx':=nx') T.nx (fun id hid=>T.gh id hid) T.size hK hO (by
  refine⟨?_,?_,?_,?_,?_,?_,?_⟩
  .
   intro p hp;rcases Xe.1 hp with hp|hp
   . rw[<-b2];exact Z.obj p hp
   have b4:=(G p).2 (.inr hp);exact q47 hA T.nx (fun id hid=>T.gh id hid) (hR.hp.lt p b4) (fun b aq=>T.keep b (c1 b ⟨p,b4,aq⟩) (fun⟨q,I,aj⟩=>a6 q I p hp b aj aq)) (fun _=>b1 p hp) (hR.hp.obj p b4)
  .
   intro p hp;rcases Xe.1 hp with hp|hp
   . exact Z.lt p hp
   exact Yl (hR.hp.lt p ((G p).2 (.inr hp))) T.nx
  .
   rw[Yt,Zd];refine⟨Z.nd,c0,?_⟩;intro x hx y hy c7;obtain⟨p,hp,rfl⟩:=Xt.1 hx;obtain⟨q,I,rfl⟩:=Xt.1 hy;rcases T.ids p hp with h1|h1
   . exact ao p.1 h1 q.1 (Xj I) c7
   have:=hR.hp.lt q ((G q).2 (.inr I));omega
  .
   intro p hp q I b c c' h1 h2;rcases Xe.1 hp with hp|hp<;>rcases Xe.1 I with I|I
   . exact Z.inj p hp q I b c c' h1 h2
   . exact absurd (.inr ⟨q,I,(ak q I b).1 (.inl ⟨c',h2⟩)⟩) (Z.av p hp b c h1)
   . exact absurd (.inr ⟨p,hp,(ak p hp b).1 (.inl ⟨c,h1⟩)⟩) (Z.av q I b c' h2)
   rw[ar p hp]at h1;rw[ar q I]at h2;exact hR.hp.inj p ((G p).2 (.inr hp)) q ((G q).2 (.inr I)) b c c' h1 h2
  .
   intro p hp b c h1;rcases Xe.1 hp with hp|hp
   . exact fun hx=>Z.av p hp b c h1 (.inl hx)
   rw[ar p hp]at h1;exact hR.hp.av p ((G p).2 (.inr hp)) b c h1
  .
   intro p hp W;rcases Xe.1 hp with hp|hp
   . exact Z.i0 p hp W
   rw[b1 p hp];exact hR.hp.i0 p ((G p).2 (.inr hp)) W
  .
   intro p hp b hb;rcases Xe.1 hp with hp|hp
   .
    obtain⟨i1,i2,i3,i4⟩:=Z.ib p hp b hb;refine⟨i1,fun hx=>i2 (.inl hx),fun q I c W=>?_,fun q I W=>?_⟩
    .
     rcases Xe.1 I with I|I
     . exact i3 q I c W
     exact i2 (.inr ⟨q,I,(ak q I b).1 (.inl ⟨c,W⟩)⟩)
    rcases Xe.1 I with I|I
    . exact i4 q I W
    exact absurd (.inr ⟨q,I,(ak q I b).1 (.inr W)⟩) i2
   have b4:=(G p).2 (.inr hp);have b5:=hb;rw[b1 p hp]at b5;obtain⟨i1,i2,i3,i4⟩:=hR.hp.ib p b4 b b5;refine⟨Yl i1 T.size,i2,fun q I c W=>?_,fun q I W=>?_⟩
   .
    rcases Xe.1 I with I|I
    . exact Z.ca q I b (.inl ⟨c,W⟩) (.inr ⟨p,hp,.inr b5⟩)
    rw[ar q I]at W;exact i3 q ((G q).2 (.inr I)) c W
   rcases Xe.1 I with I|I
   . exact absurd (.inr ⟨p,hp,.inr b5⟩) (Z.ca q I b (.inr W))
   rw[b1 q I]at W;exact i4 q ((G q).2 (.inr I)) W) (fun p hp=>by
  rcases Xe.1 hp with hp|hp
  .
   rcases T.ids p hp with h1|h1
   . obtain⟨q,I,he⟩:=Xt.1 h1;exact .inl (by rw[<-he];exact Xj ((G q).2 (.inl I)))
   exact .inr h1
  exact .inl (Xj ((G p).2 (.inr hp)))) T.os T.tape T.output (fun id hid c8=>T.gi id hid fun hm=>c8 (by
  obtain⟨p,hp,he⟩:=Xt.1 hm;exact Xt.2 ⟨p,(G p).2 (.inl hp),he⟩))
 exact⟨v,r,_,β',rfl,c6,by rw[<-b2];exact hr,hk r hp' nx' I⟩
theorem qx3{f:FuncId}{args args':List AV}{K:St->AV->Prop}{s':St}{l:List (Option Nat)}(W:Le s s' l)(I:be.AvLeL (q82 s.nb l) s.hp (fun j=>qh5 (q82 s.nb l) j s'.hp) s'.nx args args')
 (h:qg1 P s' f args' K):qg1 P s f args K:=by
 intro C a w β vs Z G;obtain⟨β',T,h3⟩:=qv0 Z W;refine h C a w β' vs T ?_;clear h
 induction args generalizing args' vs with
 |nil=>cases args'<;>cases vs<;>simp only[be.AvLeL,y9]at I G⊢
 |cons x xs ih=>
  cases args' with
  |nil=>simp only[be.AvLeL]at I
  |cons y ys=>
   cases vs with
   |nil=>simp only[y9]at G
   |cons v vs=>
    simp only[be.AvLeL]at I;simp only[y9]at G⊢;exact⟨h3 _ _ _ I.1 G.1,ih I.2 vs G.2⟩
end
end
section
open Go Go.RowKit
def zq4(r:AV)(nx:Nat)(G:AV)(hp':Hp)(nx':Nat):Prop:=G=r/\hp'=[]/\nx'=nx
def aZ(P:Program)(f:FuncId)(args:List AV)(nx:Nat)(r:AV):Prop:=Spec P f args [] nx (zq4 r nx)
mutual
def q0q:AV->Bool
 |.ptr .. |.apt .. |.osl .. |.bsl .. |.mp .. |.bk=>false
 |.v _|.sl .. |.el .. |.erb _=>true
 |.agg cs=>q0j cs
 |.tup cs=>q0j cs
 |.clo _ cs=>q0j cs
 |.grd _ a=>q0q a
def q0j:List AV->Bool
 |[]=>true
 |a::r=>q0q a&&q0j r
end
section
variable {w:World} {β β':aI} {nx nx':Nat} {ow:Nat->Prop}
mutual
theorem j0w:∀(a:AV) (u:Value),q0q a=true->rep w β nx ow a u->rep w β' nx' ow a u
 |.v x,u,_,h=>by simpa only[rep]using h
 |.ptr ..,_,h,_=>by simp[q0q]at h
 |.apt ..,_,h,_=>by simp[q0q]at h
 |.osl ..,_,h,_=>by simp[q0q]at h
 |.bsl ..,_,h,_=>by simp[q0q]at h
 |.mp ..,_,h,_=>by simp[q0q]at h
 |.erb g,u,_,h=>by simpa only[rep]using h
 |.bk,_,h,_=>by simp[q0q]at h
 |.sl sz xs,u,_,h=>by
  simp only[rep]at h⊢;rcases h with h|⟨b,o,cap,I,T,W,Z,h5⟩
  . exact .inl h
  exact .inr ⟨b,o,cap,I,T,W,Z,q26 (aW.refl w ow) sz b (fun _ _ hu=>hu) xs o h5⟩
 |.el sz xs i off,u,_,h=>by
  simp only[rep]at h⊢;obtain⟨b,o,I,W,Z,h5⟩:=h;exact⟨b,o,I,W,Z,q26 (aW.refl w ow) sz b (fun _ _ hu=>hu) xs o h5⟩
 |.agg cs,u,G,h=>by
  simp only[q0q]at G;simp only[rep]at h⊢;obtain⟨l,I,T⟩:=h;exact⟨l,I,z2r cs l G T⟩
 |.tup cs,u,G,h=>by
  simp only[q0q]at G;simp only[rep]at h⊢;obtain⟨l,I,T⟩:=h;exact⟨l,I,z2r cs l G T⟩
 |.clo f cs,u,G,h=>by
  simp only[q0q]at G;simp only[rep]at h⊢;obtain⟨l,I,T⟩:=h;exact⟨l,I,z2r cs l G T⟩
 |.grd g a,u,G,h=>by
  simp only[q0q]at G;simp only[rep]at h⊢;exact⟨fun hg=>j0w a u G (h.1 hg),h.2⟩
theorem z2r:∀(as:List AV) (us:List Value),q0j as=true->y9 w β nx ow as us->y9 w β' nx' ow as us
 |[],[],_,h=>by simp only[y9]
 |a::as,u::us,G,h=>by
  simp only[q0j,Xd]at G;simp only[y9]at h⊢;exact⟨j0w a u G.1 h.1,z2r as us G.2 h.2⟩
 |[],u::us,_,h=>by simp only[y9]at h
 |a::as,[],_,h=>by simp only[y9]at h
end
end
mutual
theorem zy6{rn:Nat->Option Nat}{hp:Hp}{gone:Nat->Prop}{nx:Nat}:∀(a:AV),q0q a=true->be rn hp gone nx a a
 |.v x,_=>by simp only[be]
 |.ptr ..,h=>by simp[q0q]at h
 |.apt ..,h=>by simp[q0q]at h
 |.osl ..,h=>by simp[q0q]at h
 |.bsl ..,h=>by simp[q0q]at h
 |.mp ..,h=>by simp[q0q]at h
 |.erb g,_=>by simp only[be]
 |.bk,_=>by simp only[be]
 |.sl sz xs,_=>by simp only[be];exact⟨trivial,.inl trivial⟩
 |.el sz xs i off,_=>by simp only[be];exact⟨trivial,trivial,trivial,trivial⟩
 |.agg cs,h=>by simp only[q0q]at h;simp only[be];exact⟨trivial,z1d cs h⟩
 |.tup cs,h=>by simp only[q0q]at h;simp only[be];exact⟨trivial,z1d cs h⟩
 |.clo f cs,h=>by simp only[q0q]at h;simp only[be];exact⟨trivial,trivial,z1d cs h⟩
 |.grd g a,h=>by simp only[q0q]at h;simp only[be];exact⟨trivial,zy6 a h⟩
theorem z1d{rn:Nat->Option Nat}{hp:Hp}{gone:Nat->Prop}{nx:Nat}:∀(as:List AV),q0j as=true->be.AvLeL rn hp gone nx as as
 |[],_=>by simp only[be.AvLeL]
 |a::as,h=>by
  simp only[q0j,Xd]at h;simp only[be.AvLeL];exact⟨zy6 a h.1,z1d as h.2⟩
end
theorem j3t(x:List AV)(l:List (List AV)):q3l (x::l) 0=x:=rfl
theorem z1q{β:aI}{A:Nat->Prop}:own β [] A=A:=by
 funext b
 apply propext
 constructor
 .
  rintro (h|⟨q,G,_⟩)
  . exact h
  cases G
 exact fun h=> .inl h
theorem aV.nil{w:World}{β:aI}{nx:Nat}{A:Nat->Prop}:aV w β nx A []:=
 ⟨(fun p hp=>by cases hp),(fun p hp=>by cases hp),by simp,(fun p hp=>by cases hp),(fun p hp=>by cases hp),(fun p hp=>by cases hp),(fun p hp=>by cases hp)⟩
theorem aZ.up{P:Program}{f:FuncId}{args:List AV}{r:AV}(h:aZ P f args 0 r)(Z:q0j args=true)(nx:Nat):aZ P f args nx r:=by
 intro w β A vs hA I a6 T;rw[z1q]at I;refine (h w β A vs hA (by rw[z1q];exact z2r _ _ Z I) aV.nil (T.sub fun _ ⟨_,h,_⟩=>by cases h)).mono ?_;rintro e w' ⟨v,r',hp',nx',β',rfl,⟨rfl,rfl,rfl⟩,W,_,G⟩;rw[z1q]at W;refine⟨v,_,[],nx,β,rfl,⟨rfl,rfl,rfl⟩,?_,aV.nil,⟨Xc _,fun _ _=>rfl,fun _ _ _=>rfl,(fun p hp=>by cases hp),(fun p hp=>by cases hp),G.os,G.tape,G.output,G.size,G.keep⟩⟩;rw[z1q];exact q5w (aW.refl _ _) 0 nx (Nat.zero_le _) (fun _ hi=>absurd hi (X0 _)) _ _ W
end
section
open Go Go.RowKit
def QV(P:Program)(hp:Hp)(nx:Nat)(ev:Operand->AV)(op:Op)(r:AV):Prop:=
 match qt2 P hp ev op with
 |some (c,W)=>c/\r=W
 |none=>match op with
  |.call c=>match c.callee,c.args.toList,c.argTypes.toList with
   |.value T,args,_=>match (ev T).st with
    |.clo f G=>(True/\(ev T).aU/\bm (args.map ev)/\q0j ((args.map fun x=>(ev x).st)++G)=true)/\aZ P f ((args.map fun x=>(ev x).st)++G) 0 r
    |_=>False
   |_,_,_=>False
  |.buildSlice t n parts=>match aO P t,z0s (parts.toList.map fun p=>(ev p.2).st)with
   |some e,some I=>match q1w P e with
    |some zs=>(q19 P e=true/\zs.length=szT P e/\0<szT P e/\n*szT P e<=16777216/\qg9 parts.toList 0=true/\parts.toList.length=n/\bm (parts.toList.map fun p=>ev p.2)/\qv8 (szT P e) I=true/\
     I.flatten.all qg3=true/\I.flatten.all qf9=true)/\∃ns,r=.sl (szT P e) (I.map (q1v ns))
    |none=>False
   |_,_=>False
  |.makeSlice t l c=>match (ev l).st,(ev c).st,aO P t with
   |.v (.int _ n),.v (.int _ m),some e=>match q1w P e with
    |some zs=>((ev l).aU/\(ev c).aU/\m=n/\q19 P e=true/\zs.length=szT P e/\0<szT P e/\0<q2h P e/\0<=n/\n*q2h P e<=140737488355328/\zs.all (·.oneCell')=true)/\
     ∃ns,r=.sl (szT P e) (Xb n.toNat (q1v ns (zs.map AV.v)))
    |none=>False
   |_,_,_=>False
  |_=>False
def evF(E:Nat->AV):Operand->AV
 |.tmp t=>E t
 |.const v=> .v v
 |.global g=> .v (.pointer (some ⟨g,0,none⟩))
 |.func f=> .clo f []
def QG(P:Program)(hp:Hp)(nx:Nat)(ops:Array Oper)(E:Nat->AV)(o:Oper)(r:AV):Prop:=
 match o.guard with
 |none=>QV P hp nx (evF E) o.op r
 |some (j,G)=>match q1y ops j with
  |some d=>match z2w (E d) G with
   |some g=>∃I,(g=true->QV P hp nx (evF E) o.op I)/\r=mkG g I
   |none=>False
  |none=>False
theorem zx6{P:Program}{hp:Hp}{ev G:Operand->AV}{op:Op}(h:∀x∈op.operands,ev x=G x):fop P hp ev op=fop P hp G op:=by
 cases op<;>(try simp only[fop])<;>(try simp only[Op.operands]at h)
 case move x=>simp[h x]
 case assign x=>simp[h x]
 case pick c a b=>rw[h c (by simp),h a (by simp),h b (by simp)]
 case load t x=>rw[h x (by simp)]
 case lookup t m k c=>cases c<;>simp only[h m (by simp),h k (by simp)]
 case nilCheck x=>rw[h x (by simp)]
 case binOp op t x y ty=>rw[h x (by simp),h y (by simp)]
 case unOp op t x=>rw[h x (by simp)]
 case convert s d x=>rw[h x (by simp)]
 case makeFunc f first I=>
  have h0:∀x∈I.toList,ev x=G x:=fun x Z=>h x (by simp at Z⊢;exact .inr Z);have e1:I.toList.map ev=I.toList.map G:=Xk h0;have W:(I.toList.map fun x=>(ev x).st)=I.toList.map fun x=>(G x).st:=Xk fun x Z=>by rw[h0 x Z]
  cases f<;>simp only[e1,W]
 case slice t x lo hi mx=>
  cases mx<;>simp only
  have h1:lo.map ev=lo.map G:=by cases lo<;>simp;exact h _ (by simp)
  have h2:hi.map ev=hi.map G:=by cases hi<;>simp;exact h _ (by simp)
  have h3:(lo.map fun x=>(ev x).st)=lo.map fun x=>(G x).st:=by cases lo<;>simp;rw[h _ (by simp)]
  have h4:(hi.map fun x=>(ev x).st)=hi.map fun x=>(G x).st:=by cases hi<;>simp;rw[h _ (by simp)]
  rw[h x (by simp),h1,h2,h3,h4]
 case fieldAddr t x f=>rw[h x (by simp)]
 case field t x f=>rw[h x (by simp)]
 case indexAddr t x i=>rw[h x (by simp),h i (by simp)]
 case index t x i=>rw[h x (by simp),h i (by simp)]
 case extract x i=>rw[h x (by simp)]
 case call c=>
  have T:∀x∈c.args.toList,ev x=G x:=fun x Z=>h x (by simp only[Call.operands];exact Zi.2 (.inr (Yg.1 Z)))
  split
  .
   rename_i x ty e1 W e3
   rw[W]at T;rw[T x (by simp)]
  .
   rename_i x y e1 W
   rw[W]at T;rw[T x (by simp),T y (by simp)]
  .
   rename_i x y e1 W
   rw[W]at T;rw[T x (by simp),T y (by simp)]
  rfl
theorem j6x{P:Program}{hp:Hp}{ev G:Operand->AV}{op:Op}(h:∀x∈op.operands,ev x=G x):qt2 P hp ev op=qt2 P hp G op:=by
 unfold qt2
 split
 .
  rename_i t parts
  simp only[Op.operands]at h;have hp:∀p∈parts.toList,ev p.2=G p.2:=fun p hp=>h p.2 (by simp;exact⟨p.1,by simpa using hp⟩);unfold zc2;rw[Xk (f:=fun p:Nat×Operand=>(p.1,(ev p.2).st)) (g:=fun p=>(p.1,(G p.2).st)) (fun p I=>by rw[hp p I]),Xk (f:=fun p:Nat×Operand=>ev p.2) (g:=fun p=>G p.2) hp]
 .
  rename_i op t x y ty
  rw[zx6 h];simp only[Op.operands]at h;rw[h x (by simp),h y (by simp)]
 exact zx6 h
theorem j32{P:Program}{hp:Hp}{nx:Nat}{ev G:Operand->AV}{op:Op}{r:AV}(h:∀x∈op.operands,ev x=G x)(I:QV P hp nx ev op r):QV P hp nx G op r:=by
 unfold QV at I⊢;rw[<-j6x h]
 split at I
 . exact I
 split at I
 .
  rename_i c _
  simp only[Op.operands]at h;have ha:∀x∈c.args.toList,ev x=G x:=fun x T=>h x (by simp only[Call.operands];exact Zi.2 (.inr (Yg.1 T)))
  split at I
  .
   rename_i Z e1
   have a6:ev Z=G Z:=h Z (by simp[Call.operands,e1]);rw[<-a6];rw[Xk (f:=ev) (g:=G) ha,Xk (f:=fun x=>(ev x).st) (g:=fun x=>(G x).st) (fun x T=>by rw[ha x T])]at I;exact I
  exact I.elim
 .
  rename_i t n parts _
  simp only[Op.operands]at h;have W:∀p∈parts.toList,ev p.2=G p.2:=fun p hp=>h p.2 (by simp;exact⟨p.1,by simpa using hp⟩);rw[Xk (f:=fun p:Nat×Operand=>(ev p.2).st) (g:=fun p=>(G p.2).st) (fun p T=>by rw[W p T]),Xk (f:=fun p:Nat×Operand=>ev p.2) (g:=fun p=>G p.2) W]at I;exact I
 .
  rename_i t l c _
  simp only[Op.operands]at h;rw[h l (by simp),h c (by simp)]at I;exact I
 exact I.elim
theorem j33{P:Program}{hp:Hp}{nx:Nat}{ops:Array Oper}{E T:Nat->AV}{o:Oper}{r:AV}(h:∀t∈o.looksAt ops,E t=T t)(G:QG P hp nx ops E o r):QG P hp nx ops T o r:=by
 have I:∀x∈o.op.operands,evF E x=evF T x:=fun x hx=>by
  cases x with
  |tmp t=>exact h t (by unfold Oper.looksAt;exact Y5 _ (List.mem_filterMap.2 ⟨.tmp t,Yg.2 hx,rfl⟩))
  |_=>rfl
 unfold QG at G⊢
 split at G
 . exact j32 I G
 rename_i j Z hg
 split at G
 .
  rename_i d hd
  have:E d=T d:=h d (by
   unfold Oper.looksAt;refine Y0 _ ?_;rw[hg];unfold q1y at hd;simp[hd])
  rw[<-this]
  split at G
  . obtain⟨r0,h1,h2⟩:=G;exact⟨r0,fun W=>j32 I (h1 W),h2⟩
  exact G.elim
 exact G.elim
structure bD(w w':World):Prop where
 os:w'.os=w.os
 tape:w'.tape=w.tape
 output:w'.output=w.output/\(dkF=true->w.drawn<=w'.drawn)
 size:w.heap.size<=w'.heap.size
 block:∀b,b<w.heap.size->w'.heap[b]?=w.heap[b]?
theorem bD.refl(w:World):bD w w:=⟨rfl,rfl,⟨rfl,fun _=>by first|exact Xc _|exact Yu _⟩,Xc _,fun _ _=>rfl⟩
section
variable {P:Program} {C:Ctx P} {s:St} {a:Act} {w:World} {β:aI}
theorem Rel.still(h:Rel C s a w β){w':World}(G:bD w w'):Rel C s a w' β:=by
 have W:aW w w' (own β s.hp C.A) (own β s.hp C.A):=⟨G.size,fun b hb I=>⟨G.block b I,hb⟩⟩;exact h.step (Xc _) (fun _ _=>rfl) G.size (fun b hb _=>G.block b hb) (fun _ _ hb=>hb)
  ⟨fun p hp=>q47 W (Xc _) (fun _ _=>rfl) (h.hp.lt p hp) (fun b T=>G.block b (h.hp.bB p hp b T)) (fun _=>rfl) (h.hp.obj p hp),h.hp.lt,h.hp.nd,h.hp.inj,h.hp.av,h.hp.i0,fun p hp b hb=>⟨Yl (h.hp.ib p hp b hb).1 G.size,(h.hp.ib p hp b hb).2⟩⟩
  (fun p hp=> .inl (Xj hp)) G.os G.tape G.output
theorem z9x{w':World}(I:bD w w'){x:AV}{u:Value}(T:rep w β s.nx (own β s.hp C.A) x u):rep w' β s.nx (own β s.hp C.A) x u:=
 q5w ⟨I.size,fun b hb G=>⟨I.block b G,hb⟩⟩ s.nx s.nx (Xc _) (fun _ _=>rfl) x u T
theorem z9m(h:Rel C s a w β){ev:Operand->AV}(W:∀x,rep w β s.nx (own β s.hp C.A) (ev x) (a.eval x)){o:Oper}{r:AV}(I:QV P s.hp s.nx ev o.op r){K:Act->World->Prop}{Q:Exit->Act->World->Prop}
 (hK:∀v w',bD w w'->rep w' β s.nx (own β s.hp C.A) r v->K (a.put o.dst v) w'):o.wp P a w K Q:=by
 unfold QV at I
 split at I
 .
  rename_i c r' hf
  obtain⟨hc,rfl⟩:=I;obtain⟨z,hz,Z⟩:=z95 h.hp W (fun _ _ e=>by subst e;rfl) hf hc;unfold Oper.wp;rw[hz];exact hK z w (bD.refl w) Z
 split at I
 .
  rename_i cl ho
  split at I
  .
   rename_i fo e1
   split at I
   .
    rename_i f bv hf
    obtain⟨⟨c1,c2,c3,c4⟩,b2⟩:=I;have hS:=b2.up c4 s.nx;have h1:=q1j (W fo) c2;rw[hf]at h1;simp only[rep]at h1;obtain⟨l,h1,h2⟩:=h1;have h3:=z8u W cl.args.toList c3;have a6:cl.args.map a.eval=⟨cl.args.toList.map a.eval⟩:=Xo (by simp);have aj:∀β',own β' [] (own β s.hp C.A)=own β s.hp C.A:=fun β'=>by
     funext b
     apply propext
     constructor
     .
      rintro (hx|⟨q,I,_⟩)
      . exact hx
      cases I
     exact fun hx=> .inl hx
    have e0:(⟨cl.args.toList.map a.eval⟩:Array Value)++(⟨l⟩:Array Value)=⟨cl.args.toList.map a.eval++l⟩:=Xo (by simp);have ak:=hS w β (own β s.hp C.A) _ (by
     rintro b (hx|⟨q,I,hc⟩)
     . exact h.alt b hx
     exact h.hp.bB q I b hc) (by rw[aj];exact q6m h3 h2) aV.nil ((h.gs.ext h.ext).sub fun _ ⟨_,I,_⟩=>by cases I)
    cases hB:q02 P f with
    |true=>
     have T:(execOp a.eval o).run P w=.ok (.enter f ⟨cl.args.toList.map a.eval++l⟩) w:=by
      unfold execOp;simp only[ho];simp only[resolve,e1,h1,a6,Deferred.ofValue,Sem.run_bind,Sem.run_pure,Result.andThen_ok,invoke,Yb,e0,zv7 hB]
     unfold Oper.wp;rw[T];simp only[Oper.upon];refine (ak.1 hB).mono ?_;rintro e w' ⟨v,r',hp',nx',β',rfl,⟨rfl,rfl,rfl⟩,Z,_,G⟩;rw[aj]at Z;refine hK v w' ⟨G.os,G.tape,G.output,G.size,fun b hb=>G.keep b hb fun⟨q,I,_⟩=>by cases I⟩ ?_;exact q5w (aW.refl _ _) s.nx s.nx (Xc _) (fun id hid=>(G.gh id hid).symm) _ _ Z
    |false=>
     obtain⟨v0,w',b3,v,r',hp',nx',β',b4,⟨rfl,rfl,rfl⟩,Z,_,G⟩:=ak.2 hB
     cases b4
     have T:(execOp a.eval o).run P w=.ok (.value v0) w':=by
      unfold execOp;simp only[ho];simp only[resolve,e1,h1,a6,Deferred.ofValue,Sem.run_bind,Sem.run_pure,Result.andThen_ok,invoke,Yb,e0,b3]
     unfold Oper.wp;rw[T];simp only[Oper.upon];rw[aj]at Z;refine hK v0 w' ⟨G.os,G.tape,G.output,G.size,fun b hb=>G.keep b hb fun⟨q,I,_⟩=>by cases I⟩ ?_;exact q5w (aW.refl _ _) s.nx s.nx (Xc _) (fun id hid=>(G.gh id hid).symm) _ _ Z
   exact I.elim
  exact I.elim
 .
  rename_i t n parts ho
  split at I
  .
   rename_i e rs he Z
   split at I
   .
    rename_i zs hz
    obtain⟨⟨c1,c2,c3,c4,c5,c6,c7,c8,c9,ao⟩,ns,rfl⟩:=I;obtain⟨g1,g2,g3⟩:=z2h W c7 Z;have T:=j0t (w:=w) ho he c1 hz c3 c4 c5 c6 (g3 _ c8);unfold Oper.wp;rw[T];have an:bD w (w.alloc (.cells ⟨(parts.toList.map fun p=>(a.eval p.2).cells.toList).flatten⟩ e)):=⟨rfl,rfl,⟨rfl,fun _=>by first|exact Xc _|exact Yu _⟩,by simp,fun b hb=>Below.heap_alloc w _ b hb⟩;refine hK _ _ an ?_;simp only[rep];refine .inr ⟨w.heap.size,0,n,by rw[Xz,g1,c6],by rw[Xz];omega,?_,by simp,?_⟩
    .
     rintro (hx|⟨q,I,hc⟩)
     . have:=h.alt _ hx;have:=h.ext.size;omega
     exact Nat.lt_irrefl _ (h.hp.bB q I _ hc)
    refine q6u (us:=(parts.toList.map fun p=>(a.eval p.2).cells.toList).flatten) (fun r b5=>by
     obtain⟨r2,b6,rfl⟩:=Xt.1 b5;rw[qj4];exact z3s c8 r2 b6) ?_ (q9i c9 g2) ?_
    . exact qg8 (q1r ⟨an.size,fun b hb bi=>⟨an.block b bi,hb⟩⟩ 0 0 (Xc _) (fun _ _=>rfl) _ _ (qi8 ao g2))
    intro j u hj;rw[X5,cell_of_row _ w.heap.size j _ e (0,0) (heap_alloc_new w _)]
    simpa using hj
   exact I.elim
  exact I.elim
 .
  rename_i t l c ho
  split at I
  .
   rename_i k n k' m e hl hc he
   split at I
   .
    rename_i zs hz
    obtain⟨⟨c1,c2,rfl,c4,c5,c6,c7,c8,c9,ao⟩,ns,rfl⟩:=I;have aq:=q1j (W l) c1;have ar:=q1j (W c) c2;rw[hl]at aq;rw[hc]at ar;simp only[rep]at aq ar;have T:=j8a (w:=w) (a:=a) ho aq ar he c4 hz c5 c6 c7 c8 c9;unfold Oper.wp;rw[T];have an:bD w (w.alloc (.cells ⟨(Xb m.toNat zs).flatten⟩ e)):=⟨rfl,rfl,⟨rfl,fun _=>by first|exact Xc _|exact Yu _⟩,by simp,fun b hb=>Below.heap_alloc w _ b hb⟩;refine hK _ _ an ?_;simp only[rep];refine .inr ⟨w.heap.size,0,m.toNat,by simp,by simp,?_,by simp,?_⟩
    .
     rintro (hx|⟨q,I,hc⟩)
     . have:=h.alt _ hx;have:=h.ext.size;omega
     exact Nat.lt_irrefl _ (h.hp.bB q I _ hc)
    refine q6u (us:=(Xb m.toNat zs).flatten) ?_ (by rw[<-Ya];exact qg8 (z3n _ _ _ _ _ _)) ?_ ?_
    . intro r Z;rw[Xl Z,qj4];simp[c5]
    . intro u hu;obtain⟨l',bs,b1⟩:=Yq.1 hu;rw[Xl bs]at b1;exact X8.1 ao u b1
    intro j u hj;rw[X5,cell_of_row _ w.heap.size j _ e (0,0) (heap_alloc_new w _)]
    simpa using hj
   exact I.elim
  exact I.elim
 exact I.elim
end
end
section
open Go Go.RowKit
def bp(ops:Array Oper)(r:Nat->AV)(E0:Nat->AV)(L:Nat->Prop)(E:Nat->AV):Prop:=
 ∀t,(∃i,i<ops.size/\L i/\q1y ops i=some t/\(∀k,i<k->k<ops.size->L k->q1y ops k≠some t)/\E t=r i)\/((∀i,i<ops.size->L i->q1y ops i≠some t)/\E t=E0 t)
def q5u(E:Nat->AV):Option Nat->AV->Nat->AV
 |none,_=>E
 |some d,x=>fun t=>if d=t then x else E t
theorem bp.uniq{ops:Array Oper}{r E0:Nat->AV}{L:Nat->Prop}{E E':Nat->AV}(h:bp ops r E0 L E)(h':bp ops r E0 L E')(t:Nat):E t=E' t:=by
 rcases h t with⟨i,G,I,h3,h4,h5⟩|⟨G,I⟩<;>rcases h' t with⟨k,T,W,k3,k4,k5⟩|⟨T,W⟩
 .
  rcases Yo i k with Z|heq|a6
  . exact absurd k3 (h4 k Z T W)
  . subst heq;rw[h5,k5]
  exact absurd h3 (k4 i a6 G I)
 . exact absurd h3 (T i G I)
 . exact absurd k3 (G k T W)
 rw[I,W]
theorem bp.iff{ops:Array Oper}{r E0:Nat->AV}{L L':Nat->Prop}{E:Nat->AV}(h:bp ops r E0 L E)(T:∀i,i<ops.size->(L i↔L' i)):bp ops r E0 L' E:=by
 intro t;rcases h t with⟨i,I,W,h3,h4,h5⟩|⟨I,W⟩
 . exact .inl ⟨i,I,(T i I).1 W,h3,fun k hk G Z=>h4 k hk G ((T k G).2 Z),h5⟩
 exact .inr ⟨fun i hi Z=>I i hi ((T i hi).2 Z),W⟩
theorem bp.step{ops:Array Oper}{r E0:Nat->AV}{L:Nat->Prop}{E:Nat->AV}(h:bp ops r E0 L E){j:Nat}(hj:j<ops.size)(I:∀k,j<k->k<ops.size->L k->∀d,q1y ops j=some d->q1y ops k≠some d):
 bp ops r E0 (fun i=>L i\/i=j) (q5u E (q1y ops j) (r j)):=by
 intro t
 by_cases hd:q1y ops j=some t
 .
  refine .inl ⟨j,hj,.inr rfl,hd,fun k W T G=>?_,?_⟩
  .
   rcases G with G|G
   . exact I k W T G t hd
   omega
  rw[hd];simp[q5u]
 have hE:q5u E (q1y ops j) (r j) t=E t:=by
  cases Z:q1y ops j with
  |none=>rfl
  |some d=>rw[Z]at hd;simp only[q5u];rw[if_neg (fun e=>hd (by rw[e]))]
 rw[hE];rcases h t with⟨i,h1,h2,h3,h4,h5⟩|⟨h1,h2⟩
 .
  refine .inl ⟨i,h1,.inl h2,h3,fun k W T G=>?_,h5⟩;rcases G with G|rfl
  . exact h4 k W T G
  exact hd
 refine .inr ⟨fun i hi G=>?_,h2⟩;rcases G with G|rfl
 . exact h1 i hi G
 exact hd
theorem bp.agree{ops:Array Oper}{r E0:Nat->AV}{L:Nat->Prop}{E Ej:Nat->AV}{j:Nat}{oj:Oper}(h:bp ops r E0 L E)(hE:bp ops r E0 (· <j) Ej)(hj:j<ops.size)(aj:¬L j)
 (h1:∀i,i<j->¬L i->∀d,q1y ops i=some d->d∉oj.looksAt ops)(h2:∀i,j<i->i<ops.size->L i->∀d,q1y ops i=some d->d∉oj.looksAt ops):
 ∀t∈oj.looksAt ops,E t=Ej t:=by
 intro t ht;rcases h t with⟨i,k1,k2,k3,k4,k5⟩|⟨k1,k2⟩
 .
  have a6:i<j:=by
   rcases Yo i j with I|heq|T
   . exact I
   . subst heq;exact absurd k2 aj
   exact absurd ht (h2 i T k1 k2 t k3)
  rcases hE t with⟨G,W,Z,m3,m4,m5⟩|⟨W,Z⟩
  .
   rcases Yo i G with I|heq|T
   .
    by_cases hL:L G
    . exact absurd m3 (k4 G I W hL)
    exact absurd ht (h1 G Z hL t m3)
   . subst heq;rw[k5,m5]
   exact absurd k3 (m4 i T k1 a6)
  exact absurd k3 (W i k1 a6)
 rcases hE t with⟨G,W,Z,m3,m4,m5⟩|⟨W,Z⟩
 .
  by_cases hL:L G
  . exact absurd m3 (k1 G W hL)
  exact absurd ht (h1 G Z hL t m3)
 rw[k2,Z]
theorem z9e{α:Type}{p q:α->Bool}{x:α}:∀{l:List α},l.Nodup->x∈l->p x=true->q x=false->(∀y,y≠x->q y=p y)->(l.filter p).length=(l.filter q).length+1
 |y::l,I,G,hp,Z,h=>by
  simp only[List.nodup_cons]at I
  by_cases T:y=x
  . subst T;have:l.filter p=l.filter q:=List.filter_congr fun z hz=>(h z (fun e=>I.1 (by rw[<-e];exact hz))).symm;simp[hp,Z,this]
  have W:x∈l:=by
   rcases Y6.1 G with e|G
   . exact absurd e.symm T
   exact G
  have ih:=z9e I.2 W hp Z h;simp only[List.filter_cons,h y T]
  split
  . simp[ih]
  exact ih
 |[],_,G,_,_,_=>by simp at G
section
variable {P:Program} {C:Ctx P} {hp:Hp} {nx nb nt:Nat} {β:aI}
theorem z2o{ops:Array Oper}(h:z8e ops=true):(∀j I,ops[j]?=some I->∀e∈I.after,Region.binds .any e=true->e.on<j)/\
 (∀i j W I,i<j->ops[i]?=some W->ops[j]?=some I->(∀e∈I.after,Region.binds .any e=true->e.on≠i)->W.apart ops I=true):=by
 simp only[z8e,Xd,X8,List.mem_range]at h;obtain⟨_,h⟩:=h;refine⟨fun j I T e Z hb=>?_,fun i j W I a6 hi T aj=>?_⟩
 . have:=h j (X9.1 T).1;rw[T]at this;simp only[Xd]at this;have G:=Array.all_eq_true_iff_forall_mem.1 this.1 e Z;simp only[hb,Bool.not_true,Bool.false_or,decide_eq_true_eq]at G;exact G
 have:=h j (X9.1 T).1;rw[T]at this;simp only[Xd,X8,List.mem_range]at this;have G:=this.2 i a6;rw[hi]at G;simp only[Bool.or_eq_true]at G;rcases G with G|G
 . obtain⟨e,Z,hb⟩:=Array.any_eq_true'.1 G;simp only[Xd,beq_iff_eq]at hb;exact absurd hb.2 (aj e Z hb.1)
 exact G
def bsO:Op->Bool
 |.buildSlice .. =>true
 |_=>false
def qG(P:Program)(ops:Array Oper)(s:St)(o:Oper)(K:AV->Prop):Prop:=
 match o.guard with
 |none=>qO P s o.op K
 |some (j,I)=>match q1y ops j with
  |some d=>match z2w (q0x s.env d) I with
   |some g=>if zk9 o.op=true then (g=true->qO P s o.op fun r=>K (mkG true r))/\(g=false->K (mkG false .bk))else match qt2 P s.hp (x8 s.env) o.op with
    |some (c,r)=>(g=true->c)/\K (mkG g r)
    |none=>if bsO o.op=true then qX P s o.op g fun r=>K (mkG g r)else (g=true->qO P s o.op fun r=>K (mkG true r))/\(g=false->K (mkG false .bk))
   |none=>False
  |none=>False
  where
 qO (P:Program) (s:St) (op:Op) (K:AV->Prop):Prop:=match qt2 P s.hp (x8 s.env) op with
  |some (c,r)=>c/\K r
  |none=>qX P s op true K
 qX (P:Program) (s:St) (op:Op) (g:Bool) (K:AV->Prop):Prop:=match op with
  |.call c=>match c.callee,c.args.toList,c.argTypes.toList with
   |.value W,args,_=>match (x8 s.env W).st with
    |.clo f G=>∃r,(g=true->(True/\(x8 s.env W).aU/\bm (args.map (x8 s.env))/\q0j ((args.map fun x=>(x8 s.env x).st)++G)=true)/\aZ P f ((args.map fun x=>(x8 s.env x).st)++G) 0 r)/\K r
    |_=>False
   |_,_,_=>False
  |.buildSlice t n parts=>match aO P t,z0s (parts.toList.map fun p=>(x8 s.env p.2).st)with
   |some e,some T=>match q1w P e with
    |some zs=>(g=true->q19 P e=true/\zs.length=szT P e/\0<szT P e/\n*szT P e<=16777216/\qg9 parts.toList 0=true/\parts.toList.length=n/\bm (parts.toList.map fun p=>x8 s.env p.2)/\qv8 (szT P e) T=true/\
     T.flatten.all qg3=true/\T.flatten.all qf9=true)/\K (.sl (szT P e) (T.map (q1v (z2l s.hp P e))))
    |none=>False
   |_,_=>False
  |.makeSlice t l c=>match (x8 s.env l).st,(x8 s.env c).st,aO P t with
   |.v (.int _ n),.v (.int _ m),some e=>match q1w P e with
    |some zs=>(g=true->(x8 s.env l).aU/\(x8 s.env c).aU/\m=n/\q19 P e=true/\zs.length=szT P e/\0<szT P e/\0<q2h P e/\0<=n/\n*q2h P e<=140737488355328/\zs.all (·.oneCell')=true)/\
     K (.sl (szT P e) (Xb n.toNat (q1v (z2l s.hp P e) (zs.map AV.v))))
    |none=>False
   |_,_,_=>False
  |_=>False
def vcQ(P:Program)(ops:Array Oper):List Oper->St->(St->Prop)->Prop
 |[],s,K=>K s
 |o::r,s,K=>qG P ops s o fun x=>vcQ P ops r (s.put o.dst x) K
theorem j2e(env:List (Nat×AV)):evF (q0x env)=x8 env:=by
 funext x
 cases x<;>rfl
theorem j4h{s:St}{op:Op}{g:Bool}{K:AV->Prop}(I:qt2 P s.hp (x8 s.env) op=none)(h:qG.qX P s op g K):∃r,(g=true->QV P s.hp s.nx (x8 s.env) op r)/\K r:=by
 unfold qG.qX at h
 split at h
 .
  split at h
  .
   split at h
   .
    rename_i f Z a6
    obtain⟨r,h1,h2⟩:=h;refine⟨r,fun G=>?_,h2⟩;unfold QV;rw[I];simp only[*];simp
   exact h.elim
  exact h.elim
 .
  split at h
  .
   split at h
   .
    rename_i T hr _ zs W
    refine⟨_,fun G=>?_,h.2⟩;unfold QV;rw[I];simp only[T,hr,W];exact⟨h.1 G,_,rfl⟩
   exact h.elim
  exact h.elim
 .
  split at h
  .
   rename_i hl hc T
   split at h
   .
    rename_i zs W
    refine⟨_,fun G=>?_,h.2⟩;unfold QV;rw[I];simp only[hl,hc,T,W];exact⟨h.1 G,_,rfl⟩
   exact h.elim
  exact h.elim
 exact h.elim
theorem zr7{s:St}{op:Op}{K:AV->Prop}(h:qG.qO P s op K):∃r,QV P s.hp s.nx (x8 s.env) op r/\K r:=by
 unfold qG.qO at h
 split at h
 .
  rename_i c r G
  exact⟨r,by unfold QV;rw[G];exact⟨h.1,rfl⟩,h.2⟩
 rename_i G
 obtain⟨r,I,T⟩:=j4h G h;exact⟨r,I rfl,T⟩
theorem j4i{ops:Array Oper}{s:St}{o:Oper}{K:AV->Prop}(h:qG P ops s o K):∃r,QG P s.hp s.nx ops (q0x s.env) o r/\K r:=by
 unfold qG at h
 split at h
 .
  rename_i T
  unfold QG;rw[T];simp only[j2e];exact zr7 h
 rename_i j aj T
 unfold QG;rw[T];simp only[j2e]
 split at h
 .
  rename_i d hd
  try rw[hd]
  try simp only
  split at h
  .
   rename_i g W
   try rw[W]
   try simp only
   split at h
   .
    cases g with
    |true=>
     obtain⟨r,G,I⟩:=zr7 (h.1 rfl);exact⟨mkG true r,⟨r,fun _=>G,rfl⟩,I⟩
    |false=>exact⟨mkG false .bk,⟨.bk,(fun Z=>by cases Z),rfl⟩,h.2 rfl⟩
   split at h
   .
    rename_i c r hf
    exact⟨mkG g r,⟨r,fun a6=>by unfold QV;rw[hf];exact⟨h.1 a6,rfl⟩,rfl⟩,h.2⟩
   rename_i hf
   split at h
   . obtain⟨r,G,I⟩:=j4h hf h;exact⟨mkG g r,⟨r,G,rfl⟩,I⟩
   cases g with
   |true=>
    obtain⟨r,G,I⟩:=zr7 (h.1 rfl);exact⟨mkG true r,⟨r,fun _=>G,rfl⟩,I⟩
   |false=>exact⟨mkG false .bk,⟨.bk,(fun Z=>by cases Z),rfl⟩,h.2 rfl⟩
  exact h.elim
 exact h.elim
def q1s(ops:List Oper)(r:Nat->AV)(k:Nat)(s:St):St:=match ops with
 |[]=>s
 |o::G=>q1s G r (k+1) (s.put o.dst (r k))
theorem j0i{ops:Array Oper}{K:St->Prop}:∀(l:List Oper) (s:St) (k:Nat),vcQ P ops l s K->∃r:Nat->AV,(∀j o,l[j]?=some o->QG P s.hp s.nx ops (q0x (q1s (l.take j) r k s).env) o (r (k+j)))/\K (q1s l r k s)
 |[],s,k,h=>⟨fun _=> .bk,by simp,h⟩
 |o::l,s,k,h=>by
  obtain⟨x,h1,h2⟩:=j4i h;obtain⟨r,h3,h4⟩:=j0i l (s.put o.dst x) (k+1) h2;have I:(s.put o.dst x).hp=s.hp/\(s.put o.dst x).nx=s.nx:=by cases o.dst<;>exact⟨rfl,rfl⟩
  let G:Nat->AV:=fun i=>if i=k then x else r i
  have T:∀(l:List Oper) (m:Nat) (s:St),k<m->q1s l G m s=q1s l r m s:=by
   intro l
   induction l with
   |nil=>intro m s _;rfl
   |cons o' l ih=>
    intro m s hm;simp only[q1s];have:G m=r m:=by simp only[G];rw[if_neg (by omega)]
    rw[this,ih (m+1) _ (by omega)]
  have W:G k=x:=by simp[G]
  refine⟨G,?_,?_⟩
  .
   intro j o' Z
   cases j with
   |zero=>
    simp only[List.getElem?_cons_zero,Xa]at Z;subst Z;simp only[Yv,q1s,Xm,W];exact h1
   |succ j=>
    have:=h3 j o' (by simpa using Z);simp only[Za,q1s,W,T _ (k+1) _ (X7 k)];rw[I.1,I.2]at this;have a6:G (k+(j+1))=r (k+1+j):=by simp only[G];rw[if_neg (by omega),show k+(j+1)=k+1+j by omega]
    rw[a6];exact this
  simp only[q1s,W,T _ (k+1) _ (X7 k)];exact h4
theorem z8v(r:Nat->AV):∀(l:List Oper) (k:Nat) (s:St),(q1s l r k s).hp=s.hp/\(q1s l r k s).nx=s.nx/\(q1s l r k s).nt=s.nt/\(q1s l r k s).nb=s.nb
 |[],k,s=>⟨rfl,rfl,rfl,rfl⟩
 |o::l,k,s=>by
  obtain⟨G,I,T,W⟩:=z8v r l (k+1) (s.put o.dst (r k));simp only[q1s,G,I,T,W]
  cases o.dst<;>exact⟨rfl,rfl,rfl,rfl⟩
theorem zm1(r:Nat->AV):∀(l:List Oper) (o:Oper) (k:Nat) (s:St),q1s (l++[o]) r k s=(q1s l r k s).put o.dst (r (k+l.length))
 |[],o,k,s=>by simp[q1s]
 |o'::l,o,k,s=>by
  simp only[List.cons_append,q1s,zm1 r l o (k+1),Zg];rw[show k+1+l.length=k+(l.length+1) by omega]
theorem qs3{ops:Array Oper}(r:Nat->AV)(s:St):∀(n:Nat),n<=ops.size->bp ops r (q0x s.env) (· <n) (q0x (q1s (ops.toList.take n) r 0 s).env)
 |0,_=>fun t=> .inr ⟨fun i _ hL=>absurd hL (X0 _),rfl⟩
 |n+1,hn=>by
  have ih:=qs3 (ops:=ops) r s n (by omega);have G:n<ops.size:=by omega
  have I:ops.toList.take (n+1)=ops.toList.take n++[ops[n]]:=by
   rw[List.take_succ_eq_append_getElem (by simpa using G)];simp
  have hd:q1y ops n=ops[n].dst:=by simp[q1y,G]
  have T:=(ih.step G (fun k hk _ hL=>by omega)).iff (L':=(· <n+1)) (fun i _=>by constructor<;>intro h<;>omega);have W:(ops.toList.take n).length=n:=by rw[Xh];simp;omega
  rw[I,zm1,X5,W];have Z:q0x ((q1s (ops.toList.take n) r 0 s).put ops[n].dst (r n)).env=q5u (q0x (q1s (ops.toList.take n) r 0 s).env) (q1y ops n) (r n):=by
   rw[hd]
   funext t
   cases ops[n].dst<;>simp[St.put,q5u,q0x]
  rw[Z];exact T
end
end
section
open Go Go.RowKit
theorem lits:((2:Nat):Int)=2/\((3:Nat):Int)=3/\((4:Nat):Int)=4/\((5:Nat):Int)=5/\((6:Nat):Int)=6/\((7:Nat):Int)=7/\((8:Nat):Int)=8/\((9:Nat):Int)=9/\((10:Nat):Int)=10/\((11:Nat):Int)=11/\((12:Nat):Int)=12/\((13:Nat):Int)=13/\((14:Nat):Int)=14/\((15:Nat):Int)=15/\((16:Nat):Int)=16/\((17:Nat):Int)=17/\((18:Nat):Int)=18/\((19:Nat):Int)=19/\((20:Nat):Int)=20:=⟨rfl,rfl,rfl,rfl,rfl,rfl,rfl,rfl,rfl,rfl,rfl,rfl,rfl,rfl,rfl,rfl,rfl,rfl,rfl⟩
theorem j60(c y:Bool):(c||(!c&&y))=(c||y):=by cases c<;>simp
theorem zm5:((1:Nat)=0)=False:=by simp
theorem j6b(a b:Nat):(a+b<a)=False:=by simp
theorem j3e(n:Int):IntKind.i64.wrap n=if n%18446744073709551616 ≥ 9223372036854775808 then n%18446744073709551616-18446744073709551616 else n%18446744073709551616:=by
 simp[IntKind.wrap,IntKind.signed,IntKind.bits]
theorem wrap_i64(n:Int)(h:-9223372036854775808<=n/\n<9223372036854775808):IntKind.i64.wrap n=n:=by
 rw[j3e];split<;>omega
def k03(b:List UInt8):List (List AV):=b.map fun x=>[.v (.int .u8 x.toNat)]
theorem jh9(b:List UInt8):(k03 b).length=b.length:=by simp[k03]
theorem q8q{nx:Nat}{s:St}{r G:AV}(hb:s.nb=nx)(h:be (q82 s.nb []) s.hp (fun _=>True) s.nb r G):z4u s r (zq4 G nx):=by
 subst hb;refine⟨[],[],s.nb,G,?_,?_,rfl,rfl,rfl⟩
 . exact⟨rfl,rfl,Xc _,trivial,trivial,trivial⟩
 exact h
end
end Go.Proofs.YtomicnbiniapfaaGreat

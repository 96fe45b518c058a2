/-
  Verification conditions for regions, calls, loops and draws, sound for the model; numbers. No condition beyond those that each theorem names.
-/
import Derived.Test.YtdcdfkdhomekeaaGreatLibA
import Derived.Room.Entries
import Derived.Lib.SliceRun
set_option linter.unusedSimpArgs false
set_option linter.unusedVariables false
set_option linter.unusedSectionVars false
open Option renaming some.injEq->Xa,map_eq_some_iff->Xg,bind_eq_some_iff->Xq,isSome_iff_exists->Xw,bind_some->Zg
open List renaming replicate->Xb,mem_append->Xe,length_take->Xh,mem_map_of_mem->Xj,map_congr_left->Xk,eq_of_mem_replicate->Xl,eq_nil_of_length_eq_zero->Xp,length_append->Xr,mem_map->Xs,getElem?_append_right->Xt,flatten_cons->Xu,mem_of_mem_take->Xv,length_map->Xy,size_toArray->X3,all_eq_true->X7,map_replicate->X9,length_drop->Yb,length_nil->Yc,mem_cons_of_mem->Yd,cons.injEq->Ye,flatten_append->Yh,mem_cons_self->Yi,getElem?_take->Yj,map_cons->Yl,getD_eq_getElem?_getD->Ym,getElem?_append_left->Yo,mem_flatten->Yp,append_nil->Yr,map_append->Ys,take_zero->Yu,length_replicate->Yw,take_append_drop->Yx,mem_append_right->Yz,mem_of_mem_drop->Y0,mem_append_left->Y4,mem_cons->Y5,replicate_succ->Y7,take_succ_cons->Y9,getElem?_drop->Za,nodup_append->Zc,length_cons->Zf,range->Zi
open Nat renaming le_refl->Xc,mul_le_mul_right->Xi,add_zero->Xm,add_mul->Xo,min_eq_right->Xx,not_lt_zero->Xz,min_eq_left->X0,zero_add->X4,lt_succ_self->X6,lt_of_lt_of_le->Yk,lt_trichotomy->Yn,lt_or_ge->Yq,le_succ->Yt,le_total->Zb,one_mul->Ze
open Bool renaming and_eq_true->Xd
open Prod renaming mk.injEq->Xf
open Array renaming ext'->Xn,getD_eq_getD_getElem?->X5,getElem?_eq_some_iff->X8,empty_append->Ya,mem_toList_iff->Yf,getElem?_modify->Yv,toArray_toList->Y3,length_toList->Y6,range->Zd,mem_append->Zh
open Int renaming mul_le_mul_of_nonneg_left->Yg,toNat_of_nonneg->Y8
open Classical renaming choose_spec->Yy
namespace Go.Proofs.YtdcdfkdhomekeaaGreat
section
open Go Go.RowKit
def qx9:List AV->Option (List (List AV))
 |[]=>some []
 |x::xs=>match qc8 x,qx9 xs with
  |some r,some a=>some (r::a)
  |_,_=>none
def qa1:List (Nat×Operand)->Nat->Bool
 |[],_=>true
 |(i,_)::r,k=>i==k&&qa1 r (k+1)
def qp6(n:Nat):List (List AV)->Bool
 |[]=>true
 |r::a=>r.length==n&&qp6 n a
theorem z1z{n:Nat}:∀{a:List (List AV)},qp6 n a=true->∀r∈a,r.length=n
 |[],_,_,h=>by simp at h
 |r::a,h,x,b=>by
  simp only[qp6,Xd,beq_iff_eq]at h;rcases Y5.1 b with rfl|b
  . exact h.1
  exact z1z h.2 x b
section
variable {P:Program} {C:Ctx P} {s:St} {a:Act} {w:World} {β:aF} {nx:Nat} {ow:Nat->Prop}
theorem j0c(size:Nat){ρ:Operand->Value}:∀(b:List (Nat×Operand)) (k:Nat) (cells:Array Value),qa1 b k=true->(∀p∈b,(ρ p.2).cells.size=size)->(k+b.length)*size=cells.size->
 Instr.fill (λi=>some (i*size,size)) cells (b.map λp=>(p.1,ρ p.2))=some ⟨cells.toList.take (k*size)++(b.map λp=>(ρ p.2).cells.toList).flatten⟩
 |[],k,cells,_,_,h=>by
  simp only[Yc,Xm]at h;simp only[List.map_nil,Instr.fill,List.flatten_nil,Yr];rw[h]
  congr 1
  apply Xn;rw[List.take_of_length_le (by simp)]
 |(i,x)::b,k,cells,d,e,h=>by
  simp only[qa1,Xd,beq_iff_eq]at d;obtain⟨rfl,d⟩:=d;have c:=e _ Yi;simp only at c;simp only[Zf]at h;have j:i*size+size<=cells.size:=by
   rw[<-h,show i+(b.length+1)=(i+1)+b.length by omega,Xo,Xo];omega
  simp only[Yl];rw[zq9 rfl c (by rw[c];exact j)];have f:(cells.toList.take (i*size)).length=i*size:=by rw[Xh];simp;omega
  have g:(ρ x).cells.toList.length=size:=by simpa using c
  rw[j0c size b (i+1) _ d (λp hp=>e p (Yd _ hp)) (by
   simp only[X3,Xr,f,g,Yb,Y6,c];rw[show i+1+b.length=i+(b.length+1) by omega];omega)]
  congr 2
  rw[show (i+1)*size=(cells.toList.take (i*size)++(ρ x).cells.toList).length by rw[Xr,f,g,Xo];omega];rw[List.take_left']
  . simp
  simp
theorem z0w{ρ:Operand->Value}{ev:Operand->AV}(d:∀x,rep w β nx ow (ev x) (ρ x)):∀{b:List (Nat×Operand)} {c:List (List AV)},bW (b.map λp=>ev p.2)->qx9 (b.map λp=>(ev p.2).st)=some c->
 c.length=b.length/\y8 w β nx ow c.flatten ((b.map λp=>(ρ p.2).cells.toList).flatten)/\∀n,qp6 n c=true->∀p∈b,(ρ p.2).cells.size=n
 |[],c,_,h=>by
  simp only[List.map_nil,qx9,Xa]at h;subst h;simp[y8]
 |p::b,c,e,h=>by
  simp only[Yl,bW]at e;simp only[Yl,qx9]at h
  split at h
  .
   rename_i r k l m
   simp only[Xa]at h;subst h;obtain⟨i1,i2,i3⟩:=z0w d e.2 m;have g:=q9k l (q1n (d p.2) e.1);refine⟨by simp[i1],by simp only[Xu,Yl];exact q5x g i2,?_⟩;intro n j q f;simp only[qp6,Xd,beq_iff_eq]at j;rcases Y5.1 f with rfl|f
   . have:=q1t g;simp only[Y6]at this;omega
   exact i3 n j.2 q f
  cases h
theorem zw9{o:Oper}{t e:TypeId}{n:Nat}{parts:Array (Nat×Operand)}{zs:List Value}(B:o.op=.buildSlice t n parts)
 (y:aK P t=some e)(D:q1b P e=true)(f:q1s P e=some zs)(A:0<szT P e)(hb:n*szT P e<=16777216)(k:qa1 parts.toList 0=true)(g:parts.toList.length=n)
 (l:∀p∈parts.toList,(a.eval p.2).cells.size=szT P e):(execOp a.eval o).run P w=.ok (.value (.slice (some ⟨w.heap.size,0,none⟩) n n)) (w.alloc (.cells ⟨(parts.toList.map λp=>(a.eval p.2).cells.toList).flatten⟩ e)):=by
 obtain⟨i,hi,d,E⟩:=q8z D;unfold q1s at f;simp only[Xg,Xq]at f;obtain⟨z,⟨I,hi',f⟩,rfl⟩:=f;rw[hi]at hi';simp only[Xa]at hi';subst hi';have b:=j0c (ρ:=a.eval) (szT P e) parts.toList 0 ((Zd (n*szT P e)).map (z.cells[· %z.cells.size]!)) k l (by simp[<-g]);simp only[Nat.zero_mul,Yu,List.nil_append]at b;unfold execOp;simp only[B];have G:¬(16777216<n*i.size):=by rw[d];omega
 have c:(parts.map λ(i,x)=>(i,a.eval x)).toList=parts.toList.map λp=>(p.1,a.eval p.2):=by simp
 by_cases H:n=0
 . subst H;have m:parts.toList=[]:=Xp g;have q:(Zd 0:Array Nat)=#[]:=rfl;simp[Instr.buildSlice,run_underlying (q0l y),sizeOf,typeInfo,hi,m,Instr.fill,newRow,q]
 have u:¬(n=0\/i.size=0):=by omega
 simp only[Instr.buildSlice,Sem.run_bind,run_underlying (q0l y),Result.andThen_ok,sizeOf,typeInfo,run_program,hi,Sem.run_pure,Sem.run_ite,c];rw[if_neg (by omega)];have j:¬(n*i.size=0):=by simpa [Nat.mul_eq_zero]using u
 rw[if_neg j];simp only[zeroValue,typeInfo,Sem.run_bind,run_program,hi,Result.andThen_ok,f,Sem.run_pure];rw[d,b];simp[newRow]
theorem zr6(h:Rel C s a w β){o:Oper}{t e:TypeId}{n:Nat}{parts:Array (Nat×Operand)}{b:List (List AV)}{ns:List (Option Nat)}{zs:List Value}{K:St->Prop}{Q:Exit->Act->World->Prop}(O:o.op=.buildSlice t n parts)
 (R:aK P t=some e)(M:q1b P e=true)(k:q1s P e=some zs)(S:zs.length=szT P e)(d:0<szT P e)(hb:n*szT P e<=16777216)(A:qa1 parts.toList 0=true)(f:parts.toList.length=n)
 (T:bW (parts.toList.map λp=>y9 s.env p.2))(U:qx9 (parts.toList.map λp=>(y9 s.env p.2).st)=some b)(B:qp6 (szT P e) b=true)(V:b.flatten.all q9t=true)(W:qy4 s.hp b.flatten)
 (hp:(b.flatten.map (frz s.hp)).all q9p=true)(hd:dok s.nt o.dst=true)
 (X:K (({s with hp:=(s.nx,.arr (szT P e) ((b.map (·.map (frz s.hp))).map (q21 ns)))::q6d (q80 b.flatten) s.hp,nx:=s.nx+1}:St).put o.dst (.osl s.nx (szT P e) 0 n))):o.wp P a w (RK C K) Q:=by
 obtain⟨g1,g2,g3⟩:=z0w (λx=>h.ev x) T U;have D:=k;obtain⟨i,hi,N,Y⟩:=q8z M;unfold q1s at k;simp only[Xg,Xq]at k;obtain⟨z,⟨i',hi',k⟩,rfl⟩:=k;rw[hi]at hi';simp only[Xa]at hi';subst hi';have g:((parts.toList.map λp=>(a.eval p.2).cells.toList).flatten).length=n*szT P e:=by
  rw[<-q1t g2,qg7 (z1z B),g1,f]
 have l:=zw9 (w:=w) O R M D d hb A f (g3 _ B);unfold Oper.wp;rw[l];have E:=z8i h.hp (q8y (ids:=q80 b.flatten)) (λj G o' H=>(z10.1 H).2 G) W g2;have I:=qd0 hp E;have m:=q7s V g2;have Z:=h.sub (q8y (ids:=q80 b.flatten));have h2:=Z.alloc (cs:=(parts.toList.map λp=>(a.eval p.2).cells.toList).flatten) (e:=e) (o:=.arr (szT P e) ((b.map (·.map (frz s.hp))).map (q21 ns))) (c:=n) (λw' ow' hA q=>by
  refine .inr ⟨w.heap.size,n,_,e,q1m _ _ _,q,?_,?_,?_,?_⟩
  . simp only[X3];exact g
  . rw[Xy,Xy,g1,f];exact Xc _
  . have:n<=n*szT P e:=Nat.le_mul_of_pos_right _ d;simp only[maxLen];omega
  refine q63 (us:=(parts.toList.map λp=>(a.eval p.2).cells.toList).flatten) ?_ ?_ m ?_
  . intro r J;obtain⟨r2,L,rfl⟩:=Xs.1 J;obtain⟨r',y,rfl⟩:=Xs.1 L;rw[qd2,Xy];exact z1z B r' y
  . refine q9z ?_;rw[<-List.map_flatten];exact q1x hA 0 0 (Xc _) (λ_ hi=>absurd hi (Xz _)) _ _ I
  intro j u G;rw[X4,cell_of_row _ w.heap.size j _ e (0,0) q]
  simpa using G)
 refine⟨_,_,h2.put ?_ hd,X⟩;simp only[rep];exact⟨X6 _,.inr ⟨w.heap.size,n,n,⟨w.heap.size,0,none⟩,q1m _ _ _,rfl,Xc _,by omega,.inl (by simp)⟩⟩
theorem zj8(h:Rel C s a w β){o:Oper}{t e:TypeId}{n:Nat}{parts:Array (Nat×Operand)}{d:List (List AV)}{zs:List Value}{K:St->Prop}{Q:Exit->Act->World->Prop}(k:o.op=.buildSlice t n parts)
 (l:aK P t=some e)(m:q1b P e=true)(q:q1s P e=some zs)(u:szT P e=1)(hb:n<=16777216)(f:qa1 parts.toList 0=true)(g:parts.toList.length=n)
 (y:bW (parts.toList.map λp=>y9 s.env p.2))(z:qx9 (parts.toList.map λp=>(y9 s.env p.2).st)=some d)(A:qp6 (szT P e) d=true)(hd:dok s.nt o.dst=true)
 (B:K (({s with hp:=(s.nx,.box d.flatten)::s.hp,nx:=s.nx+1}:St).put o.dst (.bsl s.nx 0 n))):o.wp P a w (RK C K) Q:=by
 obtain⟨g1,g2,g3⟩:=z0w (λx=>h.ev x) y z;have b:=zw9 (w:=w) k l m q (by omega) (by rw[u];omega) f g (g3 _ A);unfold Oper.wp;rw[b];have D:=h.alloc (cs:=(parts.toList.map λp=>(a.eval p.2).cells.toList).flatten) (e:=e) (o:=.box d.flatten) (c:=n) (λw' ow' E j=>
  ⟨w.heap.size,n,_,e,q1m _ _ _,j,q1x E _ _ (Yt _) (λ_ hi=>q2x _ _ _ _ hi) _ _ g2⟩)
 refine⟨_,_,D.put ?_ hd,B⟩;simp only[rep];exact⟨X6 _,w.heap.size,n,n,⟨w.heap.size,0,none⟩,q1m _ _ _,rfl,Xc _,.inl rfl⟩
end
end
section
open Go Go.RowKit
section
variable {P:Program} {C:Ctx P} {s:St} {a:Act} {w:World} {β:aF} {nx:Nat} {ow:Nat->Prop}
theorem z7z(zs:List Value)(c:0<zs.length):∀n:Nat,(Zi (n*zs.length)).map (λi=>(⟨zs⟩:Array Value)[i%zs.length]!)=(Xb n zs).flatten
 |0=>by simp
 |n+1=>by
  rw[List.replicate_succ',Yh,Xo,Ze,List.range_add,Ys,z7z zs c n]
  congr 1
  rw[List.map_map];apply List.ext_getElem
  . simp
  intro i b d;simp only[Xy,List.length_range]at b;simp[Nat.mul_add_mod_self_right,Nat.mod_eq_of_lt b,b]
theorem z1u(zs:List Value)(w:World)(β:aF)(nx:Nat)(ow:Nat->Prop):∀n:Nat,y8 w β nx ow (Xb n (zs.map AV.v)).flatten (Xb n zs).flatten
 |0=>by simp[y8]
 |n+1=>by
  rw[Y7,Y7,Xu,Xu];exact q5x (qw4 w β nx ow zs) (z1u zs w β nx ow n)
theorem wrap_small(n:Int)(b:0<=n)(c:n<9223372036854775808):IntKind.i64.wrap n=n:=by
 simp[IntKind.wrap,IntKind.signed,IntKind.bits];split<;>omega
theorem j5y{o:Oper}{t e:TypeId}{l c:Operand}{k k':IntKind}{n:Int}{zs:List Value}(L:o.op=.makeSlice t l c)
 (g:a.eval l=.int k n)(j:a.eval c=.int k' n)(I:aK P t=some e)(M:q1b P e=true)(m:q1s P e=some zs)(B:zs.length=szT P e)
 (p:0<szT P e)(N:0<q26 P e)(J:0<=n)(hb:n*q26 P e<=140737488355328):
 (execOp a.eval o).run P w=.ok (.value (.slice (some ⟨w.heap.size,0,none⟩) n.toNat n.toNat)) (w.alloc (.cells ⟨(Xb n.toNat zs).flatten⟩ e)):=by
 obtain⟨i,hi,f,q⟩:=q8z M;unfold q1s at m;simp only[Xg,Xq]at m;obtain⟨z,⟨O,hi',m⟩,rfl⟩:=m;rw[hi]at hi';simp only[Xa]at hi';subst hi';have D:n<=n*q26 P e:=by
  have:n*1<=n*(q26 P e:Int):=Yg (by omega) J;omega
 have K:=wrap_small n J (by omega);have u:z.cells.size=szT P e:=by rw[<-B];simp
 have b:=z7z z.cells.toList (by simpa [u]using p) n.toNat;unfold execOp;simp only[L];have E:(q26 P e:Int)*n<=140737488355328:=by rw[Int.mul_comm];exact hb
 have G:¬n<0:=by omega
 have y:¬(q26 P e:Int)*n>281474976710656:=by omega
 have d:(Zd (n.toNat*szT P e)).map (λx=>z.cells[x%z.cells.size]!)=⟨(Xb n.toNat z.cells.toList).flatten⟩:=by
  apply Xn;rw[<-b];simp[u]
 by_cases A:n.toNat*szT P e=0
 .
  have Q:n.toNat=0:=by
   rcases Nat.mul_eq_zero.1 A with h|h
   . exact h
   omega
  have H:n=0:=by omega
  subst H;simp[Instr.makeSlice,run_underlying (q0l I),g,j,asInt,asIntOf,typeInfo,hi,q,K,Room.run_askRoom,sizeOf,f,newRow]
  congr 2
  apply Xn;simp
 clear b hb D E;simp[Instr.makeSlice,run_underlying (q0l I),g,j,asInt,asIntOf,typeInfo,hi,q,K,Room.run_askRoom,sizeOf,f,newRow,G,y,A,zeroValue,m,d]
theorem zu6(h:Rel C s a w β){o:Oper}{t e:TypeId}{l c:Operand}{k k':IntKind}{n:Int}{ns:List (Option Nat)}{zs:List Value}{K:St->Prop}{Q:Exit->Act->World->Prop}(L:o.op=.makeSlice t l c)
 (M:(y9 s.env l).st=.v (.int k n))(N:(y9 s.env c).st=.v (.int k' n))(B:(y9 s.env l).aZ)(D:(y9 s.env c).aZ)(O:aK P t=some e)(H:q1b P e=true)(f:q1s P e=some zs)(g:zs.length=szT P e)
 (m:0<szT P e)(E:0<q26 P e)(I:0<=n)(hb:n*q26 P e<=140737488355328)(R:zs.all (·.oneCell')=true)(hd:dok s.nt o.dst=true)
 (S:K (({s with hp:=(s.nx,.arr (szT P e) (Xb n.toNat (q21 ns (zs.map AV.v))))::s.hp,nx:=s.nx+1}:St).put o.dst (.osl s.nx (szT P e) 0 n.toNat))):o.wp P a w (RK C K) Q:=by
 obtain⟨i,hi,J,T⟩:=q8z H;have b:=q2d h B;have d:=q2d h D;rw[M]at b;rw[N]at d;simp only[rep]at b d;have p:=j5y (w:=w) (a:=a) L b d O H f g m E I hb;unfold q1s at f;simp only[Xg,Xq]at f;obtain⟨z,⟨Z,hi',f⟩,rfl⟩:=f;rw[hi]at hi';simp only[Xa]at hi';subst hi';have U:n<=n*q26 P e:=by
  have:n*1<=n*(q26 P e:Int):=Yg (by omega) I;omega
 have q:z.cells.size=szT P e:=by rw[<-g];simp
 unfold Oper.wp;rw[p];have V:=h.alloc (cs:=(Xb n.toNat z.cells.toList).flatten) (e:=e) (o:=.arr (szT P e) (Xb n.toNat (q21 ns (z.cells.toList.map AV.v)))) (c:=n.toNat) (λw' ow' hA y=>by
  refine .inr ⟨w.heap.size,n.toNat,_,e,q1m _ _ _,y,?_,?_,?_,?_⟩
  . simp[q]
  . simp
  . simp only[maxLen];omega
  refine q63 (us:=(Xb n.toNat z.cells.toList).flatten) ?_ (by rw[<-X9];exact q9z (z1u _ _ _ _ _ _)) ?_ ?_
  . intro r W;rw[Xl W,qd2];simp[q]
  . intro u X;obtain⟨l',G,A⟩:=Yp.1 X;rw[Xl G]at A;exact X7.1 R u A
  intro j u Y;rw[X4,cell_of_row _ w.heap.size j _ e (0,0) y]
  simpa using Y)
 refine⟨_,_,V.put ?_ hd,S⟩;simp only[rep];exact⟨X6 _,.inr ⟨w.heap.size,n.toNat,n.toNat,⟨w.heap.size,0,none⟩,q1m _ _ _,rfl,Xc _,by omega,.inl (by simp)⟩⟩
theorem j5e(h:Rel C s a w β){o:Oper}{t k:TypeId}{x y:Operand}{sz:Nat}{xs:List (List AV)}{K:St->Prop}{Q:Exit->Act->World->Prop}(l:o.op=.binOp .eql t x y k)
 (m:(y9 s.env x).st=.sl sz xs)(n:(y9 s.env y).st=.v (.slice none 0 0))(g:(y9 s.env x).aZ)(j:(y9 s.env y).aZ)(p:(aK P t).isSome=true)(hd:dok s.nt o.dst=true)
 (q:∀b:Bool,(xs≠[]->b=false)->K (s.put o.dst (.v (.bool b)))):o.wp P a w (RK C K) Q:=by
 obtain⟨e,u⟩:=Xw.1 p;have c:=q2d h g;have f:=q2d h j;rw[m]at c;rw[n]at f;simp only[rep]at c f;have d:∃b:Bool,(xs≠[]->b=false)/\(execOp a.eval o).run P w=.ok (.value (.bool b)) w:=by
  have key:∀ad len cap,a.eval x=.slice ad len cap->(execOp a.eval o).run P w=.ok (.value (.bool ad.isNone)) w:=λad len cap z=>by
   unfold execOp;simp only[l,z,f,Sem.run_bind];have A:(eqGuard .eql t x y (.slice ad len cap) (.slice none 0 0)).run P w=.ok () w:=rfl;rw[A];simp only[Result.andThen_ok,Lib.run_eql_slice_nil w t e ad len cap 0 0 (q0l u),Sem.run_pure]
  rcases c with⟨rfl,ad,cap,c⟩|⟨b,o',cap,c,_⟩
  . exact⟨ad.isNone,(λh=>absurd rfl h),key _ _ _ c⟩
  exact⟨false,(λ_=>rfl),key _ _ _ c⟩
 obtain⟨b,hb,d⟩:=d;unfold Oper.wp;rw[d];exact⟨_,_,h.put (by simp only[rep]) hd,q b hb⟩
theorem j80(h:Rel C s a w β){o:Oper}{t e:TypeId}{x:Operand}{id:Nat}{xs:List (List AV)}{K:St->Prop}{Q:Exit->Act->World->Prop}(ho:o.op=.convert t t x)
 (R:(y9 s.env x).st=.osl id 1 0 xs.length)(S:(y9 s.env x).aZ)(hg:q0i s.hp id=some (.arr 1 xs))(he:aK P t=some e)(hk:qt6 P e=some .u8)(T:xs≠[])
 (hd:dok s.nt o.dst=true)(hK:K (({s with hp:=q4n s.hp id}:St).put o.dst (.sl 1 xs))):o.wp P a w (RK C K) Q:=by
 have z:=q2d h S;rw[R]at z;simp only[rep]at z;obtain⟨hid,z⟩:=z;have E:=q0k hg;have U:=h.hp.obj _ E;have H:xs.length≠0:=λn=>T (Xp n);rcases z with⟨_,_,I,_⟩|⟨b,c,cap,ad,hb,z,J,hC,k⟩
 . exact absurd I H
 rcases U with⟨I,_⟩|⟨b',c',cur,O,y,f,a6,ao,ar,B⟩
 . simp only at I;rw[hb]at I;cases I
 simp only at y;rw[hb]at y;simp only[Xa,Xf]at y;obtain⟨rfl,rfl⟩:=y;obtain rfl:ad=⟨b,0,none⟩:=by
  rcases k with k|k
  . simpa using k
  exact absurd rfl k.2
 have L:b<w.heap.size:=(X8.1 f).1
 let w':=w.freeze ⟨b,cur.size,none⟩ 1
 have M:w'.heap[b]?=some (.cells cur O (cur.size,cur.size+1)):=by
  simp only[w',World.freeze,Nat.one_ne_zero,if_false];rw[Yv];simp[f]
 have l:∀j,j≠b->w'.heap[j]?=w.heap[j]?:=λj G=>by
  simp only[w',World.freeze,Nat.one_ne_zero,if_false];rw[Yv,if_neg (λn=>G n.symm)]
 have g:w'.heap.size=w.heap.size:=by simp[w',World.freeze]
 have N:(execOp a.eval o).run P w=.ok (.value (.slice (some ⟨b,0,none⟩) xs.length cap)) w':=by
  unfold execOp;have V:w.shape? b=some (O,cur.size):=by unfold World.shape?;rw[f]
  simp only[ho,z];simp[convert,run_underlying (q0l he),run_underlying (qy2 hk),markStringish,V];rfl
 unfold Oper.wp;rw[N];have d:∀p,p∈q4n s.hp id->p∈s.hp/\p.1≠id:=λp hp=>z0h.1 hp;have W:¬own β (q4n s.hp id) C.A b:=by
  rintro (D|⟨p,hp,D⟩)
  . exact h.hp.av _ E b c hb D
  obtain⟨X,h3⟩:=d p hp
  exact h3 (h.hp.bD p X _ E b D (.inl ⟨c,hb⟩))
 have hA:b9 w w' (own β s.hp C.A) (own β (q4n s.hp id) C.A):=⟨by rw[g];exact Xc _,λj G _=>⟨l j (λn=>G (.inr (n▸q7p E hb))),λR=>G (j2m ca R)⟩⟩;have Y:=h.step (w':=w') (β':=β) (hp':=q4n s.hp id) (Xc _) (λ_ _=>rfl) (by rw[g];exact Xc _)
  (λj _ G=>l j (λn=>G (n▸q7p E hb))) (λj _ ⟨q,m,hc⟩=>⟨q,(d q m).1,hc⟩)
  {obj:=λp hp=>by
    obtain⟨D,X⟩:=d p hp;exact q48 hA (Xc _) (λ_ _=>rfl) (h.hp.lt p D) (λb1 Z=>l b1 (λn=>X (h.hp.bD p D _ E b1 Z (.inl ⟨c,by rw[n];exact hb⟩)))) (λ_=>rfl) (h.hp.obj p D)
   lt:=λp hp=>h.hp.lt p (d p hp).1
   nd:=h.hp.nd.sublist (ca.map _)
   inj:=λp hp q m=>h.hp.inj p (d p hp).1 q (d q m).1
   av:=λp hp=>h.hp.av p (d p hp).1
   i0:=λp hp=>h.hp.i0 p (d p hp).1
   ib:=λp hp b hb=>by
    obtain⟨i1,i2,i3,i4⟩:=h.hp.ib p (d p hp).1 b hb;exact⟨by rw[g];exact i1,i2,λq m=>i3 q (d q m).1,λq m=>i4 q (d q m).1⟩}
  (λp hp=> .inl (Xj (d p hp).1)) rfl rfl ⟨rfl,λ_=>Xc _⟩
 refine⟨_,_,Y.put ?_ hd,hK⟩;simp only[rep];refine .inr ⟨b,0,cap,rfl,J,W,by rw[g];exact L,q29 hA 1 b (λq u m=>?_) xs 0 B⟩;rw[cell_of_row w b q cur O (0,0) f]at m;rw[cell_of_row w' b q cur O _ M];exact m
end
end
section
open Go Go.RowKit
section
variable {P:Program} {C:Ctx P} {s:St} {a:Act} {w:World} {β:aF} {nx:Nat} {ow:Nat->Prop}
theorem z1t{t e:TypeId}(c:P.underlying t=some (.slice e))(d:q1b P e=true)(a:Option Addr)(len cap:Nat)(k k' b:IntKind)(l h m:Int)(c0:0<=l)(f:l<=h)(g:h<=m)(c3:m<=cap):
 (Instr.sliceAt t (.slice a len cap) (some (.int k l)) (some (.int k' h)) (some (.int b m))).run P w=.ok (.slice (if m.toNat=l.toNat then a else a.map (·.add (l.toNat*szT P e))) (h.toNat-l.toNat) (m.toNat-l.toNat)) w:=by
 have j:(h.toNat:Int)=h:=Y8 (by omega);have n:(m.toNat:Int)=m:=Y8 (by omega);have key:(Instr.sliceBounds true len cap (some (.int k l)) (some (.int k' h)) (some (.int b m))).run P w=.ok (l.toNat,h.toNat,m.toNat) w:=by
  simp[Instr.sliceBounds,run_sliceBound w b m cap _ (by omega) c3,run_sliceBound w k' h m.toNat _ (by omega) (by omega),run_sliceBound w k l h.toNat _ c0 (by omega)]
 simp only[Instr.sliceAt,Instr.slice,Sem.run_bind,run_underlying c,Result.andThen_ok,key,run_sizeOf d,Sem.run_pure]
def z5j(P:Program)(t:TypeId)(lo hi b:AV):AV->Option (Prop×AV)
 |.osl id sz off len=>match aK P t,lo,hi,b with
  |some e,.v (.int _ l),.v (.int _ h),.v (.int _ m)=>some (q1b P e=true/\szT P e=sz/\0<=l/\l<=h/\h<=m/\m<=len,.osl id sz (off+l.toNat) (h.toNat-l.toNat))
  |_,_,_,_=>none
 |.sl sz xs=>match aK P t,lo,hi,b with
  |some e,.v (.int _ l),.v (.int _ h),.v (.int _ m)=>some (q1b P e=true/\szT P e=sz/\0<=l/\l<=h/\h<=m/\m<=xs.length,.sl sz ((xs.take h.toNat).drop l.toNat))
  |_,_,_,_=>none
 |_=>none
theorem zr7{t:TypeId}{lo hi M a r:AV}{c:Prop}{u ul N O:Value}(h:z5j P t lo hi M a=some (c,r))(Q:c)(y:rep w β nx ow a u)(j:rep w β nx ow lo ul)(n:rep w β nx ow hi N)(p:rep w β nx ow M O):
 ∃z,(Instr.sliceAt t u (some ul) (some N) (some O)).run P w=.ok z w/\rep w β nx ow r z:=by
 unfold z5j at h
 split at h
 .
  rename_i id sz off len
  split at h
  .
   rename_i e k l k' g f m A
   simp only[Xa,Xf]at h;obtain⟨rfl,rfl⟩:=h;obtain⟨B,I,c3,D,E,J⟩:=Q;simp only[rep]at y j n p⊢;subst j n p;obtain⟨R,y⟩:=y;rcases y with⟨H,rfl,rfl,rfl⟩|⟨b,C,cap,a,H,rfl,S,T,q⟩
   .
    have V:m=0:=by simp only[Int.natCast_zero]at J;omega
    have W:g=0:=by omega
    have X:l=0:=by omega
    subst V W X;exact⟨_,z1t (q0l A) B none 0 0 k k' f 0 0 0 c3 D E (by simp),R,.inl ⟨H,by simp,by simp,by simp⟩⟩
   refine⟨_,z1t (q0l A) B (some a) len cap k k' f l g m c3 D E (by omega),R,.inr ⟨b,C,m.toNat-l.toNat,if m.toNat=l.toNat then a else a.add (l.toNat*szT P e),H,?_,by omega,by omega,?_⟩⟩
   . split<;>simp
   by_cases G:m.toNat=l.toNat
   .
    rw[if_pos G]
    by_cases K:l.toNat=0
    .
     rcases q with q|q
     . left;rw[q,K,Xm]
     right;omega
    right;omega
   rw[if_neg G];rcases q with rfl|q
   . left;rw[q7q,I];simp[Xo]
   omega
  cases h
 .
  rename_i sz xs
  split at h
  .
   rename_i e k l k' g f m A
   simp only[Xa,Xf]at h;obtain⟨rfl,rfl⟩:=h;obtain⟨B,I,c3,D,E,J⟩:=Q;simp only[rep]at y j n p⊢;subst j n p;rcases y with⟨rfl,a,cap,rfl⟩|⟨b,o,cap,rfl,H,S,T,q⟩
   . simp only[Yc,Int.natCast_zero]at J;refine⟨_,z1t (q0l A) B a 0 cap k k' f l g m c3 D E (by omega),.inl ⟨by simp,if m.toNat=l.toNat then a else a.map (·.add (l.toNat*szT P e)),m.toNat-l.toNat,?_⟩⟩;rw[show g.toNat-l.toNat=0 by omega]
   refine⟨_,z1t (q0l A) B _ xs.length cap k k' f l g m c3 D E (by omega),?_⟩;have d:((xs.take g.toNat).drop l.toNat).length=g.toNat-l.toNat:=by
    rw[Yb,Xh];omega
   by_cases L:(xs.take g.toNat).drop l.toNat=[]
   . refine .inl ⟨L,?_⟩;rw[<-d,L];exact⟨_,_,rfl⟩
   have U:0<g.toNat-l.toNat:=by
    rw[<-d];exact List.length_pos_iff.2 L
   refine .inr ⟨b,o+l.toNat*sz,m.toNat-l.toNat,?_,by rw[d];omega,S,T,qm6 (qe6 q _) _⟩;rw[if_neg (by omega),d,I];simp[q7q]
  cases h
 cases h
theorem j5d(h:Rel C s a w β){o:Oper}{t:TypeId}{x lo hi d:Operand}{c:Prop}{r:AV}{K:St->Prop}{Q:Exit->Act->World->Prop}(l:o.op=.slice t x (some lo) (some hi) (some d))
 (m:z5j P t (y9 s.env lo).st (y9 s.env hi).st (y9 s.env d).st (y9 s.env x).st=some (c,r))(n:c)(e:(y9 s.env x).aZ)(f:(y9 s.env lo).aZ)(g:(y9 s.env hi).aZ)(j:(y9 s.env d).aZ)(hd:dok s.nt o.dst=true)
 (p:K (s.put o.dst r)):o.wp P a w (RK C K) Q:=by
 obtain⟨z,q,k⟩:=zr7 m n (q2d h e) (q2d h f) (q2d h g) (q2d h j);have b:(execOp a.eval o).run P w=.ok (.value z) w:=by
  unfold execOp;simp only[l];simp[q]
 unfold Oper.wp;rw[b];exact⟨_,_,h.put k hd,p⟩
theorem j22(h:Rel C s a w β){o:Oper}{t l:TypeId}{x y:Operand}{id sz off len:Nat}{eq:Bool}{K:St->Prop}{Q:Exit->Act->World->Prop}(q:o.op=.binOp (if eq then .eql else .neq) t x y l)
 (A:(y9 s.env x).st=.osl id sz off len)(B:(y9 s.env y).st=.v (.slice none 0 0))(m:(y9 s.env x).aZ)(n:(y9 s.env y).aZ)(D:(aK P t).isSome=true)(hp:0<len)(hd:dok s.nt o.dst=true)
 (E:K (s.put o.dst (.v (.bool (!eq))))):o.wp P a w (RK C K) Q:=by
 obtain⟨e,u⟩:=Xw.1 D;have f:=q2d h m;have d:=q2d h n;rw[A]at f;rw[B]at d;simp only[rep]at f d;have j:(execOp a.eval o).run P w=.ok (.value (.bool (!eq))) w:=by
  rcases f.2 with⟨_,_,k,_⟩|⟨b,c,cap,ad,_,z,_⟩
  . omega
  unfold execOp;have G:=Lib.run_eql_slice_nil (P:=P) w t e (some ad) len cap 0 0 (q0l u)
  cases eq with
  |true=>
   have g:o.op=.binOp .eql t x y l:=q;simp only[g,z,d,Sem.run_bind];have k:(eqGuard .eql t x y (.slice (some ad) len cap) (.slice none 0 0)).run P w=.ok () w:=rfl;rw[k];simp only[Result.andThen_ok,G,Sem.run_pure];rfl
  |false=>
   have g:o.op=.binOp .neq t x y l:=q;simp only[g,z,d,Sem.run_bind];have k:(eqGuard .neq t x y (.slice (some ad) len cap) (.slice none 0 0)).run P w=.ok () w:=rfl;rw[k];have p:(binOp .neq t (.slice (some ad) len cap) (.slice none 0 0)).run P w=.ok (.bool true) w:=by
    simp only[binOp];simp[Op.equal,Op.maxDepth,Lib.run_equalIn_slice_nil w 9999 t e (some ad) len cap 0 0 (q0l u)]
   simp only[Result.andThen_ok,p,Sem.run_pure];rfl
 unfold Oper.wp;rw[j];exact⟨_,_,h.put (by simp only[rep]) hd,E⟩
theorem j23(h:Rel C s a w β){o:Oper}{t g:TypeId}{x y:Operand}{eq:Bool}{K:St->Prop}{Q:Exit->Act->World->Prop}(n:o.op=.binOp (if eq then .eql else .neq) t x y g)
 (q:(y9 s.env x).st=.v (.slice none 0 0))(u:(y9 s.env y).st=.v (.slice none 0 0))(j:(y9 s.env x).aZ)(k:(y9 s.env y).aZ)(z:(aK P t).isSome=true)(hd:dok s.nt o.dst=true)
 (A:K (s.put o.dst (.v (.bool eq)))):o.wp P a w (RK C K) Q:=by
 obtain⟨e,p⟩:=Xw.1 z;have b:=q2d h j;have c:=q2d h k;rw[q]at b;rw[u]at c;simp only[rep]at b c;have f:(execOp a.eval o).run P w=.ok (.value (.bool eq)) w:=by
  unfold execOp;have B:=Lib.run_eql_slice_nil (P:=P) w t e none 0 0 0 0 (q0l p)
  cases eq with
  |true=>
   have d:o.op=.binOp .eql t x y g:=n;simp only[d,b,c,Sem.run_bind];have l:(eqGuard .eql t x y (.slice none 0 0) (.slice none 0 0)).run P w=.ok () w:=rfl;rw[l];simp only[Result.andThen_ok,B,Sem.run_pure];rfl
  |false=>
   have d:o.op=.binOp .neq t x y g:=n;simp only[d,b,c,Sem.run_bind];have l:(eqGuard .neq t x y (.slice none 0 0) (.slice none 0 0)).run P w=.ok () w:=rfl;rw[l];have m:(binOp .neq t (.slice none 0 0) (.slice none 0 0)).run P w=.ok (.bool false) w:=by
    simp only[binOp];simp[Op.equal,Op.maxDepth,Lib.run_equalIn_slice_nil w 9999 t e none 0 0 0 0 (q0l p)]
   simp only[Result.andThen_ok,m,Sem.run_pure]
 unfold Oper.wp;rw[f];exact⟨_,_,h.put (by simp only[rep]) hd,A⟩
theorem Rel.eM(h:Rel C s a w β){id sz:Nat}{xs ys:List (List AV)}(t:q0i s.hp id=some (.arr sz xs)){b c:Nat}(hb:β id=some (b,c)){cur:Array Value}{e:TypeId}(d:w.heap[b]?=some (.cells cur e (0,0)))
 (k:cur.size=c*sz)(l:c<=maxLen){cur':Array Value}(m:cur'.size=cur.size)(n:ys.length<=c)(o:∀r∈ys,r.length=sz){us:List Value}(p:y8 w β 0 (own β s.hp C.A) ys.flatten us)(g:∀u∈us,u.oneCell'=true)
 (f:∀(j:Nat) (u:Value),us[j]?=some u->cur'[j]?=some u):Rel C {s with hp:=q0t s.hp id (.arr sz ys)} a (w.setRow b cur') β:=by
 refine h.write (cur':=cur') (o':=.arr sz ys) t hb (λw' y q=>?_);subst q;refine .inr ⟨b,c,cur',e,hb,setRow_heap w b cur _ e (0,0) d,by rw[m];exact k,n,l,?_⟩;refine q63 o (q1x y 0 0 (Xc _) (λ_ hi=>absurd hi (Xz _)) _ _ p) g λj u z=>?_;rw[X4,cell_setRow_same w b j cur _ e (0,0) d];exact f j u z
theorem z0f(h:Rel C s a w β){id sz:Nat}{xs:List (List AV)}(l:q0i s.hp id=some (.arr sz xs)){b c:Nat}(hb:β id=some (b,c)):
 ∃cur e us,w.heap[b]?=some (.cells cur e (0,0))/\cur.size=c*sz/\xs.length<=c/\c<=maxLen/\(∀r∈xs,r.length=sz)/\y8 w β 0 (own β s.hp C.A) xs.flatten us/\(∀u∈us,u.oneCell'=true)/\us.length=xs.length*sz/\
  (∀(j:Nat) (u:Value),us[j]?=some u->cur.toList[j]?=some u):=by
 rcases h.hp.obj _ (q0k l)with⟨d,_⟩|⟨y,z,cur,e,d,g,m,n,o,f⟩
 . simp only at d;rw[hb]at d;cases d
 simp only at d;rw[hb]at d;simp only[Xa,Xf]at d;obtain⟨rfl,rfl⟩:=d;obtain⟨us,k,p,q⟩:=qm5 f;refine⟨cur,e,us,g,m,n,o,q93 f,k,p,by rw[<-q1t k];exact qg7 (q93 f),λj u t=>?_⟩;have:=q j u t;rw[X4,cell_of_row w b j cur e (0,0) g]at this
 simpa using this
theorem qx1{α:Type}{sz:Nat}:∀{xs:List (List α)} (k:Nat),(∀r∈xs,r.length=sz)->(xs.take k).flatten=xs.flatten.take (k*sz)
 |[],k,_=>by simp
 |r::c,0,_=>by simp
 |r::c,k+1,h=>by
  have b:=h r Yi;have e:(k+1)*sz=r.length+k*sz:=by rw[Xo,Ze,b,Nat.add_comm]
  rw[Y9,Xu,Xu,qx1 k λr b=>h r (Yd _ b),e,List.take_length_add_append]
theorem z4e{α:Type}{sz:Nat}:∀{xs:List (List α)} (k:Nat),(∀r∈xs,r.length=sz)->(xs.drop k).flatten=xs.flatten.drop (k*sz)
 |[],k,_=>by simp
 |r::c,0,_=>by simp
 |r::c,k+1,h=>by
  have b:=h r Yi;have e:(k+1)*sz=r.length+k*sz:=by rw[Xo,Ze,b,Nat.add_comm]
  rw[List.drop_succ_cons,Xu,z4e k λr b=>h r (Yd _ b),e,List.drop_length_add_append]
theorem Rel.eF(h:Rel C s a w β){id sz:Nat}{xs ys:List (List AV)}(H:q0i s.hp id=some (.arr sz xs)){b c:Nat}(hb:β id=some (b,c)){vs:List Value}(l:y8 w β 0 (own β s.hp C.A) ys.flatten vs)(t:∀u∈vs,u.oneCell'=true)
 (m:∀r∈ys,r.length=sz)(off:Nat)(hle:off+ys.length<=xs.length){cur:Array Value}{e:TypeId}(d:w.heap[b]?=some (.cells cur e (0,0))):
 Rel C {s with hp:=q0t s.hp id (.arr sz (xs.take off++ys++xs.drop (off+ys.length)))} a (w.setRow b (cur.toList.take (off*sz)++vs++cur.toList.drop (off*sz+vs.length)).toArray) β:=by
 obtain⟨I,U,us,y,J,Q,R,q,K,L,V,n⟩:=z0f h H hb;rw[d]at y;simp only[Xa,Obj.cells.injEq,and_true]at y;obtain⟨rfl,rfl⟩:=y;have z:vs.length=ys.length*sz:=by rw[<-q1t l];exact qg7 m
 have M:off*sz+ys.length*sz<=xs.length*sz:=by rw[<-Xo];exact Xi _ hle
 have B:xs.length*sz<=c*sz:=Xi _ Q;have D:cur.toList.length=c*sz:=by simpa using J
 refine h.eM (us:=us.take (off*sz)++vs++us.drop (off*sz+vs.length)) H hb d J R ?_ ?_ ?_ ?_ ?_ ?_
 . simp only[X3,Xr,Xh,Yb,D];omega
 . simp only[Xr,Xh,Yb];omega
 .
  intro r f;rcases Xe.1 f with f|f
  .
   rcases Xe.1 f with f|f
   . exact q r (Xv f)
   exact m r f
  exact q r (Y0 f)
 . rw[Yh,Yh,qx1 off q,z4e _ q,Xo,<-z];exact q5x (q5x (q6r K _) l) (q7z K _)
 .
  intro u g;rcases Xe.1 g with g|g
  .
   rcases Xe.1 g with g|g
   . exact L u (Xv g)
   exact t u g
  exact L u (Y0 g)
 intro j u k;simp only[List.getElem?_toArray];have N:(us.take (off*sz)).length=off*sz:=by rw[Xh];omega
 have o:(cur.toList.take (off*sz)).length=off*sz:=by rw[Xh];omega
 have E:(us.take (off*sz)++vs).length=off*sz+vs.length:=by rw[Xr,N]
 have G:(cur.toList.take (off*sz)++vs).length=off*sz+vs.length:=by rw[Xr,o]
 rcases Yq j (off*sz+vs.length)with S|T
 .
  rw[Yo (by omega)]at k⊢;rcases Yq j (off*sz)with p|O
  . rw[Yo (by omega),Yj,if_pos p]at k⊢;exact n j u k
  rw[Xt (by omega),N]at k;rw[Xt (by omega),o];exact k
 rw[Xt (by omega),E,Za]at k;rw[Xt (by omega),G,Za];exact n _ u k
theorem z5e{z:Value}(b:0<z.cells.toList.length)(n:Nat):(Builtin.zeroCells z.cells n).toList=(Xb n z.cells.toList).flatten:=by
 have:=z7z z.cells.toList b n;simp only[Builtin.zeroCells,Array.toList_map,Array.toList_range]
 simpa using this
theorem j82(h:Rel C s a w β){o:Oper}{cl:Call}{x:Operand}{t e:TypeId}{id sz off len:Nat}{xs:List (List AV)}{zs:List Value}{K:St->Prop}{Q:Exit->Act->World->Prop}
 (ho:o.op=.call cl)(S:cl.callee=.builtin .clear)(j:cl.args.toList=[x])(T:cl.argTypes.toList=[t])(U:(y9 s.env x).aZ)(hx:(y9 s.env x).st=.osl id sz off len)(V:q0i s.hp id=some (.arr sz xs))(hle:off+len<=xs.length)
 (he:aK P t=some e)(hT:q1b P e=true)(ar:szT P e=sz)(E:q1s P e=some zs)(l:zs.length=sz)(H:0<sz)(h1:zs.all (·.oneCell')=true)(hd:dok s.nt o.dst=true)
 (I:K (({s with hp:=q0t s.hp id (.arr sz (xs.take off++Xb len (q21 (q89 P e) (zs.map AV.v))++xs.drop (off+len)))}:St).put o.dst (.tup []))):o.wp P a w (RK C K) Q:=by
 have f:=q2d h U;rw[hx]at f;simp only[rep]at f;obtain⟨hid,f⟩:=f;obtain⟨i,hi,a6,b0⟩:=q8z hT;have b1:=E;unfold q1s at E;simp only[Xg,Xq]at E;obtain⟨z,⟨i',hi',E⟩,rfl⟩:=E;rw[hi]at hi';simp only[Xa]at hi';subst hi';have e2:cl.args=#[x]:=Xn j;have e3:cl.argTypes=#[t]:=Xn T;have n:∀v w',(Builtin.clear_ #[t] o.type #[a.eval x]).run P w=.ok v w'->(execOp a.eval o).run P w=.ok (.value v) w':=λv w' y=>by
  unfold execOp;simp only[ho];simp[resolve,S,e2,e3,invoke,builtin,y]
 have B:∀{s' w'},Rel C s' a w' β->rep w' β s'.nx (own β s'.hp C.A) (.tup []) (.tuple #[]):=λ_=>by
  simp only[rep];exact⟨[],rfl,by simp only[y8]⟩
 by_cases h0:len=0
 .
  subst h0;have D:xs.take off++Xb 0 (q21 (q89 P e) (z.cells.toList.map AV.v))++xs.drop (off+0)=xs:=by simp
  rw[D]at I;have J:q0t s.hp id (.arr sz xs)=s.hp:=by
   clear I hd B n;have:∀hp:Hp,q0i hp id=some (.arr sz xs)->q0t hp id (.arr sz xs)=hp:=by
    intro hp
    induction hp with
    |nil=>intro h;simp[q0i]at h
    |cons p r ih=>
     obtain⟨k,q⟩:=p;intro G;simp only[q0i]at G;simp only[q0t]
     by_cases W:k=id
     . rw[if_pos W]at G⊢;simp only[Xa]at G;rw[G,W]
     rw[if_neg W]at G⊢;rw[ih G]
   exact this _ V
  rw[J]at I;have y:(Builtin.clear_ #[t] o.type #[a.eval x]).run P w=.ok (.tuple #[]) w:=by
   rcases f with⟨_,_,_,R⟩|⟨b,c,cap,ad,_,R,_⟩<;>rw[R]<;>simp[Builtin.clear_,run_underlying (q0l he)]
  unfold Oper.wp;rw[n _ _ y];exact⟨_,_,h.put (B h) hd,I⟩
 rcases f with⟨_,_,hl,_⟩|⟨b,c,cap,ad,hb,R,ao,hC,d⟩
 . exact absurd hl h0
 have L:ad=⟨b,off*sz,none⟩:=by
  rcases d with d|d
  . exact d
  omega
 subst L;obtain⟨cur,e',us,h2,h3,h4,h5,h6,h7,h8,h9,b2⟩:=z0f h V hb;have X:0<z.cells.toList.length:=by rw[l];exact H
 have Y:((Xb len z.cells.toList).flatten).length=len*sz:=by
  rw[List.length_flatten];simp only[X9,l,List.sum_replicate_nat]
 have M:off*sz+len*sz<=cur.size:=by
  rw[h3,<-Xo];exact Xi _ (by omega)
 have g:∀u∈(Xb len z.cells.toList).flatten,u.oneCell'=true:=by
  intro u f;obtain⟨l',Z,N⟩:=Yp.1 f;rw[Xl Z]at N;exact X7.1 h1 u N
 have O:=run_storeCells_at P b (off*sz) e' ((Xb len z.cells.toList).flatten) 0 cur w h2 (by rw[Xm,Y];exact M) g;simp only[Xm]at O;have y:(Builtin.clear_ #[t] o.type #[a.eval x]).run P w=.ok (.tuple #[]) (w.setRow b (cur.toList.take (off*sz)++(Xb len z.cells.toList).flatten++cur.toList.drop (off*sz+((Xb len z.cells.toList).flatten).length)).toArray):=by
  rw[R];obtain⟨m,rfl⟩:∃m,len=m+1:=⟨len-1,by omega⟩;simp[Builtin.clear_,run_underlying (q0l he),zeroValue,typeInfo,hi,E,z5e X,O]
 unfold Oper.wp;rw[n _ _ y];have hR:=h.eF (ys:=Xb len (q21 (q89 P e) (z.cells.toList.map AV.v))) V hb (vs:=(Xb len z.cells.toList).flatten) (by rw[<-X9];exact q9z (z1u _ _ _ _ _ _)) g (λr y=>by rw[Xl y,qd2];simp[l]) off (by rw[Yw];exact hle) h2;rw[Yw]at hR;exact⟨_,_,hR.put (B hR) hd,I⟩
theorem jg0(h:Rel C s a w β){o:Oper}{cl:Call}{x y:Operand}{t N e:TypeId}{id sz off len szy:Nat}{xs ys:List (List AV)}{cs:Prop}{K:St->Prop}{Q:Exit->Act->World->Prop}
 (ho:o.op=.call cl)(ao:cl.callee=.builtin .copy)(z:cl.args.toList=[x,y])(ar:cl.argTypes.toList=[t,N])(b0:(y9 s.env x).aZ)(b1:(y9 s.env y).aZ)(hx:(y9 s.env x).st=.osl id sz off len)(hg:q0i s.hp id=some (.arr sz xs))(hle:off+len<=xs.length)
 (O:z0x s.hp (y9 s.env y).st=some (szy,ys,cs))(b2:cs)(he:aK P t=some e)(hT:q1b P e=true)(b3:szT P e=sz)(hy:ys=[]\/szy=sz)(hd:dok s.nt o.dst=true)
 (hK:K (({s with hp:=q0t s.hp id (.arr sz (xs.take off++ys.take len++xs.drop (off+(ys.take len).length)))}:St).put o.dst (.v (.int .i64 ((min ys.length len:Nat):Int))))):o.wp P a w (RK C K) Q:=by
 have B:=q2d h b0;rw[hx]at B;simp only[rep]at B;obtain⟨hid,B⟩:=B;obtain⟨i,hi,R,bi⟩:=q8z hT;obtain⟨ad,S,vs,D,hL,E,G,T,m⟩:=z4s h.hp O b2 (q2d h b1);have d:∀r∈ys,r.length=sz:=by
  rcases E with H|H
  . subst H;simp
  rcases hy with h1|h1
  . subst h1;simp
  rw[<-h1];exact H
 have I:vs.length=ys.length*sz:=by rw[<-q1t hL];exact qg7 d
 have e2:cl.args=#[x,y]:=Xn z;have e3:cl.argTypes=#[t,N]:=Xn ar;have U:∀v w',(Builtin.copy_ #[t,N] o.type #[a.eval x,a.eval y]).run P w=.ok v w'->(execOp a.eval o).run P w=.ok (.value v) w':=λv w' J=>by
  unfold execOp;simp only[ho];simp[resolve,ao,e2,e3,invoke,builtin,J]
 have V:Nat.min ys.length len=min ys.length len:=rfl;have f:(Builtin.firstCells i.size (min ys.length len) (a.eval y)).run P w=.ok ⟨vs.take (len*sz)⟩ w:=by
  rw[D,R,b3];have L:(vs.take (len*sz)).length=min ys.length len*sz:=by
   rw[Xh,I,Nat.min_comm];rcases Zb ys.length len with g|g
   . have:=Xi sz g;rw[X0 g,X0 this]
   have:=Xi sz g;rw[Xx g,Xx this]
  cases ad with
  |none=>
   have H:=G rfl;subst H;have b4:vs=[]:=Xp (by rw[I];simp);subst b4;simp[Builtin.firstCells]
  |some q=>exact run_firstCells_some w sz _ q _ S _ L (λj u hj=>m q rfl j u (by
   rw[Yj]at hj
   split at hj
   . exact hj
   cases hj))
 rcases B with⟨hb,rfl,rfl,hv⟩|⟨b,c,cap,W,hb,hv,bc,hC,n⟩
 .
  have b5:xs.take 0++ys.take 0++xs.drop (0+(ys.take 0).length)=xs:=by simp
  rw[b5]at hK;have X:q0t s.hp id (.arr sz xs)=s.hp:=by
   have:∀hp:Hp,q0i hp id=some (.arr sz xs)->q0t hp id (.arr sz xs)=hp:=by
    intro hp
    induction hp with
    |nil=>intro h;simp[q0i]at h
    |cons p r ih=>
     obtain⟨k,q⟩:=p;intro M;simp only[q0i]at M;simp only[q0t]
     by_cases hk:k=id
     . rw[if_pos hk]at M⊢;simp only[Xa]at M;rw[M,hk]
     rw[if_neg hk]at M⊢;rw[ih M]
   exact this _ hg
  rw[X]at hK;have J:(Builtin.copy_ #[t,N] o.type #[a.eval x,a.eval y]).run P w=.ok (.int .i64 ((min ys.length 0:Nat):Int)) w:=by
   rw[hv];simp only[Nat.min_zero]at f;rw[D]at f⊢;simp[Builtin.copy_,run_underlying (q0l he),Builtin.lenOf,sizeOf,typeInfo,hi,f,goInt]
  unfold Oper.wp;rw[U _ _ J];exact⟨_,_,h.put (by simp only[rep]) hd,hK⟩
 obtain⟨cur,e',us,h2,h3,h4,h5,h6,h7,h8,h9,bk⟩:=z0f h hg hb;have L:(vs.take (len*sz)).length=(ys.take len).length*sz:=by
  rw[Xh,Xh,I];rcases Zb len ys.length with g|g
  . rw[X0 g,X0 (Xi sz g)]
  rw[Xx g,Xx (Xi sz g)]
 have l:∀u∈vs.take (len*sz),u.oneCell'=true:=λu B=>T u (Xv B);have Y:y8 w β 0 (own β s.hp C.A) (ys.take len).flatten (vs.take (len*sz)):=by
  rw[qx1 len d];exact q6r hL _
 have bs:(ys.take len).length<=len:=by rw[Xh];omega
 have hR:=h.eF (ys:=ys.take len) hg hb Y l (λr J=>d r (Xv J)) off (by omega) h2;have Z:off*sz+(vs.take (len*sz)).length<=cur.size:=by
  rw[L,h3,<-Xo];exact Xi _ (by omega)
 have a6:W=⟨b,off*sz,none⟩\/(vs.take (len*sz)=[]):=by
  rcases n with n|n
  . exact .inl n
  right
  have:len=0:=by omega
  subst this;simp
 have b6:(storeCells W (vs.take (len*sz))).run P w=.ok () (w.setRow b (cur.toList.take (off*sz)++vs.take (len*sz)++cur.toList.drop (off*sz+(vs.take (len*sz)).length)).toArray):=by
  rcases a6 with rfl|H
  . have:=run_storeCells_at P b (off*sz) e' (vs.take (len*sz)) 0 cur w h2 (by rw[Xm];exact Z) l;simp only[Xm]at this;exact this
  rw[H];simp only[storeCells,Yr,Yc,Xm,Yx,Y3];rw[setRow_self w b cur e' (0,0) h2];rfl
 have J:(Builtin.copy_ #[t,N] o.type #[a.eval x,a.eval y]).run P w=.ok (.int .i64 ((min ys.length len:Nat):Int)) (w.setRow b (cur.toList.take (off*sz)++vs.take (len*sz)++cur.toList.drop (off*sz+(vs.take (len*sz)).length)).toArray):=by
  rw[hv];rw[D]at f⊢;simp[Builtin.copy_,run_underlying (q0l he),Builtin.lenOf,sizeOf,typeInfo,hi,V,f,b6,goInt]
 unfold Oper.wp;rw[U _ _ J];exact⟨_,_,hR.put (by simp only[rep]) hd,hK⟩
theorem j81(h:Rel C s a w β){o:Oper}{cl:Call}{x y:Operand}{t S e:TypeId}{id off len szy:Nat}{xs:List AV}{ys:List (List AV)}{cs:Prop}{K:St->Prop}{Q:Exit->Act->World->Prop}
 (ho:o.op=.call cl)(D:cl.callee=.builtin .copy)(g:cl.args.toList=[x,y])(W:cl.argTypes.toList=[t,S])(X:(y9 s.env x).aZ)(Y:(y9 s.env y).aZ)(hx:(y9 s.env x).st=.bsl id off len)(hg:q0i s.hp id=some (.box xs))(hle:off+len<=xs.length)
 (E:z0x s.hp (y9 s.env y).st=some (szy,ys,cs))(Z:cs)(he:aK P t=some e)(hT:q1b P e=true)(a6:szT P e=1)(hy:ys=[]\/szy=1)(hd:dok s.nt o.dst=true)
 (hK:K (({s with hp:=q0t s.hp id (.box (q4p xs off (ys.take len).flatten))}:St).put o.dst (.v (.int .i64 ((min ys.length len:Nat):Int))))):o.wp P a w (RK C K) Q:=by
 have G:=q2d h X;rw[hx]at G;simp only[rep]at G;obtain⟨hid,b,c,cap,ao,hb,hv,b5,ar⟩:=G;obtain⟨i,hi,H,b6⟩:=q8z hT;obtain⟨ad,I,vs,J,hL,k,l,L,d⟩:=z4s h.hp E Z (q2d h Y);have f:∀r∈ys,r.length=1:=by
  rcases k with m|m
  . subst m;simp
  rcases hy with h1|h1
  . subst h1;simp
  rw[<-h1];exact m
 have n:vs.length=ys.length*1:=by rw[<-q1t hL];exact qg7 f
 have e2:cl.args=#[x,y]:=Xn g;have e3:cl.argTypes=#[t,S]:=Xn W;have b0:∀v w',(Builtin.copy_ #[t,S] o.type #[a.eval x,a.eval y]).run P w=.ok v w'->(execOp a.eval o).run P w=.ok (.value v) w':=λv w' hr=>by
  unfold execOp;simp only[ho];simp[resolve,D,e2,e3,invoke,builtin,hr]
 have M:Nat.min ys.length len=min ys.length len:=rfl;have p:(Builtin.firstCells i.size (min ys.length len) (a.eval y)).run P w=.ok ⟨vs.take (len*1)⟩ w:=by
  rw[J,H,a6];have b1:(vs.take (len*1)).length=min ys.length len*1:=by
   rw[Xh,n,Nat.min_comm];rcases Zb ys.length len with N|N
   . have:=Xi 1 N;rw[X0 N,X0 this]
   have:=Xi 1 N;rw[Xx N,Xx this]
  cases ad with
  |none=>
   have m:=l rfl;subst m;have b2:vs=[]:=Xp (by rw[n];simp);subst b2;simp[Builtin.firstCells]
  |some q=>exact run_firstCells_some w 1 _ q _ I _ b1 (λj u T=>d q rfl j u (by
   rw[Yj]at T
   split at T
   . exact T
   cases T))
 obtain⟨b',c',cur,U,V,h6,h7⟩:=h.hp.obj _ (q0k hg);simp only at V;rw[hb]at V;simp only[Xa,Xf]at V;obtain⟨rfl,rfl⟩:=V;have D:=q1t h7;simp only[Nat.mul_one]at n p;have z:∀u∈vs.take len,u.oneCell'=true:=λu G=>L u (Xv G);have B:(ys.take len).flatten=ys.flatten.take len:=by rw[qx1 len f,Nat.mul_one]
 have O:y8 w β 0 (own β s.hp C.A) (ys.take len).flatten (vs.take len):=by rw[B];exact q6r hL _
 have R:off+(vs.take len).length<=cur.size:=by
  rw[Xh];have:cur.toList.length=cur.size:=by simp
  omega
 have b3:(storeCells ao (vs.take len)).run P w=.ok () (w.setRow b (cur.toList.take off++vs.take len++cur.toList.drop (off+(vs.take len).length)).toArray):=by
  rcases ar with rfl|m
  . have:=run_storeCells_at P b off U (vs.take len) 0 cur w h6 (by rw[Xm];exact R) z;simp only[Xm]at this;exact this
  subst m;simp only[Yu,storeCells,Yr,Yc,Xm,Yx,Y3];rw[setRow_self w b cur U (0,0) h6];rfl
 have hr:(Builtin.copy_ #[t,S] o.type #[a.eval x,a.eval y]).run P w=.ok (.int .i64 ((min ys.length len:Nat):Int)) (w.setRow b (cur.toList.take off++vs.take len++cur.toList.drop (off+(vs.take len).length)).toArray):=by
  rw[hv];rw[J]at p⊢;simp[Builtin.copy_,run_underlying (q0l he),Builtin.lenOf,sizeOf,typeInfo,hi,M,p,b3,goInt]
 unfold Oper.wp;rw[b0 _ _ hr];have h8:=h.write (cur':=(cur.toList.take off++vs.take len++cur.toList.drop (off+(vs.take len).length)).toArray) (o':=.box (q4p xs off (ys.take len).flatten)) hg hb (λw' hA b4=>
  ⟨b,c,_,U,hb,by rw[<-b4];exact setRow_heap w b cur _ U (0,0) h6,z1b (q1x hA _ _ (Xc _) (λ_ _=>rfl) _ _ h7) (q1x hA 0 _ (Nat.zero_le _) (λ_ hi=>absurd hi (Xz _)) _ _ O)⟩)
 exact⟨_,_,h8.put (by simp only[rep]) hd,hK⟩
end
end
section
open Go Go.RowKit
def q25:List Value->Option (List (Option IntKind))
 |[]=>some []
 |.int k _::r=>(q25 r).map (some k::·)
 |.bool _::r=>(q25 r).map (none::·)
 |_=>none
def qi3:List AV->Option (List (Option IntKind))
 |[]=>some []
 |.v (.int k _)::r=>(qi3 r).map (some k::·)
 |.v (.bool _)::r=>(qi3 r).map (none::·)
 |_=>none
def eqV:List Value->List Value->Bool
 |.int _ a::r,.int _ b::q=>a==b&&eqV r q
 |.bool a::r,.bool b::q=>a==b&&eqV r q
 |_,_=>true
def eqA:List AV->List AV->Bool
 |.v (.int _ a)::r,.v (.int _ b)::q=>a==b&&eqA r q
 |.v (.bool a)::r,.v (.bool b)::q=>a==b&&eqA r q
 |_,_=>true
def EqT(P:Program)(t:TypeId)(a:List (Option IntKind)):Prop:=
 P.eqGuardType P.depth t=false/\∀(us vs:List Value),q25 us=some a->q25 vs=some a->∀w:World,(Op.equalIn 10000 t (.agg ⟨us⟩) (.agg ⟨vs⟩)).run P w=.ok (eqV us vs) w
def eqR(P:Program)(op:BinOp)(t:TypeId):AV->AV->Option (Prop×AV)
 |.agg xs,.agg ys=>match qi3 xs,op with
  |some c,.eql=>some (qi3 ys=some c/\EqT P t c,.v (.bool (eqA xs ys)))
  |some c,.neq=>some (qi3 ys=some c/\EqT P t c,.v (.bool (!eqA xs ys)))
  |_,_=>none
 |.v (.bool a),.v (.bool b)=>match op with
  |.eql=>some (P.underlying t=some .bool,.v (.bool (a==b)))
  |.neq=>some (P.underlying t=some .bool,.v (.bool (!(a==b))))
  |_=>none
 |.v (.string a),.v (.string b)=>match op with
  |.eql=>some (True,.v (.bool (a==b)))
  |.neq=>some (True,.v (.bool (a !=b)))
  |.add=>some (a.data.toList.length+b.data.toList.length<=9223372036854775807,.v (.string ⟨⟨a.data.toList++b.data.toList⟩⟩))
  |_=>none
 |_,_=>none
section
variable {P:Program} {w:World} {β:aF} {nx:Nat} {ow:Nat->Prop}
theorem qe5:∀{xs:List AV} {us:List Value} {e:List (Option IntKind)},qi3 xs=some e->y8 w β nx ow xs us->q25 us=some e/\∀{ys:List AV} {vs:List Value},y8 w β nx ow ys vs->qi3 ys=some e->eqV us vs=eqA xs ys
 |[],[],e,h,_=>by
  simp only[qi3,Xa]at h;subst h;exact⟨rfl,λ_ _=>rfl⟩
 |x::xs,u::us,e,h,d=>by
  unfold qi3 at h
  split at h
  . rename_i heq;simp at heq
  .
   rename_i k n r heq
   simp only[Ye]at heq;obtain⟨rfl,rfl⟩:=heq;simp only[Xg]at h;obtain⟨f,g,rfl⟩:=h;simp only[y8,rep]at d;obtain⟨rfl,d⟩:=d;obtain⟨j,l⟩:=qe5 g d;refine⟨by simp[q25,j],?_⟩;intro ys vs c a;unfold qi3 at a
   split at a
   . simp at a
   .
    rename_i k' q p
    simp only[Xg,Ye,Xa]at a;obtain⟨m,o,rfl,rfl⟩:=a
    cases vs with
    |nil=>simp only[y8]at c
    |cons v vs=>
     simp only[y8,rep]at c;obtain⟨rfl,c⟩:=c;simp only[eqV,eqA,l c o]
   . simp at a
   cases a
  .
   rename_i b r heq
   simp only[Ye]at heq;obtain⟨rfl,rfl⟩:=heq;simp only[Xg]at h;obtain⟨f,g,rfl⟩:=h;simp only[y8,rep]at d;obtain⟨rfl,d⟩:=d;obtain⟨j,l⟩:=qe5 g d;refine⟨by simp[q25,j],?_⟩;intro ys vs c a;unfold qi3 at a
   split at a
   . simp at a
   . simp at a
   .
    rename_i s p
    simp only[Xg,Ye,true_and]at a;obtain⟨m,o,rfl⟩:=a
    cases vs with
    |nil=>simp only[y8]at c
    |cons v vs=>
     simp only[y8,rep]at c;obtain⟨rfl,c⟩:=c;simp only[eqV,eqA,l c o]
   cases a
  cases h
 |[],_::_,_,_,h=>by simp only[y8]at h
 |_::_,[],_,_,h=>by simp only[y8]at h
theorem j79{op:BinOp}{t:TypeId}{k l:Operand}{x y r:AV}{c:Prop}{u v:Value}(h:eqR P op t x y=some (c,r))(j:c)(f:rep w β nx ow x u)(d:rep w β nx ow y v):
 ∃z,(do eqGuard op t k l u v;binOp op t u v:Sem Value).run P w=.ok z w/\rep w β nx ow r z:=by
 unfold eqR at h
 split at h
 .
  rename_i xs ys
  simp only[rep]at f d;obtain⟨us,rfl,f⟩:=f;obtain⟨vs,rfl,d⟩:=d
  split at h
  .
   rename_i A g
   simp only[Xa,Xf]at h;obtain⟨rfl,rfl⟩:=h;obtain⟨e,m,n⟩:=j;obtain⟨o,p⟩:=qe5 g f;have q:=(qe5 e d).1;refine⟨.bool (eqA xs ys),?_,by simp only[rep]⟩;have:=n us vs o q w;rw[p d e]at this;simp only[Sem.run_bind,run_eqGuard_agg (P:=P) w _ t k l ⟨us⟩ ⟨vs⟩ m,Result.andThen_ok,run_eql_struct,this]
  .
   rename_i A g
   simp only[Xa,Xf]at h;obtain⟨rfl,rfl⟩:=h;obtain⟨e,m,n⟩:=j;obtain⟨o,p⟩:=qe5 g f;have q:=(qe5 e d).1;refine⟨.bool (!eqA xs ys),?_,by simp only[rep]⟩;have:=n us vs o q w;rw[p d e]at this;simp only[Sem.run_bind,run_eqGuard_agg (P:=P) w _ t k l ⟨us⟩ ⟨vs⟩ m,Result.andThen_ok,run_neq_struct,this]
  cases h
 .
  rename_i a b
  simp only[rep]at f d;subst f d
  split at h
  . simp only[Xa,Xf]at h;obtain⟨rfl,rfl⟩:=h;exact⟨.bool (a==b),by simp[eqGuard,run_eql_bool w t a b j],by simp only[rep]⟩
  . simp only[Xa,Xf]at h;obtain⟨rfl,rfl⟩:=h;exact⟨.bool (!(a==b)),by simp[eqGuard,run_neq_bool w t a b j],by simp only[rep]⟩
  cases h
 .
  rename_i a b
  simp only[rep]at f d;subst f d
  split at h
  . simp only[Xa,Xf]at h;obtain⟨_,rfl⟩:=h;exact⟨.bool (a==b),by simp[eqGuard,binOp,Op.stringOp,beq_toListBytes],by simp only[rep]⟩
  . simp only[Xa,Xf]at h;obtain⟨_,rfl⟩:=h;exact⟨.bool (a !=b),by simp[eqGuard,binOp,Op.stringOp,bne,beq_toListBytes],by simp only[rep]⟩
  .
   simp only[Xa,Xf]at h;obtain⟨rfl,rfl⟩:=h;have s:(a.size:Int)+(b.size:Int)<=9223372036854775807:=by
    have B:a.size=a.data.toList.length:=rfl;have C:b.size=b.data.toList.length:=rfl;rw[B,C];omega
   refine⟨.string (a++b),by simp[eqGuard,binOp,Op.stringOp,s],?_⟩;simp only[rep]
   congr 1
  cases h
 cases h
def zh5(P:Program)(t:TypeId):Bool:=match P.underlying t with
 |some (.interface _)=>true
 |_=>false
def z2y(P:Program)(t:TypeId):Bool:=match P.underlying t with
 |some (.pointer _)=>true
 |_=>false
def zt2(P:Program)(op:BinOp)(t:TypeId)(a:AV)(y:Operand):Option (Prop×AV):=match op,a,y with
 |.eql,.erb g,.const .nilIface=>some (zh5 P t=true,.v (.bool g))
 |.neq,.erb g,.const .nilIface=>some (zh5 P t=true,.v (.bool (!g)))
 |.eql,.ptr _ _,.const (.pointer none)=>some (z2y P t=true,.v (.bool false))
 |.neq,.ptr _ _,.const (.pointer none)=>some (z2y P t=true,.v (.bool true))
 |.eql,.v (.pointer none),.const (.pointer none)=>some (z2y P t=true,.v (.bool true))
 |.neq,.v (.pointer none),.const (.pointer none)=>some (z2y P t=true,.v (.bool false))
 |_,_,_=>none
theorem j1t{op:BinOp}{t:TypeId}{m j:Operand}{x r:AV}{c:Prop}{u v:Value}(h:zt2 P op t x j=some (c,r))(k:c)(a:rep w β nx ow x u)(l:∀z,j=.const z->v=z):
 ∃z,(do eqGuard op t m j u v;binOp op t u v:Sem Value).run P w=.ok z w/\rep w β nx ow r z:=by
 have key:∀g:Bool,j=.const .nilIface->x=.erb g->zh5 P t=true->(eqGuard .eql t m j u v).run P w=.ok () w/\(eqGuard .neq t m j u v).run P w=.ok () w/\(binOp .eql t u v).run P w=.ok (.bool g) w/\(binOp .neq t u v).run P w=.ok (.bool (!g)) w:=by
  intro g n y e;obtain rfl:=l _ n;subst n y;obtain⟨o,hi⟩:∃o,P.underlying t=some (.interface o):=by
   unfold zh5 at e
   split at e
   . exact⟨_,by assumption⟩
   cases e
  simp only[rep]at a
  cases g with
  |true=>
   obtain rfl:=a.1 rfl;have h:∀d:Nat,(Op.equalIn (d+1) t .nilIface .nilIface).run P w=.ok true w:=λd=>by simp[Op.equalIn,run_underlying hi]
   exact⟨by simp[eqGuard],by simp[eqGuard],by simp only[binOp];simp[Op.equal,Op.maxDepth,h 9999],by simp only[binOp];simp[Op.equal,Op.maxDepth,h 9999]⟩
  |false=>
   obtain⟨A,p,rfl⟩:=a.2 rfl;have h:∀d:Nat,(Op.equalIn (d+1) t (.iface A p) .nilIface).run P w=.ok false w:=λd=>by simp[Op.equalIn,run_underlying hi]
   exact⟨by simp[eqGuard],by simp[eqGuard],by simp only[binOp];simp[Op.equal,Op.maxDepth,h 9999],by simp only[binOp];simp[Op.equal,Op.maxDepth,h 9999]⟩
 have kp:∀(x:Option Addr),z2y P t=true->∀d:Nat,(Op.equalIn (d+1) t (.pointer x) (.pointer none)).run P w=.ok (x==none) w:=λx e d=>by
  unfold z2y at e
  split at e
  . rename_i B;cases x<;>simp[Op.equalIn,run_underlying B]
  cases e
 unfold zt2 at h
 split at h
 .
  rename_i g
  simp only[Xa,Xf]at h;obtain⟨rfl,rfl⟩:=h;obtain⟨k1,k2,q,s⟩:=key g rfl rfl k;exact⟨.bool g,by simp[k1,q],by simp only[rep]⟩
 .
  rename_i g
  simp only[Xa,Xf]at h;obtain⟨rfl,rfl⟩:=h;obtain⟨k1,k2,q,s⟩:=key g rfl rfl k;exact⟨.bool (!g),by simp[k2,s],by simp only[rep]⟩
 . simp only[Xa,Xf]at h;obtain⟨rfl,rfl⟩:=h;obtain rfl:=l _ rfl;simp only[rep]at a;obtain⟨_,b,C,_,rfl⟩:=a;have f:=λx=>kp x k 9999;exact⟨.bool false,by simp only[binOp];simp[eqGuard,Op.equal,Op.maxDepth,f],by simp only[rep]⟩
 . simp only[Xa,Xf]at h;obtain⟨rfl,rfl⟩:=h;obtain rfl:=l _ rfl;simp only[rep]at a;obtain⟨_,b,C,_,rfl⟩:=a;have f:=λx=>kp x k 9999;exact⟨.bool true,by simp only[binOp];simp[eqGuard,Op.equal,Op.maxDepth,f],by simp only[rep]⟩
 . simp only[Xa,Xf]at h;obtain⟨rfl,rfl⟩:=h;obtain rfl:=l _ rfl;simp only[rep]at a;subst a;have f:=λx=>kp x k 9999;exact⟨.bool true,by simp only[binOp];simp[eqGuard,Op.equal,Op.maxDepth,f],by simp only[rep]⟩
 . simp only[Xa,Xf]at h;obtain⟨rfl,rfl⟩:=h;obtain rfl:=l _ rfl;simp only[rep]at a;subst a;have f:=λx=>kp x k 9999;exact⟨.bool false,by simp only[binOp];simp[eqGuard,Op.equal,Op.maxDepth,f],by simp only[rep]⟩
 cases h
def qn5(P:Program)(hp:Hp)(ev:Operand->AV):Op->Option (Prop×AV)
 |.build t parts=>z8s P ev t parts.toList
 |.binOp op t x y ty=>match fop P hp ev (.binOp op t x y ty)with
  |some r=>some r
  |none=>match zt2 P op t (ev x) y with
   |some r=>some r
   |none=>n1 (ev x) (n1 (ev y) (eqR P op t (ev x).st (ev y).st))
 |op=>fop P hp ev op
theorem z6s{A:Nat->Prop}{hp:Hp}{ev:Operand->AV}{ρ:Operand->Value}(e:b8 w β nx A hp)(a:∀x,rep w β nx (own β hp A) (ev x) (ρ x)){o:Oper}{c:Prop}{r:AV}(f:∀y z,y=.const z->ρ y=z)(h:qn5 P hp ev o.op=some (c,r))(b:c):
 ∃z,(execOp ρ o).run P w=.ok (.value z) w/\rep w β nx (own β hp A) r z:=by
 unfold qn5 at h
 split at h
 .
  rename_i t parts heq
  obtain⟨z,d,g⟩:=j0x a h b;refine⟨z,?_,g⟩;unfold execOp;simp only[heq];simp[d]
 .
  rename_i op t x y ty heq
  split at h
  .
   rename_i k j
   simp only[Xa]at h;subst h;exact zq5 e a (by rw[heq];exact j) b
  split at h
  .
   rename_i k j
   simp only[Xa]at h;subst h;obtain⟨z,d,g⟩:=j1t (P:=P) j b (a x) (f _);refine⟨z,?_,g⟩;unfold execOp;simp only[heq];simp only[Sem.run_bind,Sem.run_pure]at d⊢;rw[d];rfl
  obtain⟨p,l,rfl⟩:=q4h h;obtain⟨m,n,rfl⟩:=q4h l;obtain⟨z,d,g⟩:=j79 (P:=P) n b.2.2 (q1n (a _) b.1) (q1n (a _) b.2.1);refine⟨z,?_,g⟩;unfold execOp;simp only[heq];simp only[Sem.run_bind,Sem.run_pure]at d⊢;rw[d];rfl
 exact zq5 e a h b
end
end
section
open Go Go.RowKit
def q9r(P:Program)(s:St)(f:FuncId)(args:List AV)(K:St->AV->Prop):Prop:=
 ∀(C:Ctx P) (a:Act) (w:World) (β:aF) (vs:List Value),Rel C s a w β->y8 w β s.nx (own β s.hp C.A) args vs->
  cx P f ⟨vs⟩ w λe w'=>∃v r s' β',e=.returned v/\Rel C s' a w' β'/\rep w' β' s'.nx (own β' s'.hp C.A) r v/\K s' r
def je9(dst:Option Nat)(K:St->Prop):St->AV->Prop:=λs r=>K (s.put dst r)
theorem ja7(dst:Option Nat)(K:St->Prop)(s:St)(r:AV):je9 dst K s r=K (s.put dst r):=rfl
def opW(P:Program)(o:Oper)(s:St)(K:St->Prop):Prop:=dok s.nt o.dst=true->∀(C:Ctx P) (a:Act) (w:World) (β:aF),Rel C s a w β->∀Q:Exit->Act->World->Prop,o.wp P a w (RK C K) Q
def opS(P:Program)(o:Oper)(s:St)(K:St->Prop):Prop:=
 ∃(H:Hp) (N:Nat) (R:AV),K (({s with hp:=H,nx:=N}:St).put o.dst R)/\∀a:List (Nat×AV),(∀x∈o.op.operands,y9 a x=y9 s.env x)->∀K':St->Prop,K' (({s with env:=a,hp:=H,nx:=N}:St).put o.dst R)->opW P o {s with env:=a} K'
def vcX(P:Program)(o:Oper)(s:St)(K:St->Prop):Prop:=
 match o.op with
 |.alloc e=>match q1s P e with
  |some (.pointer none:: .slice none 0 0::zs)=>K (({s with hp:=(s.nx,.con (z5c e) (.v (.pointer none):: .v (.slice none 0 0)::zs.map AV.v))::s.hp,nx:=s.nx+1}:St).put o.dst (.ptr s.nx 0))
  |some zs=>K (({s with hp:=(s.nx,.box (zs.map AV.v))::s.hp,nx:=s.nx+1}:St).put o.dst (.ptr s.nx 0))
  |none=>False
 |.box e x=>match qc8 (y9 s.env x).st with
  |some (.v (.pointer none):: .v (.slice none 0 0)::r)=>(y9 s.env x).aZ/\K (({s with hp:=(s.nx,.con (z5c e) (.v (.pointer none):: .v (.slice none 0 0)::r))::s.hp,nx:=s.nx+1}:St).put o.dst (.ptr s.nx 0))
  |some cs=>(y9 s.env x).aZ/\K (({s with hp:=(s.nx,.box cs)::s.hp,nx:=s.nx+1}:St).put o.dst (.ptr s.nx 0))
  |none=>False
 |.store t x y=>match (y9 s.env x).st,qc8 (y9 s.env y).st with
  |.ptr id off,some ys=>match q0i s.hp id with
   |some (.box cs)=>((y9 s.env x).aZ/\(y9 s.env y).aZ/\q1b P t=true/\ys.length=szT P t/\off+ys.length<=cs.length/\ys.all q9t=true)/\
    K (({s with hp:=q0t s.hp id (.box (q4p cs off ys))}:St).put o.dst (.v undef))
   |some (.con k cs)=>match k.k with
    |some n=>(n<=off/\(y9 s.env x).aZ/\(y9 s.env y).aZ/\q1b P t=true/\ys.length=szT P t/\off-n+ys.length<=cs.length/\ys.all q9t=true)/\
     K (({s with hp:=q0t s.hp id (.con k (q4p cs (off-n) ys))}:St).put o.dst (.v undef))
    |none=>False
   |_=>False
  |.apt id sz i off,some ys=>match q0i (q6d (q80 ys) s.hp) id with
   |some (.arr a xs)=>((y9 s.env x).aZ/\(y9 s.env y).aZ/\a=sz/\qy4 s.hp ys/\q1b P t=true/\ys.length=szT P t/\(i<xs.length/\off+ys.length<=sz)/\ys.all q9t=true/\(ys.map (frz s.hp)).all q9p=true)/\
    K (({s with hp:=q0t (q6d (q80 ys) s.hp) id (.arr sz (xs.set i (q4p (q3g xs i) off (q21 (q89 P t) (ys.map (frz s.hp))))))}:St).put o.dst (.v undef))
   |some (.con k cs)=>match k.k with
    |some n=>(n=i*sz/\q0i s.hp id=some (.con k cs)/\(y9 s.env x).aZ/\(y9 s.env y).aZ/\q1b P t=true/\ys.length=szT P t/\off+ys.length<=cs.length/\ys.all q9t=true)/\
     K (({s with hp:=q0t s.hp id (.con k (q4p cs off ys))}:St).put o.dst (.v undef))
    |none=>False
   |_=>False
  |_,_=>False
 |.buildSlice t n parts=>match aK P t,qx9 (parts.toList.map λp=>(y9 s.env p.2).st)with
  |some e,some ([.ptr i0 q]::d)=>match q1s P e with
   |some _=>(q1b P e=true/\szT P e=1/\n<=16777216/\qa1 parts.toList 0=true/\parts.toList.length=n/\bW (parts.toList.map λp=>y9 s.env p.2)/\qp6 (szT P e) ([.ptr i0 q]::d)=true)/\
    K (({s with hp:=(s.nx,.box (.ptr i0 q::d.flatten))::s.hp,nx:=s.nx+1}:St).put o.dst (.bsl s.nx 0 n))
   |none=>False
  |some e,some d=>match q1s P e with
   |some zs=>(q1b P e=true/\zs.length=szT P e/\0<szT P e/\n*szT P e<=16777216/\qa1 parts.toList 0=true/\parts.toList.length=n/\bW (parts.toList.map λp=>y9 s.env p.2)/\qp6 (szT P e) d=true/\
    d.flatten.all q9t=true/\qy4 s.hp d.flatten/\(d.flatten.map (frz s.hp)).all q9p=true)/\
    K (({s with hp:=(s.nx,.arr (szT P e) ((d.map (·.map (frz s.hp))).map (q21 (z0z s.hp P e))))::q6d (q80 d.flatten) s.hp,nx:=s.nx+1}:St).put o.dst (.osl s.nx (szT P e) 0 n))
   |none=>False
  |_,_=>False
 |.makeSlice t l c=>match (y9 s.env l).st,(y9 s.env c).st,aK P t with
  |.v (.int _ n),.v (.int _ m),some e=>match q1s P e with
   |some zs=>((y9 s.env l).aZ/\(y9 s.env c).aZ/\m=n/\q1b P e=true/\zs.length=szT P e/\0<szT P e/\0<q26 P e/\0<=n/\n*q26 P e<=140737488355328/\zs.all (·.oneCell')=true)/\
    K (({s with hp:=(s.nx,.arr (szT P e) (Xb n.toNat (q21 (z0z s.hp P e) (zs.map AV.v))))::s.hp,nx:=s.nx+1}:St).put o.dst (.osl s.nx (szT P e) 0 n.toNat))
   |none=>False
  |_,_,_=>False
 |.convert g dst x=>match (y9 s.env x).st,aK P g with
  |.osl id sz off len,some e=>match q0i s.hp id with
   |some (.arr a xs)=>((y9 s.env x).aZ/\dst=g/\qt6 P e=some .u8/\sz=1/\a=1/\off=0/\len=xs.length/\xs≠[])/\K (({s with hp:=q4n s.hp id}:St).put o.dst (.sl 1 xs))
   |_=>False
  |_,_=>False
 |.slice t x (some lo) (some hi) (some u)=>match z5j P t (y9 s.env lo).st (y9 s.env hi).st (y9 s.env u).st (y9 s.env x).st with
  |some (c,r)=>((y9 s.env x).aZ/\(y9 s.env lo).aZ/\(y9 s.env hi).aZ/\(y9 s.env u).aZ/\c)/\K (s.put o.dst r)
  |none=>False
 |.binOp .eql t x y _=>match (y9 s.env x).st,(y9 s.env y).st with
  |.sl _ xs,.v (.slice none 0 0)=>((y9 s.env x).aZ/\(y9 s.env y).aZ/\(aK P t).isSome=true)/\∀b:Bool,(xs≠[]->b=false)->K (s.put o.dst (.v (.bool b)))
  |.osl _ _ _ len,.v (.slice none 0 0)=>((y9 s.env x).aZ/\(y9 s.env y).aZ/\(aK P t).isSome=true/\0<len)/\K (s.put o.dst (.v (.bool false)))
  |.v (.slice none 0 0),.v (.slice none 0 0)=>((y9 s.env x).aZ/\(y9 s.env y).aZ/\(aK P t).isSome=true)/\K (s.put o.dst (.v (.bool true)))
  |_,_=>False
 |.binOp .neq t x y _=>match (y9 s.env x).st,(y9 s.env y).st with
  |.osl _ _ _ len,.v (.slice none 0 0)=>((y9 s.env x).aZ/\(y9 s.env y).aZ/\(aK P t).isSome=true/\0<len)/\K (s.put o.dst (.v (.bool true)))
  |.v (.slice none 0 0),.v (.slice none 0 0)=>((y9 s.env x).aZ/\(y9 s.env y).aZ/\(aK P t).isSome=true)/\K (s.put o.dst (.v (.bool false)))
  |_,_=>False
 |.mapUpdate _ _ _ _=>opS P o s K
 |.makeMap _ _=>opS P o s K
 |.call c=>match c.callee,c.args.toList,c.argTypes.toList with
  |.builtin .append,[x,y],[t,z]=>match aK P t,zu0 s.hp (y9 s.env x).st,z0x s.hp (y9 s.env y).st with
   |some e,some (szx,xs,ids,A),some (szy,ys,cs)=>match q1s P e with
    |some zs=>(z=t/\(y9 s.env x).aZ/\(y9 s.env y).aZ/\A/\cs/\q1b P e=true/\zs.length=szT P e/\(ids=[]\/szx=szT P e)/\(ys=[]\/szy=szT P e)/\0<q26 P e/\
     (xs.length+ys.length)*q26 P e<=140737488355328)/\
     K (({s with hp:=(s.nx,.arr (szT P e) (xs++ys))::q6d ids s.hp,nx:=s.nx+1}:St).put o.dst (.osl s.nx (szT P e) 0 (xs.length+ys.length)))
    |none=>False
   |some _,none,some _=>opS P o s K
   |_,_,_=>False
  |.builtin .clear,[x],[t]=>match (y9 s.env x).st,aK P t with
   |.osl id sz off len,some e=>match q0i s.hp id,q1s P e with
    |some (.arr a xs),some zs=>((y9 s.env x).aZ/\a=sz/\off+len<=xs.length/\q1b P e=true/\szT P e=sz/\zs.length=sz/\0<sz/\zs.all (·.oneCell')=true)/\
     K (({s with hp:=q0t s.hp id (.arr sz (xs.take off++Xb len (q21 (q89 P e) (zs.map AV.v))++xs.drop (off+len)))}:St).put o.dst (.tup []))
    |_,_=>False
   |_,_=>False
  |.builtin .copy,[x,y],[t,_]=>match (y9 s.env x).st,aK P t,z0x s.hp (y9 s.env y).st with
   |.osl id sz off len,some e,some (szy,ys,cs)=>match q0i s.hp id with
    |some (.arr a xs)=>((y9 s.env x).aZ/\(y9 s.env y).aZ/\a=sz/\off+len<=xs.length/\cs/\q1b P e=true/\szT P e=sz/\(ys=[]\/szy=sz))/\
     K (({s with hp:=q0t s.hp id (.arr sz (xs.take off++ys.take len++xs.drop (off+(ys.take len).length)))}:St).put o.dst (.v (.int .i64 ((min ys.length len:Nat):Int))))
    |_=>False
   |.bsl id off len,some e,some (szy,ys,cs)=>match q0i s.hp id with
    |some (.box xs)=>((y9 s.env x).aZ/\(y9 s.env y).aZ/\off+len<=xs.length/\cs/\q1b P e=true/\szT P e=1/\(ys=[]\/szy=1))/\
     K (({s with hp:=q0t s.hp id (.box (q4p xs off (ys.take len).flatten))}:St).put o.dst (.v (.int .i64 ((min ys.length len:Nat):Int))))
    |_=>False
   |_,_,_=>False
  |.builtin .delete,_,_=>opS P o s K
  |.value w,args,_=>match (y9 s.env w).st with
   |.clo f j=>(True/\(y9 s.env w).aZ/\bW (args.map (y9 s.env)))/\q9r P s f ((args.map λx=>(y9 s.env x).st)++j) (je9 o.dst K)
   |_=>False
  |_,_,_=>False
 |_=>False
section
variable {P:Program} {C:Ctx P} {s:St} {a:Act} {w:World} {β:aF}
theorem zo6{f:FuncId}{args:Array Value}(h:u7 P f=true):(callFunc f args).run P w=.ok (.enter f args) w:=by
 unfold u7 at h
 split at h
 .
  rename_i fn d
  simp only[Xd,Bool.not_eq_true',Xw]at h;obtain⟨c,b,e⟩:=h;unfold callFunc;simp[d,e]at c⊢;simp[c]
 cases h
theorem j24(h:Rel C s a w β){o:Oper}{cl:Call}{q:Operand}{f:FuncId}{g:List AV}{K:St->Prop}{Q:Exit->Act->World->Prop}(B:o.op=.call cl)(n:cl.callee=.value q)(E:(y9 s.env q).st=.clo f g)
 (t:(y9 s.env q).aZ)(G:bW (cl.args.toList.map (y9 s.env)))(hd:dok s.nt o.dst=true)
 (H:q9r P s f ((cl.args.toList.map λx=>(y9 s.env x).st)++g) (λs' r=>K (s'.put o.dst r))):o.wp P a w (RK C K) Q:=by
 have m:=q2d h t;rw[E]at m;simp only[rep]at m;obtain⟨l,m,I⟩:=m;have J:=z6f (λx=>h.ev x) cl.args.toList G;have b:cl.args.map a.eval=⟨cl.args.toList.map a.eval⟩:=Xn (by simp);have D:(⟨cl.args.toList.map a.eval⟩:Array Value)++(⟨l⟩:Array Value)=⟨cl.args.toList.map a.eval++l⟩:=Xn (by simp);have c:=H C a w β _ h (q5x J I)
 cases u:u7 P f with
 |true=>
  have d:(execOp a.eval o).run P w=.ok (.enter f ⟨cl.args.toList.map a.eval++l⟩) w:=by
   unfold execOp;simp only[B];simp only[resolve,n,m,b,Deferred.ofValue,Sem.run_bind,Sem.run_pure,Result.andThen_ok,invoke,Ya,D,zo6 u]
  unfold Oper.wp;rw[d];simp only[Oper.upon];refine (c.1 u).mono ?_;rintro e w' ⟨v,r,s',β',rfl,p,y,k⟩;have j:s'.nt=s.nt:=p.nt.symm.trans h.nt;exact⟨_,β',p.put y (by rw[j];exact hd),k⟩
 |false=>
  obtain⟨v0,w',z,v,r,s',β',A,p,y,k⟩:=c.2 u
  cases A
  have d:(execOp a.eval o).run P w=.ok (.value v0) w':=by
   unfold execOp;simp only[B];simp only[resolve,n,m,b,Deferred.ofValue,Sem.run_bind,Sem.run_pure,Result.andThen_ok,invoke,Ya,D,z]
  unfold Oper.wp;rw[d];simp only[Oper.upon];have j:s'.nt=s.nt:=p.nt.symm.trans h.nt;exact⟨_,β',p.put y (by rw[j];exact hd),k⟩
theorem zn4(h:Rel C s a w β){o:Oper}{K:St->Prop}{Q:Exit->Act->World->Prop}(hd:dok s.nt o.dst=true)(b:vcX P o s K):o.wp P a w (RK C K) Q:=by
 unfold vcX at b
 split at b
 .
  rename_i e p
  split at b
  . rename_i I;exact j5f h p I hd b
  . rename_i zs _ I;exact j83 h p I hd b
  exact b.elim
 .
  rename_i e x p
  split at b
  . rename_i r X;exact jg1 h p b.1 X hd b.2
  . rename_i cs _ X;exact jp1 h p b.1 X hd b.2
  exact b.elim
 .
  rename_i t x y p
  split at b
  .
   rename_i id off ys u B
   split at b
   .
    rename_i cs G
    obtain⟨⟨g,j,c3,q,z,A⟩,d⟩:=b;exact j7z h p g j u G B c3 q z A hd d
   .
    rename_i k cs G
    split at b
    .
     rename_i n hn
     obtain⟨⟨c0,g,j,c3,q,z,A⟩,d⟩:=b;exact j5b h p g j u hn c0 G B c3 q z A hd d
    exact b.elim
   exact b.elim
  .
   rename_i id sz i off ys u B
   split at b
   .
    rename_i L xs G
    obtain⟨⟨g,j,rfl,q,z,A,D,J,M⟩,d⟩:=b;exact j5c h p g j u B q G z A D J M hd d
   .
    rename_i k cs G
    split at b
    .
     rename_i n hn
     obtain⟨⟨c0,a6,g,j,c3,q,z,A⟩,d⟩:=b;exact j5a h p g j u hn c0 a6 B c3 q z A hd d
    exact b.elim
   exact b.elim
  exact b.elim
 .
  rename_i t n parts p
  split at b
  .
   rename_i e i0 o0 rs E Y
   split at b
   .
    rename_i zs I
    obtain⟨⟨g,j,c3,q,z,A,D⟩,d⟩:=b;exact zj8 h p E g I j c3 q z A Y D hd d
   exact b.elim
  .
   rename_i e rs _ E Y
   split at b
   .
    rename_i zs I
    obtain⟨⟨g,j,c3,q,z,A,D,J,M,O,S⟩,d⟩:=b;exact zr6 h p E g I j c3 q z A D Y J M O S hd d
   exact b.elim
  exact b.elim
 .
  rename_i t l c p
  split at b
  .
   rename_i k n k' m e hl X E
   split at b
   .
    rename_i zs I
    obtain⟨⟨g,j,rfl,c3,q,z,A,D,J,M⟩,d⟩:=b;exact zu6 h p hl X g j E c3 I q z A D J M hd d
   exact b.elim
  exact b.elim
 .
  rename_i ar dst x p
  split at b
  .
   rename_i id sz off len e u E
   split at b
   .
    rename_i L xs G
    obtain⟨⟨g,rfl,c3,rfl,rfl,rfl,rfl,q⟩,d⟩:=b;exact j80 h p u g G E c3 q hd d
   exact b.elim
  exact b.elim
 .
  rename_i t x lo hi mx p
  split at b
  .
   rename_i c r Y
   obtain⟨⟨g,j,c3,q,z⟩,d⟩:=b;exact j5d h p Y z g j c3 q hd d
  exact b.elim
 .
  rename_i t x y t' p
  split at b
  .
   rename_i sz xs u B
   obtain⟨⟨g,j,c3⟩,d⟩:=b;exact j5e h p u B g j c3 hd d
  .
   rename_i id sz off len u B
   obtain⟨⟨g,j,c3,q⟩,d⟩:=b;exact j22 (eq:=true) h p u B g j c3 q hd d
  .
   rename_i u B
   obtain⟨⟨g,j,c3⟩,d⟩:=b;exact j23 (eq:=true) h p u B g j c3 hd d
  exact b.elim
 .
  rename_i t x y t' p
  split at b
  .
   rename_i id sz off len u B
   obtain⟨⟨g,j,c3,q⟩,d⟩:=b;exact j22 (eq:=false) h p u B g j c3 q hd d
  .
   rename_i u B
   obtain⟨⟨g,j,c3⟩,d⟩:=b;exact j23 (eq:=false) h p u B g j c3 hd d
  exact b.elim
 . obtain⟨H,N,R,d,T⟩:=b;exact T s.env (λ_ _=>rfl) K d hd _ a w β h Q
 . obtain⟨H,N,R,d,T⟩:=b;exact T s.env (λ_ _=>rfl) K d hd _ a w β h Q
 .
  rename_i cl p
  split at b
  .
   rename_i x y t t' U V W
   split at b
   .
    rename_i e szx xs ids cb szy ys cs E hb Z
    split at b
    .
     rename_i zs I
     obtain⟨⟨rfl,j,c3,q,z,A,D,J,M,O,S⟩,d⟩:=b;exact zn3 h p U V W j c3 hb q Z z E A I D J M O S hd d
    exact b.elim
   . obtain⟨H,N,R,d,T⟩:=b;exact T s.env (λ_ _=>rfl) K d hd _ a w β h Q
   exact b.elim
  .
   rename_i x t U V W
   split at b
   .
    rename_i id sz off len e u E
    split at b
    .
     rename_i L xs zs G I
     obtain⟨⟨g,rfl,c3,q,z,A,D,J⟩,d⟩:=b;exact j82 h p U V W g u G c3 E q z I A D J hd d
    exact b.elim
   exact b.elim
  .
   rename_i x y t t' U V W
   split at b
   .
    rename_i id sz off len e szy ys cs u E Z
    split at b
    .
     rename_i L xs G
     obtain⟨⟨g,j,rfl,q,z,A,D,J⟩,d⟩:=b;exact jg0 h p U V W g j u G q Z z E A D J hd d
    exact b.elim
   .
    rename_i id off len e szy ys cs u E Z
    split at b
    .
     rename_i xs G
     obtain⟨⟨g,j,q,z,A,D,J⟩,d⟩:=b;exact j81 h p U V W g j u G q Z z E A D J hd d
    exact b.elim
   exact b.elim
  . obtain⟨H,N,R,d,T⟩:=b;exact T s.env (λ_ _=>rfl) K d hd _ a w β h Q
  .
   split at b
   .
    rename_i f ao hf
    obtain⟨⟨g,j,c3⟩,d⟩:=b;exact j24 h p (by assumption) hf j c3 hd d
   exact b.elim
  exact b.elim
 exact b.elim
end
end
section
open Go Go.RowKit
def z1d:AV->Bool->Option Bool
 |.v (.bool b),a=>some (b==a)
 |.grd h (.v (.bool b)),a=>some (h&&(b==a))
 |.v (.tuple _),_=>some false
 |.grd _ (.v (.tuple _)),_=>some false
 |.grd false .bU,_=>some false
 |_,_=>none
def mkG(g:Bool):AV->AV
 |.grd h a=> .grd (g&&h) a
 |a=> .grd g a
def q23(ops:Array Oper)(j:Nat):Option Nat:=(ops[j]?).bind (·.dst)
def vcO(P:Program)(o:Oper)(s:St)(K:St->Prop):Prop:=
 match qn5 P s.hp (y9 s.env) o.op with
 |some (c,r)=>c/\K (s.put o.dst r)
 |none=>vcX P o s K
def ze4:Op->Bool
 |.indexAddr .. |.index .. |.slice .. |.makeSlice .. |.binOp .quo .. |.binOp .rem .. =>true
 |.call c=>match c.callee with|.builtin .len=>false|.builtin .min=>false|.builtin .max=>false|_=>true
 |_=>false
def z2t(P:Program)(o:Oper)(K:St->Prop)(s:St)(g:Bool):Prop:=(g=true->vcO P o s K)/\(g=false->K (s.put o.dst (.v undef)))
theorem j8n(P:Program)(o:Oper)(K:St->Prop)(s:St):z2t P o K s true=vcO P o s K:=by simp[z2t]
theorem j8o(P:Program)(o:Oper)(K:St->Prop)(s:St):z2t P o K s false=K (s.put o.dst (.v undef)):=by simp[z2t]
def vcG(P:Program)(ops:Array Oper)(o:Oper)(s:St)(K:St->Prop):Prop:=
 match o.guard with
 |none=>vcO P o s K
 |some (j,a)=>match q23 ops j with
  |some d=>match z1d (q17 s.env d) a with
   |some g=>if ze4 o.op=true then z2t P o K s g else match qn5 P s.hp (y9 s.env) o.op with
    |some (c,r)=>(g=true->c)/\K (s.put o.dst (mkG g r))
    |none=>z2t P o K s g
   |none=>False
  |none=>False
def qe2(P:Program)(ops:Array Oper):List Oper->St->(St->Prop)->Prop
 |[],s,K=>K s
 |o::r,s,K=>vcG P ops o s λs'=>qe2 P ops r s' K
section
variable {P:Program} {C:Ctx P} {s:St} {a:Act} {w:World} {β:aF}
theorem qn4{ops:Array Oper}{o:Oper}{j d:Nat}{e g:Bool}(q:o.guard=some (j,e))(hd:q23 ops j=some d){nx:Nat}{ow:Nat->Prop}{x:AV}(hb:z1d x e=some g)
 {tmps:Array Value}(f:rep w β nx ow x (tmps.getD d undef)):Region.wanted o (yielded ops tmps)=g:=by
 have p:∀b,tmps.getD d undef=.bool b->yielded ops tmps j=some b:=λb hb=>by
  unfold yielded;unfold q23 at hd;rw[hd];simp only[Zg];rw[X5]at hb
  cases k:tmps[d]? with
  |none=>rw[k]at hb;cases hb
  |some v=>rw[k]at hb;simp only[Option.getD_some]at hb;subst hb;rfl
 have m:(∀b,tmps.getD d undef≠ .bool b)->yielded ops tmps j=none:=λhb=>by
  unfold yielded;unfold q23 at hd;rw[hd];simp only[Zg];rw[X5]at hb
  cases k:tmps[d]? with
  |none=>rfl
  |some v=>
   rw[k]at hb
   cases v<;>first|rfl|exact absurd rfl (hb _)
 unfold Region.wanted;rw[q];simp only;unfold z1d at hb
 split at hb
 .
  rename_i b
  simp only[Xa]at hb;simp only[rep]at f;rw[p b f,<-hb]
  cases b<;>cases e<;>rfl
 .
  rename_i h b
  simp only[Xa]at hb;simp only[rep]at f
  cases h with
  |true=>
   rw[p b (f.1 rfl),<-hb]
   cases b<;>cases e<;>rfl
  |false=>
   rw[m (λb c=>by rw[f.2 rfl]at c;cases c),<-hb];simp
 . simp only[Xa]at hb;simp only[rep]at f;rw[m (λb c=>by rw[f]at c;cases c),<-hb];simp
 .
  rename_i h l
  simp only[Xa]at hb;simp only[rep]at f;have n:∀b,tmps.getD d undef≠ .bool b:=λb c=>by
   cases h with
   |true=>rw[f.1 rfl]at c;cases c
   |false=>rw[f.2 rfl]at c;cases c
  rw[m n,<-hb];simp
 . simp only[Xa]at hb;simp only[rep]at f;rw[m (λb c=>by rw[f.2 trivial]at c;cases c),<-hb];simp
 cases hb
theorem z2w{nx:Nat}{ow:Nat->Prop}{r:AV}{u:Value}(h:rep w β nx ow r u):rep w β nx ow (mkG true r) u:=by
 cases r<;>simp only[mkG]<;>simp only[rep]at h⊢<;>first
  |exact⟨λ_=>h,λb=>by cases b⟩
  |simpa using h
theorem z1h{nx:Nat}{ow:Nat->Prop}{r:AV}:rep w β nx ow (mkG false r) undef:=by
 cases r<;>simp[mkG,rep]
theorem zn5(h:Rel C s a w β){o:Oper}{K:St->Prop}{Q:Exit->Act->World->Prop}(hd:dok s.nt o.dst=true)(b:vcO P o s K):o.wp P a w (RK C K) Q:=by
 unfold vcO at b
 split at b
 .
  rename_i c r d
  obtain⟨z,f,g⟩:=z6s h.hp (λx=>h.ev x) (λ_ _ e=>by subst e;rfl) d b.1;unfold Oper.wp;rw[f];exact⟨_,_,h.put g hd,b.2⟩
 exact zn4 h hd b
theorem zn6(h:Rel C s a w β){ops:Array Oper}{o:Oper}{K:St->Prop}{Q:Exit->Act->World->Prop}(hd:dok s.nt o.dst=true)(b:vcG P ops o s K):
 if Region.wanted o (yielded ops a.tmps)then o.wp P a w (RK C K) Q else RK C K (a.put o.dst undef) w:=by
 unfold vcG at b
 split at b
 .
  rename_i k
  rw[if_pos (by simp[Region.wanted,k])];exact zn5 h hd b
 rename_i j n k
 split at b
 .
  rename_i d l
  split at b
  .
   rename_i g m
   have p:=qn4 k l m (h.env d);rw[p];have f:z2t P o K s g->if g=true then o.wp P a w (RK C K) Q else RK C K (a.put o.dst undef) w:=λb=>by
    cases g with
    |true=>rw[if_pos rfl];exact zn5 h hd (b.1 rfl)
    |false=>
     rw[if_neg (by simp)];exact⟨_,_,h.put (by simp only[rep]) hd,b.2 rfl⟩
   split at b
   . exact f b
   split at b
   .
    rename_i c r q
    cases g with
    |true=>
     rw[if_pos rfl];obtain⟨z,t,u⟩:=z6s h.hp (λx=>h.ev x) (λ_ _ e=>by subst e;rfl) q (b.1 rfl);unfold Oper.wp;rw[t];exact⟨_,_,h.put (z2w u) hd,b.2⟩
    |false=>
     rw[if_neg (by simp)];exact⟨_,_,h.put z1h hd,b.2⟩
   exact f b
  exact b.elim
 exact b.elim
def z0y(n:Nat)(ops:List Oper):Bool:=ops.all λo=>dok n o.dst
theorem z9v{ops:Array Oper}{Q:Exit->Act->World->Prop}{K:St->Prop}(u:∀a w,RK C K a w->Q .normal a w):∀(l:List Oper) (s:St) (a:Act) (w:World) (β:aF),Rel C s a w β->z0y s.nt l=true->qe2 P ops l s K->wpList P ops Q l a w
 |[],s,a,w,β,h,_,k=>u a w ⟨s,β,h,k⟩
 |o::r,s,a,w,β,h,f,k=>by
  simp only[z0y,List.all_cons,Xd]at f;have d:=zn6 (Q:=Q) h f.1 k;unfold wpList;have b:∀g w',g.tmps.size=a.tmps.size->RK C (λs'=>qe2 P ops r s' K) g w'->wpList P ops Q r g w':=by
   rintro g w' m ⟨s',β',y,z⟩;refine z9v u r s' g w' β' y ?_ z;have:s'.nt=s.nt:=by rw[<-y.nt,m,h.nt]
   rw[this];exact f.2
  have c:∀v,(a.put o.dst v).tmps.size=a.tmps.size:=λv=>by
   cases p:o.dst<;>simp[Act.put]
  split
  .
   rename_i q
   rw[if_pos q]at d
   left
   unfold Oper.wp at d⊢
   generalize (execOp a.eval o).run P w=t at d⊢
   cases t with
   |ok n w'=>
    cases n<;>simp only[Oper.upon]at d⊢
    . exact b _ _ (c _) d
    . exact b _ _ (c _) d
    .
     exact d.mono λe A j=>by
      cases e<;>first|exact b _ _ (c _) j|exact j
    .
     refine b _ _ ?_ d
     cases p:o.dst<;>simp[Act.put]
    exact d.mono λ_ _ j=>b _ _ (c _) j
   |halt x w'=>cases x<;>simp only[Oper.upon]at d⊢<;>exact d
  rename_i q
  rw[if_neg q]at d;exact b _ _ (c _) d
end
end
section
open Go Go.RowKit
def z5v(ops:Array Oper):Bool:=
 Region.noSelect ops&&(Zi ops.size).all λj=>match ops[j]? with
  |some a=>a.after.all (λe=>!Region.binds .any e||decide (e.on<j))&&(Zi j).all λi=>match ops[i]? with
   |some b=>a.after.any (λe=>Region.binds .any e&&e.on==i)||b.apart ops a
   |none=>true
  |none=>true
def okB(n:Nat):Code->Bool
 |.region _ ops d=>z0y n ops.toList&&(!d||z5v ops)
 |.seq a b=>okB n a&&okB n b
 |.cond _ a b=>okB n a&&okB n b
 |.block _ c=>okB n c
 |.loop c=>okB n c
 |.scope c=>okB n c
 |_=>true
def wpV(P:Program)(c:Code)(Q:Exit->St->Prop)(s:St):Prop:=
 okB s.nt c=true->∀(C:Ctx P) (a:Act) (w:World) (β:aF),Rel C s a w β->∀b:Exit->Act->World->Prop,
  (∀e s' d w' β',Rel C s' d w' β'->Q e s'->b e d w')->c.wp P b a w
def z13(P:Program)(ops:Array Oper)(s:St)(K:St->Prop):Prop:=
 ∀id,wpV P (.region id ops true) (λe s'=>e=.normal/\K s') s
def q6x(N:St->Prop)(Q:Exit->St->Prop):Exit->St->Prop
 |.normal,s=>N s
 |.exit i,s=>Q (.exit i) s
 |.ret,s=>Q .ret s
 |_,_=>False
def q9m(id:Nat)(Q:Exit->St->Prop):Exit->St->Prop
 |.exit j,s=>if j=id then Q .normal s else Q (.exit j) s
 |.normal,s=>Q .normal s
 |.ret,s=>Q .ret s
 |_,_=>False
def dZ:Code->Bool
 |.ret|.exit _|.goto _|.loop _=>false
 |.seq a b=>dZ a&&dZ b
 |.cond _ a b=>dZ a||dZ b
 |_=>true
def cI:Code->Bool
 |.seq a b=>cI a||cI b
 |.cond _ a b=>dZ a&&dZ b||cI a||cI b
 |.block _ c=>cI c
 |.loop _=>true
 |.scope c=>cI c
 |_=>false
def vc(P:Program):Code->(Exit->St->Prop)->St->Prop
 |.skip,Q,s=>Q .normal s
 |.label _,Q,s=>Q .normal s
 |.ret,Q,s=>Q .ret s
 |.exit i,Q,s=>Q (.exit i) s
 |.region _ ops d,Q,s=>if d=true then z13 P ops s (Q .normal)else qe2 P ops ops.toList s (Q .normal)
 |.seq a b,Q,s=>if cI a=true then wpV P (.seq a b) Q s else vc P a (q6x (vc P b Q) Q) s
 |.cond c x y,Q,s=>match y9 s.env c with
  |.v (.bool b)=>(b=true->vc P x Q s)/\(b=false->vc P y Q s)
  |_=>False
 |.block i c,Q,s=>vc P c (q9m i Q) s
 |.loop c,Q,s=>wpV P (.loop c) Q s
 |_,_,_=>False
section
variable {P:Program} {C:Ctx P} {s:St} {a:Act} {w:World} {β:aF}
theorem q8e:∀(c:Code) (Q:Exit->St->Prop) (s:St),vc P c Q s->wpV P c Q s
 |.skip,Q,s,h=>λ_ C a w β j k g=>wp_skip (g _ _ _ _ _ j h)
 |.label _,Q,s,h=>λ_ C a w β j k g=>wp_label (g _ _ _ _ _ j h)
 |.ret,Q,s,h=>λ_ C a w β j k g=>wp_ret (g _ _ _ _ _ j h)
 |.exit i,Q,s,h=>λ_ C a w β j k g=>wp_exit (g _ _ _ _ _ j h)
 |.region id ops n,Q,s,h=>λd C a w β j k g=>by
  unfold vc at h;simp only[okB,Xd]at d
  cases n with
  |true=>
   rw[if_pos rfl]at h;exact h id (by simp only[okB,Xd];exact d) C a w β j k (λe s' o w' β' f p=>by
    obtain⟨rfl,p⟩:=p;exact g _ _ _ _ _ f p)
  |false=>
   rw[if_neg (by simp)]at h;exact wp_region_list (z9v (K:=Q .normal) (λo w' ⟨s',β',f,u⟩=>g _ _ _ _ _ f u) ops.toList s a w β j d.1 h)
 |.seq x y,Q,s,h=>λd C a w β j k g=>by
  unfold vc at h
  split at h
  . exact h d C a w β j k g
  simp only[okB,Xd]at d;refine wp_seq (q8e x _ s h d.1 C a w β j _ ?_);intro e s' o w' β' f l;have q:s'.nt=s.nt:=f.ntc.trans j.ntc.symm
  cases e<;>simp only[q6x]at l<;>simp only[Exit.then]
  . exact q8e y Q s' l (by rw[q];exact d.2) C o w' β' f k g
  . exact g _ _ _ _ _ f l
  exact g _ _ _ _ _ f l
 |.cond c x y,Q,s,h=>λd C a w β j k g=>by
  unfold vc at h;simp only[okB,Xd]at d
  split at h
  .
   rename_i b hb
   have:=j.ev c;rw[hb]at this;simp only[rep]at this;exact wp_cond_split this (λm=>q8e x Q s (h.1 m) d.1 C a w β j k g) (λm=>q8e y Q s (h.2 m) d.2 C a w β j k g)
  exact h.elim
 |.block i c,Q,s,h=>λd C a w β j k g=>by
  unfold vc at h;refine wp_block (q8e c _ s h d C a w β j _ ?_);intro e s' o w' β' f l
  cases e<;>simp only[q9m]at l<;>simp only[Exit.inBlock]
  . exact g _ _ _ _ _ f l
  .
   split at l
   . rename_i t;rw[if_pos t];exact g _ _ _ _ _ f l
   rename_i t;rw[if_neg t];exact g _ _ _ _ _ f l
  exact g _ _ _ _ _ f l
 |.loop c,Q,s,h=>h
 |.rangeFunc ..,_,_,h=>by unfold vc at h;exact h.elim
 |.scope _,_,_,h=>by unfold vc at h;exact h.elim
 |.goto _,_,_,h=>by unfold vc at h;exact h.elim
 |.refuse _,_,_,h=>by unfold vc at h;exact h.elim
end
end
section
open Go Go.RowKit
section
variable {P:Program} {C:Ctx P} {s:St} {a:Act} {w:World} {β:aF}
theorem j7y{c:Code}{Q:Exit->St->Prop}{s':St}{l:List (Option Nat)}(e:Le s s' l)(h:wpV P c Q s'):wpV P c Q s:=
 λb C a w β f g j=>by
  obtain⟨β',d,_⟩:=qo9 f e;exact h (by rw[e.1];exact b) C a w β' d g j
theorem zu5{c:Code}{Q f:Exit->St->Prop}(h:wpV P c Q s)(g:∀e s,Q e s->f e s):wpV P c f s:=
 λb C a w β j k l=>h b C a w β j k λe s' m w' β' d n=>l e s' m w' β' d (g _ _ n)
def gg(P:Program)(y:Code)(Q:Exit->St->Prop)(s:St):Prop:=vc P y Q s
theorem jq1{x y:Code}{Q:Exit->St->Prop}(h:vc P x (q6x (gg P y Q) Q) s):wpV P (.seq x y) Q s:=λc C a w β j k f=>by
 simp only[okB,Xd]at c;refine wp_seq (q8e x _ s h c.1 C a w β j _ ?_);intro e s' l w' β' b d;have g:s'.nt=s.nt:=b.ntc.trans j.ntc.symm
 cases e<;>simp only[q6x]at d<;>simp only[Exit.then]
 . exact q8e y Q s' d (by rw[g];exact c.2) C l w' β' b k f
 . exact f _ _ _ _ _ b d
 exact f _ _ _ _ _ b d
theorem jh9{ι:Type}{x y:Code}{Q:Exit->St->Prop}(S:ι->St)(I:ι->Prop)(h:vc P x (q6x (λs'=>∃i l,Le s' (S i) l/\I i) Q) s)(o:∀i,I i->vc P y Q (S i)):wpV P (.seq x y) Q s:=λc C a w β m p f=>by
 simp only[okB,Xd]at c;refine wp_seq (q8e x _ s h c.1 C a w β m _ ?_);intro e s' q w' β' b d;have g:s'.nt=s.nt:=b.ntc.trans m.ntc.symm
 cases e<;>simp only[q6x]at d<;>simp only[Exit.then]
 . obtain⟨i,l,n,t⟩:=d;obtain⟨j,k,_⟩:=qo9 b n;exact q8e y Q (S i) (o i t) (by rw[n.1,g];exact c.2) C q w' j k p f
 . exact f _ _ _ _ _ b d
 exact f _ _ _ _ _ b d
theorem z6z{p:Nat->Prop}(h:∃n,p n):∃n,p n/\∀k,p k->n<=k:=by
 obtain⟨n,f⟩:=h
 induction n using Nat.strongRecOn with
 |_ n g=>
  by_cases e:∃k,k<n/\p k
  . obtain⟨k,b,hp⟩:=e;exact g k b hp
  refine⟨n,f,λk b=>?_⟩;rcases Yq k n with c|d
  . exact absurd ⟨k,c,b⟩ e
  exact d
theorem z9y{ι:Type}{c:Code}{Q:Exit->St->Prop}(S:ι->St)(I:ι->Prop)(f:ι->Nat)(i0:ι)(l0:List (Option Nat))(N:Le s (S i0) l0)(O:I i0)
 (R:∀i,I i->wpV P c (q6x (λs'=>∃b J,Le s' (S b) J/\I b/\f b<f i) Q) (S i)):wpV P (.loop c) Q s:=by
 intro p C a w β K V L;simp only[okB]at p
 let Inv:Act->World->Prop:=λa w=>∃i β,Rel C (S i) a w β/\I i
 let has:Act->World->Nat->Prop:=λa w n=>∃i β,Rel C (S i) a w β/\I i/\f i=n
 classical
 let m:Act->World->Nat:=λa w=>if h:∃n,has a w n then Classical.choose (z6z h)else 0
 obtain⟨β0,y,_⟩:=qo9 K N;refine wp_loop Inv m ⟨i0,β0,y,O⟩ ?_;rintro a1 w1 ⟨i,z,A,B⟩;have q:∃n,has a1 w1 n:=⟨f i,i,z,A,B,rfl⟩;obtain⟨j,D,t,E,G⟩:=(Yy (z6z q)).1;have W:m a1 w1=f j:=by simp only[m,dif_pos q];exact G.symm
 have H:(S j).nt=s.nt:=t.ntc.trans K.ntc.symm;refine R j E (by rw[H];exact p) C a1 w1 D t _ ?_;intro e s' M w' β' g u
 cases e<;>simp only[q6x]at u<;>simp only[Exit.then]
 .
  obtain⟨b,J,T,k,U⟩:=u;obtain⟨l,o,_⟩:=qo9 g T;refine⟨⟨b,l,o,k⟩,?_⟩;have d:∃n,has M w' n:=⟨f b,b,l,o,k,rfl⟩;have:m M w'<=f b:=by
   simp only[m,dif_pos d];exact (Yy (z6z d)).2 _ ⟨b,l,o,k,rfl⟩
  omega
 . exact L _ _ _ _ _ g u
 exact L _ _ _ _ _ g u
def qr6:List AV->Nat->List (Nat×AV)
 |[],_=>[]
 |a::r,k=>(k,a)::qr6 r (k+1)
theorem zq4:∀(as:List AV) (k t:Nat),q17 (qr6 as k) t=if t<k then .bU else as.getD (t-k) .bU
 |[],k,t=>by simp[qr6,q17]
 |a::as,k,t=>by
  simp only[qr6,q17]
  split
  . rename_i h;subst h;simp
  rename_i h
  rw[zq4 as (k+1) t]
  by_cases b:t<k
  . rw[if_pos (by omega),if_pos b]
  rw[if_neg (by omega),if_neg b,show t-k=(t-(k+1))+1 by omega,List.getD_cons_succ]
def z0e(P:Program)(hp:Hp)(env:List (Nat×AV)):List ResultVar->Option (Prop×List AV)
 |[]=>some (True,[])
 |.tmp t::r=>(z0e P hp env r).map λp=>((q17 env t).aZ/\p.1,(q17 env t).st::p.2)
 |.cell t ty::r=>match z99 P hp ty (q17 env t).st,z0e P hp env r with
  |some (c,x),some (b,xs)=>some ((q17 env t).aZ/\c/\b,x::xs)
  |_,_=>none
def oneOf:List AV->AV
 |[x]=>x
 |xs=> .tup xs
def z2v(s:St)(r:AV)(Q:AV->Hp->Nat->Prop):Prop:=
 ∃(l:List (Option Nat)) (hp':Hp) (nx':Nat) (b:AV),Le s ⟨s.nb,[],hp',nx',s.nt⟩ l/\bE (q72 s.nb l) s.hp (λj=>qb0 (q72 s.nb l) j hp') nx' r b/\Q b hp' nx'
def z4t(P:Program)(b:List ResultVar)(Q:AV->Hp->Nat->Prop):Exit->St->Prop
 |.normal,s=>match z0e P s.hp s.env b with
  |some (c,d)=>c/\z2v s (oneOf d) Q
  |none=>False
 |.ret,s=>match z0e P s.hp s.env b with
  |some (c,d)=>c/\z2v s (oneOf d) Q
  |none=>False
 |_,_=>False
theorem z6d(h:Rel C s a w β):∀{g:List ResultVar} {c:Prop} {j:List AV},z0e P s.hp s.env g=some (c,j)->c->
 ∃vs,(g.mapM (λr=>match r with|.tmp t=>pure (a.tmps.getD t undef)|.cell b t=>do loadVar t (<-asAddr (a.tmps.getD b undef)):ResultVar->Sem Value)).run P w=.ok vs w/\y8 w β s.nx (own β s.hp C.A) j vs
 |[],c,j,d,_=>by
  simp only[z0e,Xa,Xf]at d;obtain⟨_,rfl⟩:=d;exact⟨[],rfl,by simp[y8]⟩
 |.tmp t::r,c,j,d,e=>by
  simp only[z0e,Xg,Xf]at d;obtain⟨⟨B,q⟩,k,rfl,rfl⟩:=d;obtain⟨vs,l,m⟩:=z6d h k e.2;refine⟨a.tmps.getD t undef::vs,?_,by simp only[y8];exact⟨q1n (h.env t) e.1,m⟩⟩;simp only[List.mapM_cons,Sem.run_bind,Sem.run_pure,Result.andThen_ok,l]
 |.cell t ty::r,c,j,d,e=>by
  unfold z0e at d
  split at d
  .
   rename_i D x E xs k l
   simp only[Xa,Xf]at d;obtain⟨rfl,rfl⟩:=d;obtain⟨vs,m,u⟩:=z6d h l e.2.2;obtain⟨z,f,y⟩:=z9z h.hp k e.2.1 (q1n (h.env t) e.1);refine⟨z::vs,?_,by simp only[y8];exact⟨y,u⟩⟩;have o:(do loadVar ty (<-asAddr (a.tmps.getD t undef)):Sem Value).run P w=.ok z w:=by
    cases n:a.tmps.getD t undef with
    |pointer p=>
     cases p with
     |none=>rw[n]at f;simp[Instr.loadAt,Instr.sureAddr]at f
     |some ad=>rw[n]at f;simpa [Instr.loadAt,Instr.sureAddr,asAddr]using f
    |_=>rw[n]at f;simp[Instr.loadAt,Instr.sureAddr]at f
   simp only[List.mapM_cons,Sem.run_bind]at o⊢;rw[o];simp only[Result.andThen_ok,m,Sem.run_pure]
  cases d
theorem zs1(h:Rel C s a w β){fn:Func}{c:Prop}{d:List AV}(e:z0e P s.hp s.env fn.results.toList=some (c,d))(f:c):
 ∃v,(results fn a.tmps).run P w=.ok v w/\rep w β s.nx (own β s.hp C.A) (oneOf d) v:=by
 obtain⟨vs,g,b⟩:=z6d h e f;have j:(results fn a.tmps).run P w=.ok (if h:vs.length=1 then vs[0]else .tuple ⟨vs⟩) w:=by
  unfold results;rw[Array.mapM_eq_mapM_toList];simp only[Sem.run_bind,Sem.run_map]
  erw [g]
  simp only[Result.andThen_ok,Sem.run_pure,X3];rfl
 refine⟨_,j,?_⟩;have k:=q1t b
 match d,vs,k,b with
 |[x],[v],_,b=>simp only[y8]at b;simpa [oneOf]using b.1
 |[],[],_,b=>simp[oneOf,rep];exact b
 |x::y::r,u::v::q,_,b=>simp only[oneOf,rep];exact⟨u::v::q,by simp,b⟩
theorem Spec.of_wp{f:FuncId}{fn:Func}{c:Code}{args:List AV}{hp:Hp}{nx:Nat}{Q:AV->Hp->Nat->Prop}(H:P.funcs[f]?=some fn)(hb:fn.body=some c)(o:okB fn.ntmps c=true)(g:(decide (args.length<=fn.ntmps)&&!(fn.name=="runtime.NumGoroutine"))=true)
 (L:wpV P c (z4t P fn.results.toList Q) ⟨nx,qr6 args 0,hp,nx,fn.ntmps⟩):Spec P f args hp nx Q:=by
 intro w β A vs M j q u;rw[Xd,decide_eq_true_eq]at g;have y:args.length<=fn.ntmps:=g.1;have N:=q1t j
 let C:Ctx P:=⟨w,β,nx,hp,A,fn.ntmps⟩
 have O:Rel C ⟨nx,qr6 args 0,hp,nx,fn.ntmps⟩ {tmps:=(⟨vs⟩:Array Value)++Array.replicate (fn.ntmps-(⟨vs⟩:Array Value).size) undef,defers:=[]} w β:=by
  refine {df:=rfl,nt:=?_,ntc:=rfl,nb:=rfl,alt:=M,gs:=u,hp:=q,env:=?_,ext:=?_}
  . simp only[Array.size_append,X3,Array.size_replicate];omega
  .
   intro t;simp only[zq4,Xz,if_false,Nat.sub_zero];rcases Yq t args.length with z|B
   .
    have:=qv3 j t z;rw[X5,Array.getElem?_append_left (by simp;omega)]
    simpa [Ym]using this
   rw[Ym,List.getElem?_eq_none B];simp only[Option.getD_none,rep]
  exact {nx:=Xc _,gh:=λ_ _=>rfl,gi:=λ_ _ _=>rfl,ids:=λp hp'=> .inl (Xj hp'),blk:=λp hp' b D=> .inl ⟨p,hp',D⟩,os:=rfl,tape:=rfl,output:=⟨rfl,λ_=>Xc _⟩,size:=Xc _,keep:=λ_ _ _=>rfl}
 refine cx.of (by unfold u7;rw[H];simp only[hb,g.2,Option.isSome_some,Bool.and_self]) ?_;refine calls_of_wp H hb (L o C _ w β O _ ?_);have key:∀(s':St) (k:Act) (w':World) (β':aF),Rel C s' k w' β'->(match z0e P s'.hp s'.env fn.results.toList with
  |some (c,I)=>c/\z2v s' (oneOf I) Q
  |none=>False)->k.defers=[]/\∃v,(results fn k.tmps).run P w'=.ok v w'/\∃J r hp' nx' β',Ending.returned v=.returned J/\Q r hp' nx'/\rep w' β' nx' (own β' hp' A) r J/\b8 w' β' nx' A hp'/\Ext w β nx hp w' β' nx' hp':=by
  intro s' k w' β' d m
  split at m
  .
   rename_i Y I E
   obtain⟨R,l,hp',nx',K,S,T,U⟩:=m;obtain⟨v,V,W⟩:=zs1 d E R;obtain⟨G,n,X⟩:=qo9 d S;exact⟨d.df,v,V,v,K,hp',nx',G,rfl,U,X _ K v T W,n.hp,n.ext⟩
  exact m.elim
 intro e s' k w' β' d m
 cases e<;>simp only[z4t]at m<;>simp only[bodyPost]
 . exact key s' k w' β' d m
 exact key s' k w' β' d m
theorem Spec.eB{f:FuncId}{fn:Func}{c:Code}{args:List AV}{hp:Hp}{nx:Nat}{Q:AV->Hp->Nat->Prop}(e:P.funcs[f]?=some fn)(hb:fn.body=some c)(d:okB fn.ntmps c=true)(b:(decide (args.length<=fn.ntmps)&&!(fn.name=="runtime.NumGoroutine"))=true)
 (g:vc P c (z4t P fn.results.toList Q) ⟨nx,qr6 args 0,hp,nx,fn.ntmps⟩):Spec P f args hp nx Q:=Spec.of_wp e hb d b (q8e c _ _ g)
theorem z7g{f:FuncId}{args:List AV}{K:St->AV->Prop}{hp1 hp2:Hp}{Q:AV->Hp->Nat->Prop}(B:s.hp.Perm (hp1++hp2))(h:Spec P f args hp1 s.nx Q)
 (hk:∀r hp' nx',Q r hp' nx'->K {s with hp:=hp'++hp2,nx:=nx'} r):q9r P s f args K:=by
 intro C a w β vs n O;have d:∀p,p∈s.hp↔p∈hp1\/p∈hp2:=λp=>by rw[B.mem_iff,Xe]
 have S:((hp1++hp2).map (·.1)).Nodup:=(B.map _).nodup_iff.1 n.hp.nd;rw[Ys,Zc]at S;obtain⟨T,U,D⟩:=S
 let V:Nat->Prop:=λb=>C.A b\/cn β hp2 b
 have W:∀b,cn β s.hp b->b<w.heap.size:=λb ⟨q,g,k⟩=>n.hp.cC q g b k;have N:own β hp1 V=own β s.hp C.A:=by
  funext b
  apply propext
  constructor
  .
   rintro ((m|⟨q,g,k⟩)|⟨q,g,k⟩)
   . exact .inl m
   . exact .inr ⟨q,(d q).2 (.inr g),k⟩
   exact .inr ⟨q,(d q).2 (.inl g),k⟩
  rintro (m|⟨q,g,k⟩)
  . exact .inl (.inl m)
  rcases (d q).1 g with g|g
  . exact .inr ⟨q,g,k⟩
  exact .inl (.inr ⟨q,g,k⟩)
 have o:∀p∈hp1,∀q∈hp2,∀b,bof β p.1 b->bof β q.1 b->False:=λp hp q g b m R=>by
  have:=n.hp.bD p ((d p).2 (.inl hp)) q ((d q).2 (.inr g)) b m R;exact D p.1 (Xj hp) q.1 (Xj g) this
 have X:b8 w β s.nx V hp1:=by
  refine⟨λp hp=>?_,λp hp=>n.hp.lt p ((d p).2 (.inl hp)),T,λp hp q g=>n.hp.inj p ((d p).2 (.inl hp)) q ((d q).2 (.inl g)),λp hp b c E=>?_,λp hp=>n.hp.i0 p ((d p).2 (.inl hp)),λp hp b hb=>?_⟩
  . rw[N];exact n.hp.obj p ((d p).2 (.inl hp))
  .
   rintro (z|⟨q,g,t⟩)
   . exact n.hp.av p ((d p).2 (.inl hp)) b c E z
   exact o p hp q g b (.inl ⟨c,E⟩) t
  obtain⟨i1,i2,i3,Y⟩:=n.hp.ib p ((d p).2 (.inl hp)) b hb;refine⟨i1,?_,λq g=>i3 q ((d q).2 (.inl g)),λq g=>Y q ((d q).2 (.inl g))⟩;rintro (z|⟨q,g,t⟩)
  . exact i2 z
  exact o p hp q g b (.inr hb) t
 have a6:∀b,V b->b<w.heap.size:=by
  rintro b (z|⟨q,g,k⟩)
  . exact n.alt b z
  exact W b ⟨q,(d q).2 (.inr g),k⟩
 refine (h w β V vs a6 (by rw[N];exact O) X ((n.gs.ext n.ext).sub λb ⟨q,g,hb⟩=>⟨q,(d q).2 (.inl g),hb⟩)).mono ?_;rintro e w' ⟨v,r,hp',nx',β',rfl,g,hr,l,j⟩;have G:∀q∈hp2,β' q.1=β q.1:=λq g=>j.gh q.1 (n.hp.lt q ((d q).2 (.inr g)));have H:∀q∈hp2,β'.inn q.1=β.inn q.1:=λq g=>j.gi q.1 (n.hp.lt q ((d q).2 (.inr g))) λhm=>by
  obtain⟨p,hp,Z⟩:=Xs.1 hm;exact D p.1 (Xj hp) q.1 (Xj g) Z
 have u:∀q∈hp2,∀b,bof β' q.1 b↔bof β q.1 b:=λq g b=>by unfold bof;rw[G q g,H q g]
 have I:own β' hp' V=own β' (hp'++hp2) C.A:=by
  funext b
  apply propext
  constructor
  .
   rintro ((m|⟨q,g,k⟩)|⟨q,g,k⟩)
   . exact .inl m
   . exact .inr ⟨q,Yz _ g,(u q g b).2 k⟩
   exact .inr ⟨q,Y4 _ g,k⟩
  rintro (m|⟨q,g,k⟩)
  . exact .inl (.inl m)
  rcases Xe.1 g with g|g
  . exact .inr ⟨q,g,k⟩
  exact .inl (.inr ⟨q,g,(u q g b).1 k⟩)
 have hK:∀b,b<w.heap.size->¬cn β s.hp b->w'.heap[b]?=w.heap[b]?:=λb hb J=>j.keep b hb λ⟨q,g,k⟩=>J ⟨q,(d q).2 (.inl g),k⟩;have hO:∀b,b<w.heap.size->cn β' (hp'++hp2) b->cn β s.hp b:=by
  rintro b hb ⟨q,g,k⟩;rcases Xe.1 g with g|g
  .
   rcases j.blk q g b k with⟨q',ao,t⟩|b3
   . exact⟨q',(d q').2 (.inl ao),t⟩
   omega
  exact⟨q,(d q).2 (.inr g),(u q g b).1 k⟩
 have hA:b9 w w' (own β s.hp C.A) (own β' (hp'++hp2) C.A):=⟨j.size,λb J hb=>⟨hK b hb (λz=>J (.inr z)),λar=>by
  rcases ar with hh|hh
  . exact J (.inl hh)
  exact J (.inr (hO b hb hh))⟩⟩
 have b0:=n.step (w':=w') (β':=β') (hp':=hp'++hp2) (nx':=nx') j.nx (λid hid=>j.gh id hid) j.size hK hO (by
  refine⟨?_,?_,?_,?_,?_,?_,?_⟩
  .
   intro p hp;rcases Xe.1 hp with hp|hp
   . rw[<-I];exact l.obj p hp
   have L:=(d p).2 (.inr hp);exact q48 hA j.nx (λid hid=>j.gh id hid) (n.hp.lt p L) (λb E=>j.keep b (W b ⟨p,L,E⟩) (λ⟨q,g,t⟩=>o q g p hp b t E)) (λ_=>H p hp) (n.hp.obj p L)
  .
   intro p hp;rcases Xe.1 hp with hp|hp
   . exact l.lt p hp
   exact Yk (n.hp.lt p ((d p).2 (.inr hp))) j.nx
  .
   rw[Ys,Zc];refine⟨l.nd,U,?_⟩;intro x z y hy b1;obtain⟨p,hp,rfl⟩:=Xs.1 z;obtain⟨q,g,rfl⟩:=Xs.1 hy;rcases j.ids p hp with m|m
   . exact D p.1 m q.1 (Xj g) b1
   have:=n.hp.lt q ((d q).2 (.inr g));omega
  .
   intro p hp q g b c c' m R;rcases Xe.1 hp with hp|hp<;>rcases Xe.1 g with g|g
   . exact l.inj p hp q g b c c' m R
   . exact absurd (.inr ⟨q,g,(u q g b).1 (.inl ⟨c',R⟩)⟩) (l.av p hp b c m)
   . exact absurd (.inr ⟨p,hp,(u p hp b).1 (.inl ⟨c,m⟩)⟩) (l.av q g b c' R)
   rw[G p hp]at m;rw[G q g]at R;exact n.hp.inj p ((d p).2 (.inr hp)) q ((d q).2 (.inr g)) b c c' m R
  .
   intro p hp b c m;rcases Xe.1 hp with hp|hp
   . exact λz=>l.av p hp b c m (.inl z)
   rw[G p hp]at m;exact n.hp.av p ((d p).2 (.inr hp)) b c m
  .
   intro p hp k;rcases Xe.1 hp with hp|hp
   . exact l.i0 p hp k
   rw[H p hp];exact n.hp.i0 p ((d p).2 (.inr hp)) k
  .
   intro p hp b hb;rcases Xe.1 hp with hp|hp
   .
    obtain⟨i1,i2,i3,Y⟩:=l.ib p hp b hb;refine⟨i1,λz=>i2 (.inl z),λq g c k=>?_,λq g k=>?_⟩
    .
     rcases Xe.1 g with g|g
     . exact i3 q g c k
     exact i2 (.inr ⟨q,g,(u q g b).1 (.inl ⟨c,k⟩)⟩)
    rcases Xe.1 g with g|g
    . exact Y q g k
    exact absurd (.inr ⟨q,g,(u q g b).1 (.inr k)⟩) i2
   have L:=(d p).2 (.inr hp);have M:=hb;rw[H p hp]at M;obtain⟨i1,i2,i3,Y⟩:=n.hp.ib p L b M;refine⟨Yk i1 j.size,i2,λq g c k=>?_,λq g k=>?_⟩
   .
    rcases Xe.1 g with g|g
    . exact l.dM q g b (.inl ⟨c,k⟩) (.inr ⟨p,hp,.inr M⟩)
    rw[G q g]at k;exact i3 q ((d q).2 (.inr g)) c k
   rcases Xe.1 g with g|g
   . exact absurd (.inr ⟨p,hp,.inr M⟩) (l.dM q g b (.inr k))
   rw[H q g]at k;exact Y q ((d q).2 (.inr g)) k) (λp hp=>by
  rcases Xe.1 hp with hp|hp
  .
   rcases j.ids p hp with m|m
   . obtain⟨q,g,Z⟩:=Xs.1 m;exact .inl (by rw[<-Z];exact Xj ((d q).2 (.inl g)))
   exact .inr m
  exact .inl (Xj ((d p).2 (.inr hp)))) j.os j.tape j.output (λid hid b2=>j.gi id hid λhm=>b2 (by
  obtain⟨p,hp,Z⟩:=Xs.1 hm;exact Xs.2 ⟨p,(d p).2 (.inl hp),Z⟩))
 exact⟨v,r,_,β',rfl,b0,by rw[<-I];exact hr,hk r hp' nx' g⟩
theorem qr5{f:FuncId}{args args':List AV}{K:St->AV->Prop}{s':St}{l:List (Option Nat)}(e:Le s s' l)(c:bE.AvLeL (q72 s.nb l) s.hp (λj=>qb0 (q72 s.nb l) j s'.hp) s'.nx args args')
 (h:q9r P s' f args' K):q9r P s f args K:=by
 intro C a w β vs g b;obtain⟨β',d,k⟩:=qo9 g e;refine h C a w β' vs d ?_;clear h
 induction args generalizing args' vs with
 |nil=>cases args'<;>cases vs<;>simp only[bE.AvLeL,y8]at c b⊢
 |cons x xs m=>
  cases args' with
  |nil=>simp only[bE.AvLeL]at c
  |cons y ys=>
   cases vs with
   |nil=>simp only[y8]at b
   |cons v vs=>
    simp only[bE.AvLeL]at c;simp only[y8]at b⊢;exact⟨k _ _ _ c.1 b.1,m c.2 vs b.2⟩
end
end
section
open Go Go.RowKit
def zj5(r:AV)(nx:Nat)(a:AV)(hp':Hp)(nx':Nat):Prop:=a=r/\hp'=[]/\nx'=nx
def be(P:Program)(f:FuncId)(args:List AV)(nx:Nat)(r:AV):Prop:=Spec P f args [] nx (zj5 r nx)
mutual
def q0n:AV->Bool
 |.ptr .. |.apt .. |.osl .. |.bsl .. |.mp .. |.bU=>false
 |.v _|.sl .. |.el .. |.erb _=>true
 |.agg cs=>q0f cs
 |.tup cs=>q0f cs
 |.clo _ cs=>q0f cs
 |.grd _ a=>q0n a
def q0f:List AV->Bool
 |[]=>true
 |a::r=>q0n a&&q0f r
end
section
variable {w:World} {β β':aF} {nx nx':Nat} {ow:Nat->Prop}
mutual
theorem zx3:∀(a:AV) (u:Value),q0n a=true->rep w β nx ow a u->rep w β' nx' ow a u
 |.v x,u,_,h=>by simpa only[rep]using h
 |.ptr ..,_,h,_=>by simp[q0n]at h
 |.apt ..,_,h,_=>by simp[q0n]at h
 |.osl ..,_,h,_=>by simp[q0n]at h
 |.bsl ..,_,h,_=>by simp[q0n]at h
 |.mp ..,_,h,_=>by simp[q0n]at h
 |.erb g,u,_,h=>by simpa only[rep]using h
 |.bU,_,h,_=>by simp[q0n]at h
 |.sl sz xs,u,_,h=>by
  simp only[rep]at h⊢;rcases h with h|⟨b,o,cap,d,e,j,k,m⟩
  . exact .inl h
  exact .inr ⟨b,o,cap,d,e,j,k,q29 (b9.refl w ow) sz b (λ_ _ n=>n) xs o m⟩
 |.el sz xs i off,u,_,h=>by
  simp only[rep]at h⊢;obtain⟨b,o,d,j,k,m⟩:=h;exact⟨b,o,d,j,k,q29 (b9.refl w ow) sz b (λ_ _ n=>n) xs o m⟩
 |.agg cs,u,c,h=>by
  simp only[q0n]at c;simp only[rep]at h⊢;obtain⟨l,d,e⟩:=h;exact⟨l,d,z1c cs l c e⟩
 |.tup cs,u,c,h=>by
  simp only[q0n]at c;simp only[rep]at h⊢;obtain⟨l,d,e⟩:=h;exact⟨l,d,z1c cs l c e⟩
 |.clo f cs,u,c,h=>by
  simp only[q0n]at c;simp only[rep]at h⊢;obtain⟨l,d,e⟩:=h;exact⟨l,d,z1c cs l c e⟩
 |.grd g a,u,c,h=>by
  simp only[q0n]at c;simp only[rep]at h⊢;exact⟨λp=>zx3 a u c (h.1 p),h.2⟩
theorem z1c:∀(as:List AV) (us:List Value),q0f as=true->y8 w β nx ow as us->y8 w β' nx' ow as us
 |[],[],_,h=>by simp only[y8]
 |a::as,u::us,c,h=>by
  simp only[q0f,Xd]at c;simp only[y8]at h⊢;exact⟨zx3 a u c.1 h.1,z1c as us c.2 h.2⟩
 |[],u::us,_,h=>by simp only[y8]at h
 |a::as,[],_,h=>by simp only[y8]at h
end
end
mutual
theorem zr5{rn:Nat->Option Nat}{hp:Hp}{gone:Nat->Prop}{nx:Nat}:∀(a:AV),q0n a=true->bE rn hp gone nx a a
 |.v x,_=>by simp only[bE]
 |.ptr ..,h=>by simp[q0n]at h
 |.apt ..,h=>by simp[q0n]at h
 |.osl ..,h=>by simp[q0n]at h
 |.bsl ..,h=>by simp[q0n]at h
 |.mp ..,h=>by simp[q0n]at h
 |.erb g,_=>by simp only[bE]
 |.bU,_=>by simp only[bE]
 |.sl sz xs,_=>by simp only[bE];exact⟨trivial,.inl trivial⟩
 |.el sz xs i off,_=>by simp only[bE];exact⟨trivial,trivial,trivial,trivial⟩
 |.agg cs,h=>by simp only[q0n]at h;simp only[bE];exact⟨trivial,z03 cs h⟩
 |.tup cs,h=>by simp only[q0n]at h;simp only[bE];exact⟨trivial,z03 cs h⟩
 |.clo f cs,h=>by simp only[q0n]at h;simp only[bE];exact⟨trivial,trivial,z03 cs h⟩
 |.grd g a,h=>by simp only[q0n]at h;simp only[bE];exact⟨trivial,zr5 a h⟩
theorem z03{rn:Nat->Option Nat}{hp:Hp}{gone:Nat->Prop}{nx:Nat}:∀(as:List AV),q0f as=true->bE.AvLeL rn hp gone nx as as
 |[],_=>by simp only[bE.AvLeL]
 |a::as,h=>by
  simp only[q0f,Xd]at h;simp only[bE.AvLeL];exact⟨zr5 a h.1,z03 as h.2⟩
end
theorem j1x(x:List AV)(l:List (List AV)):q3g (x::l) 0=x:=rfl
theorem z0g{β:aF}{A:Nat->Prop}:own β [] A=A:=by
 funext b
 apply propext
 constructor
 .
  rintro (h|⟨q,a,_⟩)
  . exact h
  cases a
 exact λh=> .inl h
theorem b8.nil{w:World}{β:aF}{nx:Nat}{A:Nat->Prop}:b8 w β nx A []:=
 ⟨(λp hp=>by cases hp),(λp hp=>by cases hp),by simp,(λp hp=>by cases hp),(λp hp=>by cases hp),(λp hp=>by cases hp),(λp hp=>by cases hp)⟩
theorem be.up{P:Program}{f:FuncId}{args:List AV}{r:AV}(h:be P f args 0 r)(g:q0f args=true)(nx:Nat):be P f args nx r:=by
 intro w β A vs j b k c;rw[z0g]at b;refine (h w β A vs j (by rw[z0g];exact z1c _ _ g b) b8.nil (c.sub λ_ ⟨_,h,_⟩=>by cases h)).mono ?_;rintro e w' ⟨v,l,hp',nx',β',rfl,⟨rfl,rfl,rfl⟩,d,_,a⟩;rw[z0g]at d;refine⟨v,_,[],nx,β,rfl,⟨rfl,rfl,rfl⟩,?_,b8.nil,⟨Xc _,λ_ _=>rfl,λ_ _ _=>rfl,(λp hp=>by cases hp),(λp hp=>by cases hp),a.os,a.tape,a.output,a.size,a.keep⟩⟩;rw[z0g];exact q5i (b9.refl _ _) 0 nx (Nat.zero_le _) (λ_ hi=>absurd hi (Xz _)) _ _ d
end
section
open Go Go.RowKit
def QV(P:Program)(hp:Hp)(nx:Nat)(ev:Operand->AV)(op:Op)(r:AV):Prop:=
 match qn5 P hp ev op with
 |some (c,g)=>c/\r=g
 |none=>match op with
  |.call c=>match c.callee,c.args.toList,c.argTypes.toList with
   |.value d,args,_=>match (ev d).st with
    |.clo f a=>(True/\(ev d).aZ/\bW (args.map ev)/\q0f ((args.map λx=>(ev x).st)++a)=true)/\be P f ((args.map λx=>(ev x).st)++a) 0 r
    |_=>False
   |_,_,_=>False
  |.buildSlice t n parts=>match aK P t,qx9 (parts.toList.map λp=>(ev p.2).st)with
   |some e,some b=>match q1s P e with
    |some zs=>(q1b P e=true/\zs.length=szT P e/\0<szT P e/\n*szT P e<=16777216/\qa1 parts.toList 0=true/\parts.toList.length=n/\bW (parts.toList.map λp=>ev p.2)/\qp6 (szT P e) b=true/\
     b.flatten.all q9t=true/\b.flatten.all q9p=true)/\∃ns,r=.sl (szT P e) (b.map (q21 ns))
    |none=>False
   |_,_=>False
  |.makeSlice t l c=>match (ev l).st,(ev c).st,aK P t with
   |.v (.int _ n),.v (.int _ m),some e=>match q1s P e with
    |some zs=>((ev l).aZ/\(ev c).aZ/\m=n/\q1b P e=true/\zs.length=szT P e/\0<szT P e/\0<q26 P e/\0<=n/\n*q26 P e<=140737488355328/\zs.all (·.oneCell')=true)/\
     ∃ns,r=.sl (szT P e) (Xb n.toNat (q21 ns (zs.map AV.v)))
    |none=>False
   |_,_,_=>False
  |_=>False
def evF(E:Nat->AV):Operand->AV
 |.tmp t=>E t
 |.const v=> .v v
 |.global g=> .v (.pointer (some ⟨g,0,none⟩))
 |.func f=> .clo f []
def QG(P:Program)(hp:Hp)(nx:Nat)(ops:Array Oper)(E:Nat->AV)(o:Oper)(r:AV):Prop:=
 match o.guard with
 |none=>QV P hp nx (evF E) o.op r
 |some (j,a)=>match q23 ops j with
  |some d=>match z1d (E d) a with
   |some g=>∃b,(g=true->QV P hp nx (evF E) o.op b)/\r=mkG g b
   |none=>False
  |none=>False
theorem zq6{P:Program}{hp:Hp}{ev e:Operand->AV}{op:Op}(h:∀x∈op.operands,ev x=e x):fop P hp ev op=fop P hp e op:=by
 cases op<;>(try simp only[fop])<;>(try simp only[Op.operands]at h)
 case move x=>simp[h x]
 case assign x=>simp[h x]
 case pick c a b=>rw[h c (by simp),h a (by simp),h b (by simp)]
 case load t x=>rw[h x (by simp)]
 case lookup t m k c=>cases c<;>simp only[h m (by simp),h k (by simp)]
 case nilCheck x=>rw[h x (by simp)]
 case binOp op t x y ty=>rw[h x (by simp),h y (by simp)]
 case unOp op t x=>rw[h x (by simp)]
 case convert s d x=>rw[h x (by simp)]
 case makeFunc f first g=>
  have p:∀x∈g.toList,ev x=e x:=λx n=>h x (by simp at n⊢;exact .inr n);have o:g.toList.map ev=g.toList.map e:=Xk p;have l:(g.toList.map λx=>(ev x).st)=g.toList.map λx=>(e x).st:=Xk λx n=>by rw[p x n]
  cases f<;>simp only[o,l]
 case slice t x lo hi q=>
  cases q<;>simp only
  have u:lo.map ev=lo.map e:=by cases lo<;>simp;exact h _ (by simp)
  have w:hi.map ev=hi.map e:=by cases hi<;>simp;exact h _ (by simp)
  have z:(lo.map λx=>(ev x).st)=lo.map λx=>(e x).st:=by cases lo<;>simp;rw[h _ (by simp)]
  have A:(hi.map λx=>(ev x).st)=hi.map λx=>(e x).st:=by cases hi<;>simp;rw[h _ (by simp)]
  rw[h x (by simp),u,w,z,A]
 case fieldAddr t x f=>rw[h x (by simp)]
 case field t x f=>rw[h x (by simp)]
 case indexAddr t x i=>rw[h x (by simp),h i (by simp)]
 case index t x i=>rw[h x (by simp),h i (by simp)]
 case extract x i=>rw[h x (by simp)]
 case call c=>
  have j:∀x∈c.args.toList,ev x=e x:=λx n=>h x (by simp only[Call.operands];exact Zh.2 (.inr (Yf.1 n)))
  split
  .
   rename_i x ty o l B
   rw[l]at j;rw[j x (by simp)]
  .
   rename_i x y o l
   rw[l]at j;rw[j x (by simp),j y (by simp)]
  .
   rename_i x y o l
   rw[l]at j;rw[j x (by simp),j y (by simp)]
  rfl
theorem j4o{P:Program}{hp:Hp}{ev a:Operand->AV}{op:Op}(h:∀x∈op.operands,ev x=a x):qn5 P hp ev op=qn5 P hp a op:=by
 unfold qn5
 split
 .
  rename_i t parts
  simp only[Op.operands]at h;have hp:∀p∈parts.toList,ev p.2=a p.2:=λp hp=>h p.2 (by simp;exact⟨p.1,by simpa using hp⟩);unfold z8s;rw[Xk (f:=λp:Nat×Operand=>(p.1,(ev p.2).st)) (g:=λp=>(p.1,(a p.2).st)) (λp b=>by rw[hp p b]),Xk (f:=λp:Nat×Operand=>ev p.2) (g:=λp=>a p.2) hp]
 .
  rename_i op t x y ty
  rw[zq6 h];simp only[Op.operands]at h;rw[h x (by simp),h y (by simp)]
 exact zq6 h
theorem j1b{P:Program}{hp:Hp}{nx:Nat}{ev a:Operand->AV}{op:Op}{r:AV}(h:∀x∈op.operands,ev x=a x)(b:QV P hp nx ev op r):QV P hp nx a op r:=by
 unfold QV at b⊢;rw[<-j4o h]
 split at b
 . exact b
 split at b
 .
  rename_i c _
  simp only[Op.operands]at h;have m:∀x∈c.args.toList,ev x=a x:=λx d=>h x (by simp only[Call.operands];exact Zh.2 (.inr (Yf.1 d)))
  split at b
  .
   rename_i j o
   have k:ev j=a j:=h j (by simp[Call.operands,o]);rw[<-k];rw[Xk (f:=ev) (g:=a) m,Xk (f:=λx=>(ev x).st) (g:=λx=>(a x).st) (λx d=>by rw[m x d])]at b;exact b
  exact b.elim
 .
  rename_i t n parts _
  simp only[Op.operands]at h;have e:∀p∈parts.toList,ev p.2=a p.2:=λp hp=>h p.2 (by simp;exact⟨p.1,by simpa using hp⟩);rw[Xk (f:=λp:Nat×Operand=>(ev p.2).st) (g:=λp=>(a p.2).st) (λp d=>by rw[e p d]),Xk (f:=λp:Nat×Operand=>ev p.2) (g:=λp=>a p.2) e]at b;exact b
 .
  rename_i t l c _
  simp only[Op.operands]at h;rw[h l (by simp),h c (by simp)]at b;exact b
 exact b.elim
theorem j1c{P:Program}{hp:Hp}{nx:Nat}{ops:Array Oper}{E c:Nat->AV}{o:Oper}{r:AV}(h:∀t∈o.looksAt ops,E t=c t)(a:QG P hp nx ops E o r):QG P hp nx ops c o r:=by
 have b:∀x∈o.op.operands,evF E x=evF c x:=λx g=>by
  cases x with
  |tmp t=>exact h t (by unfold Oper.looksAt;exact Y4 _ (List.mem_filterMap.2 ⟨.tmp t,Yf.2 g,rfl⟩))
  |_=>rfl
 unfold QG at a⊢
 split at a
 . exact j1b b a
 rename_i j f k
 split at a
 .
  rename_i d hd
  have:E d=c d:=h d (by
   unfold Oper.looksAt;refine Yz _ ?_;rw[k];unfold q23 at hd;simp[hd])
  rw[<-this]
  split at a
  . obtain⟨l,m,n⟩:=a;exact⟨l,λe=>j1b b (m e),n⟩
  exact a.elim
 exact a.elim
structure cK(w w':World):Prop where
 os:w'.os=w.os
 tape:w'.tape=w.tape
 output:w'.output=w.output/\(dkF=true->w.drawn<=w'.drawn)
 size:w.heap.size<=w'.heap.size
 block:∀b,b<w.heap.size->w'.heap[b]?=w.heap[b]?
theorem cK.refl(w:World):cK w w:=⟨rfl,rfl,⟨rfl,λ_=>by first|exact Xc _|exact Yt _⟩,Xc _,λ_ _=>rfl⟩
section
variable {P:Program} {C:Ctx P} {s:St} {a:Act} {w:World} {β:aF}
theorem Rel.still(h:Rel C s a w β){w':World}(c:cK w w'):Rel C s a w' β:=by
 have f:b9 w w' (own β s.hp C.A) (own β s.hp C.A):=⟨c.size,λb hb d=>⟨c.block b d,hb⟩⟩;exact h.step (Xc _) (λ_ _=>rfl) c.size (λb hb _=>c.block b hb) (λ_ _ hb=>hb)
  ⟨λp hp=>q48 f (Xc _) (λ_ _=>rfl) (h.hp.lt p hp) (λb e=>c.block b (h.hp.cC p hp b e)) (λ_=>rfl) (h.hp.obj p hp),h.hp.lt,h.hp.nd,h.hp.inj,h.hp.av,h.hp.i0,λp hp b hb=>⟨Yk (h.hp.ib p hp b hb).1 c.size,(h.hp.ib p hp b hb).2⟩⟩
  (λp hp=> .inl (Xj hp)) c.os c.tape c.output
theorem z7t{w':World}(d:cK w w'){x:AV}{u:Value}(e:rep w β s.nx (own β s.hp C.A) x u):rep w' β s.nx (own β s.hp C.A) x u:=
 q5i ⟨d.size,λb hb c=>⟨d.block b c,hb⟩⟩ s.nx s.nx (Xc _) (λ_ _=>rfl) x u e
theorem z7h(h:Rel C s a w β){ev:Operand->AV}(B:∀x,rep w β s.nx (own β s.hp C.A) (ev x) (a.eval x)){o:Oper}{r:AV}(g:QV P s.hp s.nx ev o.op r){K:Act->World->Prop}{Q:Exit->Act->World->Prop}
 (T:∀v w',cK w w'->rep w' β s.nx (own β s.hp C.A) r v->K (a.put o.dst v) w'):o.wp P a w K Q:=by
 unfold QV at g
 split at g
 .
  rename_i c r' hf
  obtain⟨J,rfl⟩:=g;obtain⟨z,U,D⟩:=z6s h.hp B (λ_ _ e=>by subst e;rfl) hf J;unfold Oper.wp;rw[U];exact T z w (cK.refl w) D
 split at g
 .
  rename_i cl R
  split at g
  .
   rename_i fo e1
   split at g
   .
    rename_i f b4 hf
    obtain⟨⟨X,Y,c3,V⟩,a6⟩:=g;have hS:=a6.up V s.nx;have S:=q1n (B fo) Y;rw[hf]at S;simp only[rep]at S;obtain⟨l,S,h2⟩:=S;have h3:=z6f B cl.args.toList c3;have E:cl.args.map a.eval=⟨cl.args.toList.map a.eval⟩:=Xn (by simp);have G:∀β',own β' [] (own β s.hp C.A)=own β s.hp C.A:=λβ'=>by
     funext b
     apply propext
     constructor
     .
      rintro (L|⟨q,g,_⟩)
      . exact L
      cases g
     exact λL=> .inl L
    have e0:(⟨cl.args.toList.map a.eval⟩:Array Value)++(⟨l⟩:Array Value)=⟨cl.args.toList.map a.eval++l⟩:=Xn (by simp);have H:=hS w β (own β s.hp C.A) _ (by
     rintro b (L|⟨q,g,J⟩)
     . exact h.alt b L
     exact h.hp.cC q g b J) (by rw[G];exact q5x h3 h2) b8.nil ((h.gs.ext h.ext).sub λ_ ⟨_,g,_⟩=>by cases g)
    cases hB:u7 P f with
    |true=>
     have y:(execOp a.eval o).run P w=.ok (.enter f ⟨cl.args.toList.map a.eval++l⟩) w:=by
      unfold execOp;simp only[R];simp only[resolve,e1,S,E,Deferred.ofValue,Sem.run_bind,Sem.run_pure,Result.andThen_ok,invoke,Ya,e0,zo6 hB]
     unfold Oper.wp;rw[y];simp only[Oper.upon];refine (H.1 hB).mono ?_;rintro e w' ⟨v,r',hp',nx',β',rfl,⟨rfl,rfl,rfl⟩,D,_,d⟩;rw[G]at D;refine T v w' ⟨d.os,d.tape,d.output,d.size,λb hb=>d.keep b hb λ⟨q,g,_⟩=>by cases g⟩ ?_;exact q5i (b9.refl _ _) s.nx s.nx (Xc _) (λid hid=>(d.gh id hid).symm) _ _ D
    |false=>
     obtain⟨v0,w',ao,v,r',hp',nx',β',ar,⟨rfl,rfl,rfl⟩,D,_,d⟩:=H.2 hB
     cases ar
     have y:(execOp a.eval o).run P w=.ok (.value v0) w':=by
      unfold execOp;simp only[R];simp only[resolve,e1,S,E,Deferred.ofValue,Sem.run_bind,Sem.run_pure,Result.andThen_ok,invoke,Ya,e0,ao]
     unfold Oper.wp;rw[y];simp only[Oper.upon];rw[G]at D;refine T v0 w' ⟨d.os,d.tape,d.output,d.size,λb hb=>d.keep b hb λ⟨q,g,_⟩=>by cases g⟩ ?_;exact q5i (b9.refl _ _) s.nx s.nx (Xc _) (λid hid=>(d.gh id hid).symm) _ _ D
   exact g.elim
  exact g.elim
 .
  rename_i t n parts R
  split at g
  .
   rename_i e rs he D
   split at g
   .
    rename_i zs U
    obtain⟨⟨X,Y,c3,V,Z,c6,c7,c8,c9,M⟩,ns,rfl⟩:=g;obtain⟨g1,g2,g3⟩:=z0w B c7 D;have y:=zw9 (w:=w) R he X U c3 V Z c6 (g3 _ c8);unfold Oper.wp;rw[y];have I:cK w (w.alloc (.cells ⟨(parts.toList.map λp=>(a.eval p.2).cells.toList).flatten⟩ e)):=⟨rfl,rfl,⟨rfl,λ_=>by first|exact Xc _|exact Yt _⟩,by simp,λb hb=>Below.heap_alloc w _ b hb⟩;refine T _ _ I ?_;simp only[rep];refine .inr ⟨w.heap.size,0,n,by rw[Xy,g1,c6],by rw[Xy];omega,?_,by simp,?_⟩
    .
     rintro (L|⟨q,g,J⟩)
     . have:=h.alt _ L;have:=h.ext.size;omega
     exact Nat.lt_irrefl _ (h.hp.cC q g _ J)
    refine q63 (us:=(parts.toList.map λp=>(a.eval p.2).cells.toList).flatten) (λr b0=>by
     obtain⟨r2,b1,rfl⟩:=Xs.1 b0;rw[qd2];exact z1z c8 r2 b1) ?_ (q7s c9 g2) ?_
    . exact q9z (q1x ⟨I.size,λb hb b2=>⟨I.block b b2,hb⟩⟩ 0 0 (Xc _) (λ_ _=>rfl) _ _ (qd0 M g2))
    intro j u hj;rw[X4,cell_of_row _ w.heap.size j _ e (0,0) (heap_alloc_new w _)]
    simpa using hj
   exact g.elim
  exact g.elim
 .
  rename_i t l c R
  split at g
  .
   rename_i k n k' m e hl J he
   split at g
   .
    rename_i zs U
    obtain⟨⟨X,Y,rfl,V,Z,c6,c7,c8,c9,M⟩,ns,rfl⟩:=g;have N:=q1n (B l) X;have O:=q1n (B c) Y;rw[hl]at N;rw[J]at O;simp only[rep]at N O;have y:=j5y (w:=w) (a:=a) R N O he V U Z c6 c7 c8 c9;unfold Oper.wp;rw[y];have I:cK w (w.alloc (.cells ⟨(Xb m.toNat zs).flatten⟩ e)):=⟨rfl,rfl,⟨rfl,λ_=>by first|exact Xc _|exact Yt _⟩,by simp,λb hb=>Below.heap_alloc w _ b hb⟩;refine T _ _ I ?_;simp only[rep];refine .inr ⟨w.heap.size,0,m.toNat,by simp,by simp,?_,by simp,?_⟩
    .
     rintro (L|⟨q,g,J⟩)
     . have:=h.alt _ L;have:=h.ext.size;omega
     exact Nat.lt_irrefl _ (h.hp.cC q g _ J)
    refine q63 (us:=(Xb m.toNat zs).flatten) ?_ (by rw[<-X9];exact q9z (z1u _ _ _ _ _ _)) ?_ ?_
    . intro r D;rw[Xl D,qd2];simp[Z]
    . intro u hu;obtain⟨l',b3,W⟩:=Yp.1 hu;rw[Xl b3]at W;exact X7.1 M u W
    intro j u hj;rw[X4,cell_of_row _ w.heap.size j _ e (0,0) (heap_alloc_new w _)]
    simpa using hj
   exact g.elim
  exact g.elim
 exact g.elim
end
end
section
open Go Go.RowKit
def ck(ops:Array Oper)(r:Nat->AV)(E0:Nat->AV)(L:Nat->Prop)(E:Nat->AV):Prop:=
 ∀t,(∃i,i<ops.size/\L i/\q23 ops i=some t/\(∀k,i<k->k<ops.size->L k->q23 ops k≠some t)/\E t=r i)\/((∀i,i<ops.size->L i->q23 ops i≠some t)/\E t=E0 t)
def q5g(E:Nat->AV):Option Nat->AV->Nat->AV
 |none,_=>E
 |some d,x=>λt=>if d=t then x else E t
theorem ck.uniq{ops:Array Oper}{r E0:Nat->AV}{L:Nat->Prop}{E e:Nat->AV}(h:ck ops r E0 L E)(j:ck ops r E0 L e)(t:Nat):E t=e t:=by
 rcases h t with⟨i,a,b,f,l,m⟩|⟨a,b⟩<;>rcases j t with⟨k,k1,k2,g,n,o⟩|⟨k1,k2⟩
 .
  rcases Yn i k with c|heq|d
  . exact absurd g (l k c k1 k2)
  . subst heq;rw[m,o]
  exact absurd f (n i d a b)
 . exact absurd f (k1 i a b)
 . exact absurd g (a k k1 k2)
 rw[b,k2]
theorem ck.iff{ops:Array Oper}{r E0:Nat->AV}{L L':Nat->Prop}{E:Nat->AV}(h:ck ops r E0 L E)(c:∀i,i<ops.size->(L i↔L' i)):ck ops r E0 L' E:=by
 intro t;rcases h t with⟨i,b,d,f,g,j⟩|⟨b,d⟩
 . exact .inl ⟨i,b,(c i b).1 d,f,λk l a e=>g k l a ((c k a).2 e),j⟩
 exact .inr ⟨λi hi e=>b i hi ((c i hi).2 e),d⟩
theorem ck.step{ops:Array Oper}{r E0:Nat->AV}{L:Nat->Prop}{E:Nat->AV}(h:ck ops r E0 L E){j:Nat}(n:j<ops.size)(b:∀k,j<k->k<ops.size->L k->∀d,q23 ops j=some d->q23 ops k≠some d):
 ck ops r E0 (λi=>L i\/i=j) (q5g E (q23 ops j) (r j)):=by
 intro t
 by_cases hd:q23 ops j=some t
 .
  refine .inl ⟨j,n,.inr rfl,hd,λk f c a=>?_,?_⟩
  .
   rcases a with a|a
   . exact b k f c a t hd
   omega
  rw[hd];simp[q5g]
 have o:q5g E (q23 ops j) (r j) t=E t:=by
  cases g:q23 ops j with
  |none=>rfl
  |some d=>rw[g]at hd;simp only[q5g];rw[if_neg (λe=>hd (by rw[e]))]
 rw[o];rcases h t with⟨i,l,m,p,q,s⟩|⟨l,m⟩
 .
  refine .inl ⟨i,l,.inl m,p,λk f c a=>?_,s⟩;rcases a with a|rfl
  . exact q k f c a
  exact hd
 refine .inr ⟨λi hi a=>?_,m⟩;rcases a with a|rfl
 . exact l i hi a
 exact hd
theorem ck.agree{ops:Array Oper}{r E0:Nat->AV}{L:Nat->Prop}{E Ej:Nat->AV}{j:Nat}{m:Oper}(h:ck ops r E0 L E)(q:ck ops r E0 (· <j) Ej)(B:j<ops.size)(n:¬L j)
 (s:∀i,i<j->¬L i->∀d,q23 ops i=some d->d∉m.looksAt ops)(y:∀i,j<i->i<ops.size->L i->∀d,q23 ops i=some d->d∉m.looksAt ops):
 ∀t∈m.looksAt ops,E t=Ej t:=by
 intro t o;rcases h t with⟨i,k1,k2,p,z,A⟩|⟨k1,k2⟩
 .
  have g:i<j:=by
   rcases Yn i j with b|heq|c
   . exact b
   . subst heq;exact absurd k2 n
   exact absurd o (y i c k1 k2 t p)
  rcases q t with⟨a,e,f,k,u,w⟩|⟨e,f⟩
  .
   rcases Yn i a with b|heq|c
   .
    by_cases l:L a
    . exact absurd k (z a b e l)
    exact absurd o (s a f l t k)
   . subst heq;rw[A,w]
   exact absurd p (u i c k1 g)
  exact absurd p (e i k1 g)
 rcases q t with⟨a,e,f,k,u,w⟩|⟨e,f⟩
 .
  by_cases l:L a
  . exact absurd k (k1 a e l)
  exact absurd o (s a f l t k)
 rw[k2,f]
theorem z7d{α:Type}{p q:α->Bool}{x:α}:∀{l:List α},l.Nodup->x∈l->p x=true->q x=false->(∀y,y≠x->q y=p y)->(l.filter p).length=(l.filter q).length+1
 |y::l,b,a,hp,f,h=>by
  simp only[List.nodup_cons]at b
  by_cases c:y=x
  . subst c;have:l.filter p=l.filter q:=List.filter_congr λz j=>(h z (λe=>b.1 (by rw[<-e];exact j))).symm;simp[hp,f,this]
  have d:x∈l:=by
   rcases Y5.1 a with e|a
   . exact absurd e.symm c
   exact a
  have g:=z7d b.2 d hp f h;simp only[List.filter_cons,h y c]
  split
  . simp[g]
  exact g
 |[],_,a,_,_,_=>by simp at a
section
variable {P:Program} {C:Ctx P} {hp:Hp} {nx nb nt:Nat} {β:aF}
theorem z14{ops:Array Oper}(h:z5v ops=true):(∀j b,ops[j]?=some b->∀e∈b.after,Region.binds .any e=true->e.on<j)/\
 (∀i j d b,i<j->ops[i]?=some d->ops[j]?=some b->(∀e∈b.after,Region.binds .any e=true->e.on≠i)->d.apart ops b=true):=by
 simp only[z5v,Xd,X7,List.mem_range]at h;obtain⟨_,h⟩:=h;refine⟨λj b c e f hb=>?_,λi j d b g hi c k=>?_⟩
 . have:=h j (X8.1 c).1;rw[c]at this;simp only[Xd]at this;have a:=Array.all_eq_true_iff_forall_mem.1 this.1 e f;simp only[hb,Bool.not_true,Bool.false_or,decide_eq_true_eq]at a;exact a
 have:=h j (X8.1 c).1;rw[c]at this;simp only[Xd,X7,List.mem_range]at this;have a:=this.2 i g;rw[hi]at a;simp only[Bool.or_eq_true]at a;rcases a with a|a
 . obtain⟨e,f,hb⟩:=Array.any_eq_true'.1 a;simp only[Xd,beq_iff_eq]at hb;exact absurd hb.2 (k e f hb.1)
 exact a
def bsO:Op->Bool
 |.buildSlice .. =>true
 |_=>false
def qG(P:Program)(ops:Array Oper)(s:St)(o:Oper)(K:AV->Prop):Prop:=
 match o.guard with
 |none=>qO P s o.op K
 |some (j,b)=>match q23 ops j with
  |some d=>match z1d (q17 s.env d) b with
   |some g=>if ze4 o.op=true then (g=true->qO P s o.op λr=>K (mkG true r))/\(g=false->K (mkG false .bU))else match qn5 P s.hp (y9 s.env) o.op with
    |some (c,r)=>(g=true->c)/\K (mkG g r)
    |none=>if bsO o.op=true then qX P s o.op g λr=>K (mkG g r)else (g=true->qO P s o.op λr=>K (mkG true r))/\(g=false->K (mkG false .bU))
   |none=>False
  |none=>False
  where
 qO (P:Program) (s:St) (op:Op) (K:AV->Prop):Prop:=match qn5 P s.hp (y9 s.env) op with
  |some (c,r)=>c/\K r
  |none=>qX P s op true K
 qX (P:Program) (s:St) (op:Op) (g:Bool) (K:AV->Prop):Prop:=match op with
  |.call c=>match c.callee,c.args.toList,c.argTypes.toList with
   |.value q,args,_=>match (y9 s.env q).st with
    |.clo f a=>∃r,(g=true->(True/\(y9 s.env q).aZ/\bW (args.map (y9 s.env))/\q0f ((args.map λx=>(y9 s.env x).st)++a)=true)/\be P f ((args.map λx=>(y9 s.env x).st)++a) 0 r)/\K r
    |_=>False
   |_,_,_=>False
  |.buildSlice t n parts=>match aK P t,qx9 (parts.toList.map λp=>(y9 s.env p.2).st)with
   |some e,some k=>match q1s P e with
    |some zs=>(g=true->q1b P e=true/\zs.length=szT P e/\0<szT P e/\n*szT P e<=16777216/\qa1 parts.toList 0=true/\parts.toList.length=n/\bW (parts.toList.map λp=>y9 s.env p.2)/\qp6 (szT P e) k=true/\
     k.flatten.all q9t=true/\k.flatten.all q9p=true)/\K (.sl (szT P e) (k.map (q21 (z0z s.hp P e))))
    |none=>False
   |_,_=>False
  |.makeSlice t l c=>match (y9 s.env l).st,(y9 s.env c).st,aK P t with
   |.v (.int _ n),.v (.int _ m),some e=>match q1s P e with
    |some zs=>(g=true->(y9 s.env l).aZ/\(y9 s.env c).aZ/\m=n/\q1b P e=true/\zs.length=szT P e/\0<szT P e/\0<q26 P e/\0<=n/\n*q26 P e<=140737488355328/\zs.all (·.oneCell')=true)/\
     K (.sl (szT P e) (Xb n.toNat (q21 (z0z s.hp P e) (zs.map AV.v))))
    |none=>False
   |_,_,_=>False
  |_=>False
def vcQ(P:Program)(ops:Array Oper):List Oper->St->(St->Prop)->Prop
 |[],s,K=>K s
 |o::r,s,K=>qG P ops s o λx=>vcQ P ops r (s.put o.dst x) K
theorem j0i(env:List (Nat×AV)):evF (q17 env)=y9 env:=by
 funext x
 cases x<;>rfl
theorem j2g{s:St}{op:Op}{g:Bool}{K:AV->Prop}(b:qn5 P s.hp (y9 s.env) op=none)(h:qG.qX P s op g K):∃r,(g=true->QV P s.hp s.nx (y9 s.env) op r)/\K r:=by
 unfold qG.qX at h
 split at h
 .
  split at h
  .
   split at h
   .
    rename_i f e j
    obtain⟨r,o,k⟩:=h;refine⟨r,λa=>?_,k⟩;unfold QV;rw[b];simp only[*];simp
   exact h.elim
  exact h.elim
 .
  split at h
  .
   split at h
   .
    rename_i c l _ zs d
    refine⟨_,λa=>?_,h.2⟩;unfold QV;rw[b];simp only[c,l,d];exact⟨h.1 a,_,rfl⟩
   exact h.elim
  exact h.elim
 .
  split at h
  .
   rename_i m n c
   split at h
   .
    rename_i zs d
    refine⟨_,λa=>?_,h.2⟩;unfold QV;rw[b];simp only[m,n,c,d];exact⟨h.1 a,_,rfl⟩
   exact h.elim
  exact h.elim
 exact h.elim
theorem zk7{s:St}{op:Op}{K:AV->Prop}(h:qG.qO P s op K):∃r,QV P s.hp s.nx (y9 s.env) op r/\K r:=by
 unfold qG.qO at h
 split at h
 .
  rename_i c r a
  exact⟨r,by unfold QV;rw[a];exact⟨h.1,rfl⟩,h.2⟩
 rename_i a
 obtain⟨r,b,d⟩:=j2g a h;exact⟨r,b rfl,d⟩
theorem j2h{ops:Array Oper}{s:St}{o:Oper}{K:AV->Prop}(h:qG P ops s o K):∃r,QG P s.hp s.nx ops (q17 s.env) o r/\K r:=by
 unfold qG at h
 split at h
 .
  rename_i e
  unfold QG;rw[e];simp only[j0i];exact zk7 h
 rename_i j n e
 unfold QG;rw[e];simp only[j0i]
 split at h
 .
  rename_i d hd
  try rw[hd]
  try simp only
  split at h
  .
   rename_i g f
   try rw[f]
   try simp only
   split at h
   .
    cases g with
    |true=>
     obtain⟨r,a,b⟩:=zk7 (h.1 rfl);exact⟨mkG true r,⟨r,λ_=>a,rfl⟩,b⟩
    |false=>exact⟨mkG false .bU,⟨.bU,(λk=>by cases k),rfl⟩,h.2 rfl⟩
   split at h
   .
    rename_i c r l
    exact⟨mkG g r,⟨r,λm=>by unfold QV;rw[l];exact⟨h.1 m,rfl⟩,rfl⟩,h.2⟩
   rename_i l
   split at h
   . obtain⟨r,a,b⟩:=j2g l h;exact⟨mkG g r,⟨r,a,rfl⟩,b⟩
   cases g with
   |true=>
    obtain⟨r,a,b⟩:=zk7 (h.1 rfl);exact⟨mkG true r,⟨r,λ_=>a,rfl⟩,b⟩
   |false=>exact⟨mkG false .bU,⟨.bU,(λk=>by cases k),rfl⟩,h.2 rfl⟩
  exact h.elim
 exact h.elim
def q1y(ops:List Oper)(r:Nat->AV)(k:Nat)(s:St):St:=match ops with
 |[]=>s
 |o::a=>q1y a r (k+1) (s.put o.dst (r k))
theorem zu8{ops:Array Oper}{K:St->Prop}:∀(l:List Oper) (s:St) (k:Nat),vcQ P ops l s K->∃r:Nat->AV,(∀j o,l[j]?=some o->QG P s.hp s.nx ops (q17 (q1y (l.take j) r k s).env) o (r (k+j)))/\K (q1y l r k s)
 |[],s,k,h=>⟨λ_=> .bU,by simp,h⟩
 |o::l,s,k,h=>by
  obtain⟨x,g,n⟩:=j2h h;obtain⟨r,p,q⟩:=zu8 l (s.put o.dst x) (k+1) n;have b:(s.put o.dst x).hp=s.hp/\(s.put o.dst x).nx=s.nx:=by cases o.dst<;>exact⟨rfl,rfl⟩
  let a:Nat->AV:=λi=>if i=k then x else r i
  have c:∀(l:List Oper) (m:Nat) (s:St),k<m->q1y l a m s=q1y l r m s:=by
   intro l
   induction l with
   |nil=>intro m s _;rfl
   |cons o' l t=>
    intro m s u;simp only[q1y];have:a m=r m:=by simp only[a];rw[if_neg (by omega)]
    rw[this,t (m+1) _ (by omega)]
  have d:a k=x:=by simp[a]
  refine⟨a,?_,?_⟩
  .
   intro j o' e
   cases j with
   |zero=>
    simp only[List.getElem?_cons_zero,Xa]at e;subst e;simp only[Yu,q1y,Xm,d];exact g
   |succ j=>
    have:=p j o' (by simpa using e);simp only[Y9,q1y,d,c _ (k+1) _ (X6 k)];rw[b.1,b.2]at this;have f:a (k+(j+1))=r (k+1+j):=by simp only[a];rw[if_neg (by omega),show k+(j+1)=k+1+j by omega]
    rw[f];exact this
  simp only[q1y,d,c _ (k+1) _ (X6 k)];exact q
theorem z6g(r:Nat->AV):∀(l:List Oper) (k:Nat) (s:St),(q1y l r k s).hp=s.hp/\(q1y l r k s).nx=s.nx/\(q1y l r k s).nt=s.nt/\(q1y l r k s).nb=s.nb
 |[],k,s=>⟨rfl,rfl,rfl,rfl⟩
 |o::l,k,s=>by
  obtain⟨a,b,c,d⟩:=z6g r l (k+1) (s.put o.dst (r k));simp only[q1y,a,b,c,d]
  cases o.dst<;>exact⟨rfl,rfl,rfl,rfl⟩
theorem zf7(r:Nat->AV):∀(l:List Oper) (o:Oper) (k:Nat) (s:St),q1y (l++[o]) r k s=(q1y l r k s).put o.dst (r (k+l.length))
 |[],o,k,s=>by simp[q1y]
 |o'::l,o,k,s=>by
  simp only[List.cons_append,q1y,zf7 r l o (k+1),Zf];rw[show k+1+l.length=k+(l.length+1) by omega]
theorem qm8{ops:Array Oper}(r:Nat->AV)(s:St):∀(n:Nat),n<=ops.size->ck ops r (q17 s.env) (· <n) (q17 (q1y (ops.toList.take n) r 0 s).env)
 |0,_=>λt=> .inr ⟨λi _ f=>absurd f (Xz _),rfl⟩
 |n+1,j=>by
  have g:=qm8 (ops:=ops) r s n (by omega);have a:n<ops.size:=by omega
  have b:ops.toList.take (n+1)=ops.toList.take n++[ops[n]]:=by
   rw[List.take_succ_eq_append_getElem (by simpa using a)];simp
  have hd:q23 ops n=ops[n].dst:=by simp[q23,a]
  have c:=(g.step a (λk l _ f=>by omega)).iff (L':=(· <n+1)) (λi _=>by constructor<;>intro h<;>omega);have d:(ops.toList.take n).length=n:=by rw[Xh];simp;omega
  rw[b,zf7,X4,d];have e:q17 ((q1y (ops.toList.take n) r 0 s).put ops[n].dst (r n)).env=q5g (q17 (q1y (ops.toList.take n) r 0 s).env) (q23 ops n) (r n):=by
   rw[hd]
   funext t
   cases ops[n].dst<;>simp[St.put,q5g,q17]
  rw[e];exact c
end
end
section
open Go Go.RowKit
theorem lits:((2:Nat):Int)=2/\((3:Nat):Int)=3/\((4:Nat):Int)=4/\((5:Nat):Int)=5/\((6:Nat):Int)=6/\((7:Nat):Int)=7/\((8:Nat):Int)=8/\((9:Nat):Int)=9/\((10:Nat):Int)=10/\((11:Nat):Int)=11/\((12:Nat):Int)=12/\((13:Nat):Int)=13/\((14:Nat):Int)=14/\((15:Nat):Int)=15/\((16:Nat):Int)=16/\((17:Nat):Int)=17/\((18:Nat):Int)=18/\((19:Nat):Int)=19/\((20:Nat):Int)=20:=⟨rfl,rfl,rfl,rfl,rfl,rfl,rfl,rfl,rfl,rfl,rfl,rfl,rfl,rfl,rfl,rfl,rfl,rfl,rfl⟩
theorem j3q(c y:Bool):(c||(!c&&y))=(c||y):=by cases c<;>simp
theorem zg1:((1:Nat)=0)=False:=by simp
theorem j3z(a b:Nat):(a+b<a)=False:=by simp
theorem j1m(n:Int):IntKind.i64.wrap n=if n%18446744073709551616 ≥ 9223372036854775808 then n%18446744073709551616-18446744073709551616 else n%18446744073709551616:=by
 simp[IntKind.wrap,IntKind.signed,IntKind.bits]
theorem wrap_i64(n:Int)(h:-9223372036854775808<=n/\n<9223372036854775808):IntKind.i64.wrap n=n:=by
 rw[j1m];split<;>omega
def jt8(b:List UInt8):List (List AV):=b.map λx=>[.v (.int .u8 x.toNat)]
theorem ja2(b:List UInt8):(jt8 b).length=b.length:=by simp[jt8]
theorem q5h{nx:Nat}{s:St}{r a:AV}(hb:s.nb=nx)(h:bE (q72 s.nb []) s.hp (λ_=>True) s.nb r a):z2v s r (zj5 a nx):=by
 subst hb;refine⟨[],[],s.nb,a,?_,?_,rfl,rfl,rfl⟩
 . exact⟨rfl,rfl,Xc _,trivial,trivial,trivial⟩
 exact h
end
end Go.Proofs.YtdcdfkdhomekeaaGreat

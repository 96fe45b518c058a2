/-
  The laws in plain words: what the plain functions give. No condition beyond those that each theorem names.
-/
import Derived.Test.YtomicnbiniapfaaGreatWalkFM0
import Derived.Test.YtomicnbiniapfaaGreatLawFM1
import Derived.Test.YtomicnbiniapfaaGreatLawFM0
import Derived.Test.YtomicnbiniapfaaGreatWalkFM2
set_option linter.unusedSimpArgs false
set_option linter.unusedVariables false
set_option linter.unusedSectionVars false
open List renaming replicate->Xa,filter_cons_of_neg->Xd,mem_filter->Xe,filter_congr->Xf,length_map->Xg,length_cons->Xh,filter_cons_of_pos->Xi,map_congr_left->Xj,getD_eq_getElem?_getD->Xk,mem_map->Xl,take_succ_cons->Xm,getElem?_eq_none->Xo,take_succ_eq_append_getElem->Xq,filter_eq_nil_iff->Xt,map_map->Xu,getD_cons_succ->Xw,filter_map->Xx,mem_range->Xy,filter_sublist->Xz,filter_filter->X3,pairwise_map->X4,mem_of_find?_eq_some->X5,getElem?_eq_getElem->X6,take_length->X7,getElem_mem->X8,getElem?_cons_succ->X9,map_append->Ya,getElem_cons_succ->Yb,getElem?_set_self->Yc,length_filter_le->Ye,getElem?_set_ne->Yf,map_cons->Yg,mem_cons->Yh,ext_getElem?->Yj,any_eq_true->Yo,mem_flatMap->Yp,length_take->Yq
open Classical renaming byContradiction->Xb
open Int renaming toNat_natCast->Xc,mul_le_mul_of_nonneg_right->Xr,toNat_of_nonneg->Xv,mul_nonneg->Yd,le_refl->Yn
open Bool renaming and_eq_true->Xp,eq_iff_iff->Xs,false_eq_true->Yi,not_eq_true'->Yk
open Nat renaming le_refl->X0,lt_trichotomy->Yl
open Option renaming some.injEq->Ym
namespace Go.Proofs.YtomicnbiniapfaaGreat
section
open Go Go.RowKit TS VA BG
namespace MN
open Classical
theorem jq9{g:aa}{aB C:Int}(hC:0<=C)(b2:C+aB<=5000){I p0:Nat}{l':List aC}{Q:List a8->Prop}(hL:Lh g I p0 l' Q){x x':MS}(h:Lv g C I Q x x'){m:Nat}(hm:m≠I){u:ay}{out:List a8}(ho:out≠[])(hf:Fn out)(ht:tot out<=65536)
 (b3:x.work<=aB)(hq:m=p0->Q (q0g (x.ins ⟨(I:Nat),u⟩).a0 out))(b4:(q23 m u out g.aw x).work<=aB):Lv g C I Q (q23 m u out g.aw x) (q23 m u out l' x'):=by
 have hN:=hL.N;have b1:=hf.len;have ao:=j4b (n:=m) (u:=u) ho hf hL.P h.bd (by omega);obtain⟨r1,r2,r3,r4,r5⟩:=qd3 (n:=m) (u:=u) (out:=out) g.aw x;obtain⟨q1,q2,q3,q4,q5⟩:=qd3 (n:=m) (u:=u) (out:=out) l' x';have hi:=qr8 (n:=m) (u:=u) ho g.aw x hL.P;have hi':=qr8 (n:=m) (u:=u) ho l' x' hL.P';have aj:(m:Int)≠I:=by omega
 have W:(m:Int)=p0↔m=p0:=by omega
 have a6:∀t,(q23 m u out g.aw x).ins ⟨(I:Nat),t⟩=if t=u/\m=p0 then⟨q0g (x.ins ⟨(I:Nat),t⟩).a0 out,(x.ins ⟨(I:Nat),t⟩).a1⟩else x.ins ⟨(I:Nat),t⟩:=fun t=>by
  rw[hi I t]
  by_cases G:t=u
  .
   rw[if_pos G];unfold qs4;rw[if_neg (hL.i1 m)]
   by_cases hp:m=p0
   . rw[if_pos ((hL.i0 m).2 (W.2 hp)),if_pos ⟨G,hp⟩]
   rw[if_neg (fun e=>hp (W.1 ((hL.i0 m).1 e))),if_neg (fun e=>hp e.2)]
  rw[if_neg G,if_neg (fun e=>G e.1)]
 refine⟨ao,fun t=>?_,fun t=>?_,fun q t ak=>?_,by rw[r2,r3,r4,r5,q2,q3,q4,q5];exact h.st,?_⟩
 .
  rw[a6];split
  . exact h.a1 t
  exact h.a1 t
 .
  rw[a6];split
  . rename_i hc;rw[hc.1];exact hq hc.2
  exact h.sg t
 .
  rw[hi' q t,hi q t,a6 t,h.eq q t ak]
  by_cases G:t=u
  .
   rw[if_pos G,if_pos G];obtain⟨g0,g1⟩:=h.bd.fn ⟨q,t⟩;obtain⟨j0,j1⟩:=h.bd.le ⟨q,t⟩;obtain⟨b0,_⟩:=h.bd.fn ⟨(I:Nat),t⟩;obtain⟨k0,_⟩:=h.bd.le ⟨(I:Nat),t⟩;have hb:(if t=u/\m=p0 then (⟨q0g (x.ins ⟨(I:Nat),t⟩).a0 out,(x.ins ⟨(I:Nat),t⟩).a1⟩:bA (List a8))else x.ins ⟨(I:Nat),t⟩).a0=if m=p0 then q0g (x.ins ⟨(I:Nat),t⟩).a0 out else (x.ins ⟨(I:Nat),t⟩).a0:=by
    by_cases hp:m=p0
    . rw[if_pos ⟨G,hp⟩,if_pos hp]
    rw[if_neg (fun e=>hp e.2),if_neg hp]
   rw[hb]
   generalize (x.ins ⟨(I:Nat),t⟩).a0=b at*
   generalize x.ins ⟨q,t⟩=X at*
   have one:∀(π:Int) (y:List a8),Fn y->tot y<=10000->(if aE l' m q π then q0g (if aE g.aw I q π then q0g y b else y) out else (if aE g.aw I q π then q0g y b else y))=
    if aE g.aw I q π then q0g (if aE g.aw m q π then q0g y out else y) (if m=p0 then q0g b out else b)else (if aE g.aw m q π then q0g y out else y):=fun π y hy b5=>by
    have hF:=hL.f' m q π aj ak
    by_cases hA:aE g.aw I q π
    .
     have hD:¬aE g.aw m q π:=fun hD=>aj (zo5 hL.P hA hD).symm;rw[if_pos hA,if_pos hA,if_neg hD]
     by_cases hp:m=p0
     . rw[if_pos (hF.2 (.inr ⟨W.2 hp,hA⟩)),if_pos hp,j5y hy b0 hf (by omega)]
     rw[if_neg (fun e=>(hF.1 e).elim hD fun e=>hp (W.1 e.1)),if_neg hp]
    rw[if_neg hA,if_neg hA]
    by_cases hD:aE g.aw m q π
    . rw[if_pos (hF.2 (.inl hD)),if_pos hD]
    rw[if_neg (fun e=>(hF.1 e).elim hD fun e=>hA e.2),if_neg hD]
   have o0:=one 0 X.a0 g0 (by omega);have o1:=one 1 X.a1 g1 (by omega);unfold qs4;dsimp only;rw[o0,o1]
  rw[if_neg G,if_neg G,if_neg (fun e=>G e.1)]
 obtain⟨T,t1,t2,t3,t4⟩:=h.wk;have aq:=hL.d' m aj;have e1:deg l' m*tot out<=(deg g.aw m+if (m:Int)=p0 then deg g.aw I-1 else 0)*tot out:=Xr aq (by omega)
 by_cases hp:m=p0
 .
  have ar:=j56 ((hL.i0 m).2 (W.2 hp));rw[if_pos (W.2 hp),Int.add_mul,Int.sub_mul,Int.one_mul]at e1;have e2:tot out<=deg g.aw m*tot out:=by
   have:=Xr ar (show 0<=tot out by omega);omega
  obtain⟨T',s1,s2,s3,s4⟩:∃T':List ay,T'.Nodup/\(∀t,t∉T'->x.ins ⟨(I:Nat),t⟩=no2)/\u∈T'/\(T'.map fun t=>tot (x.ins ⟨(I:Nat),t⟩).a0).sum=(T.map fun t=>tot (x.ins ⟨(I:Nat),t⟩).a0).sum:=by
   by_cases hu:u∈T
   . exact⟨T,t1,t2,hu,rfl⟩
   refine⟨u::T,List.nodup_cons.2 ⟨hu,t1⟩,fun t ht=>t2 t fun e=>ht (by simp[e]),by simp,?_⟩;simp only[Yg,List.sum_cons];rw[t2 u hu];simp[no2,tot]
  rw[<-s4]at t3 t4;obtain⟨b0,_⟩:=h.bd.fn ⟨(I:Nat),u⟩;obtain⟨k0,_⟩:=h.bd.le ⟨(I:Nat),u⟩;have an:=zr0 (f:=fun t=>tot (x.ins ⟨(I:Nat),t⟩).a0) (f':=fun t=>tot ((q23 m u out g.aw x).ins ⟨(I:Nat),t⟩).a0) (v:=u) (y:=tot (x.ins ⟨(I:Nat),u⟩).a0+tot out) (fun t=>by
   rw[a6]
   by_cases G:t=u
   . rw[if_pos ⟨G,hp⟩,if_pos G,G];exact (q7j b0 hf (by omega)).2.2.1
   rw[if_neg (fun e=>G e.1),if_neg G]) s1 s3
  refine⟨T',s1,fun t ht=>?_,?_,?_⟩
  . rw[a6,if_neg (fun e=>ht (by rw[e.1];exact s3))];exact s2 t ht
  . rw[an,r1];omega
  rw[an,q1,r1];have e3:∀a b c d:Int,a*(b-c+(c+d))=a*b+a*d:=fun a b c d=>by rw[show b-c+(c+d)=b+d by omega,Int.mul_add]
  rw[e3];omega
 rw[if_neg (fun e=>hp (W.1 e)),Int.add_zero]at e1;have b6:=Yd (qx0 g.aw m) (show 0<=tot out by omega);have Z:∀t,(q23 m u out g.aw x).ins ⟨(I:Nat),t⟩=x.ins ⟨(I:Nat),t⟩:=fun t=>by rw[a6,if_neg (fun e=>hp e.2)]
 refine⟨T,t1,fun t ht=>by rw[Z];exact t2 t ht,?_,?_⟩
 . simp only[Z];rw[r1];omega
 simp only[Z];rw[q1,r1];omega
section
variable {g:aa} (hG:VA.Good g) {aB C:Int} (hC:0<=C) (hCm:C+aB<=5000) {n0 p0:Nat} {l':List aC} {Q:List a8->Prop} (hL:Lh g n0 p0 l' Q)
include hG hC hCm hL
theorem jf6{s s':MS}{m:Nat}(c4:m<g.ae.length)(hm:m≠n0){v:ay}(hW:W g s)(h:Lv g C n0 Q s s')(hw:s.work<=aB)(Z:(q0c g aB s m v).2.e=0)(h1:Cons g n0 m->PtM g ⟨m,v⟩->s.ins ⟨(n0:Nat),v⟩=no2)(h2:m=p0->plain g p0->s.ins ⟨(n0:Nat),v⟩=no2):
 Lv g C n0 Q (q0c g aB s m v).2 (q0c (GL g l') 1000000 s' m v).2/\(q0c g aB s m v).2.work<=aB:=by
 have hN:=hL.N;have b3:(m:Int)≠n0:=by omega
 have hb:(¬aE g.aw n0 m 0/\¬aE g.aw n0 m 1)\/(s.ins ⟨(n0:Nat),v⟩).a0=[]:=by
  by_cases I:Cons g n0 m
  .
   right
   refine Xb fun G=>?_;have b4:s.ins ⟨(n0:Nat),v⟩≠no2:=fun e=>G (by rw[e];rfl);obtain⟨_,k1,k2⟩:=qe5 (hW _ b4);obtain⟨_,c2,_⟩:=Nz.cons hG hN I;have hl:lev g m=lev g n0:=by
    unfold lev;rw[c2];unfold q7w;rw[if_neg hN.k0.1]
   exact b4 (h1 I ⟨m,c4,rfl,k1,by rw[hl];exact k2⟩)
  exact .inl ⟨fun⟨e,he,e1,e2,_⟩=>I ⟨e,he,e1,e2⟩,fun⟨e,he,e1,e2,_⟩=>I ⟨e,he,e1,e2⟩⟩
 have aq:∀y:bA (List a8),Fn y.a0->Fn y.a1->tot y.a0<=50000000->tot y.a1<=50000000->qs4 y (aE g.aw n0 m 0) (aE g.aw n0 m 1) (s.ins ⟨(n0:Nat),v⟩).a0=y:=fun y y0 y1 z0 z1=>by
  rcases hb with⟨b1,b2⟩|hb
  . exact zd8 _ b1 b2 _
  rw[hb];exact zh6 y0 y1 z0 z1 _ _
 obtain⟨f0,f1⟩:=h.bd.fn ⟨m,v⟩;obtain⟨k0,k1⟩:=h.bd.le ⟨m,v⟩;have a6:s'.ins ⟨m,v⟩=s.ins ⟨m,v⟩:=by rw[h.eq m v b3];exact aq _ f0 f1 (by omega) (by omega)
 obtain⟨c5,c6,c7,b5,b6⟩:=h.st
 by_cases an:s.ins ⟨m,v⟩=no2
 . rw[ql5 (.inl an),ql5 (.inl (by rw[a6];exact an))];exact⟨h,hw⟩
 have c8:¬(s.ins ⟨m,v⟩=no2\/s.e≠0):=fun e=>e.elim an fun e=>e b5;have c9:¬(s.ins ⟨m,v⟩=no2\/s'.e≠0):=fun e=>e.elim an fun e=>e b6;have d2:tot ([]:List a8)=0:=by simp[tot]
 have cb:=j46 (g:=g) (n:=m) (t:=v) hC h.bd;have bi:(aM g m v s).work=s.work:=by unfold aM;split<;>rfl
 have aj:∀t,(aM g m v s).ins ⟨(n0:Nat),t⟩=s.ins ⟨(n0:Nat),t⟩:=fun t=>by rw[qe1,if_neg];intro e;simp only[ah.mk.injEq]at e;exact b3 e.1.symm
 have G:Lv g C n0 Q (aM g m v s) (aM g m v s'):=by
  refine⟨cb,fun t=>by rw[aj];exact h.a1 t,fun t=>by rw[aj];exact h.sg t,fun q t hq=>?_,?_,?_⟩
  .
   rw[qe1,qe1,aj]
   by_cases I:(⟨q,t⟩:ah)=⟨m,v⟩
   . rw[if_pos I,if_pos I];simp only[ah.mk.injEq]at I;rw[I.1,I.2];exact (aq no2 Fn.nil Fn.nil (by show tot []<=_;omega) (by show tot []<=_;omega)).symm
   rw[if_neg I,if_neg I];exact h.eq q t hq
  .
   unfold aM
   split
   . exact⟨by dsimp only;rw[c5],by dsimp only;rw[c6,a6],c7,b5,b6⟩
   exact h.st
  have bs:(aM g m v s').work=s'.work:=by unfold aM;split<;>rfl
  simp only[aj,bi,bs];exact h.wk
 have bv:q6o (aM g m v s) m v=q6o (aM g m v s') m v:=jy1 G.st.1 G.st.2.1 m v;have cc:(q0c g aB s m v).2=(q6k g aB m v (s.ins ⟨m,v⟩).a0 (if (nd g m).Kind=14 then q6o (aM g m v s) m v else (s.ins ⟨m,v⟩).a1) (aM g m v s)).2:=by unfold q0c;rw[if_neg c8]
 have c0:(q0c (GL g l') 1000000 s' m v).2=(q6k (GL g l') 1000000 m v (s.ins ⟨m,v⟩).a0 (if (nd g m).Kind=14 then q6o (aM g m v s) m v else (s.ins ⟨m,v⟩).a1) (aM g m v s')).2:=by
  unfold q0c;rw[a6,if_neg c9,bv];rfl
 rw[cc]at Z⊢;rw[c0]
 have ar:(aM g m v s).work<=aB:=by rw[bi];exact hw
 have cd:(aM g m v s).ins ⟨(n0:Nat),v⟩=s.ins ⟨(n0:Nat),v⟩:=aj v
 generalize (if (nd g m).Kind=14 then q6o (aM g m v s) m v else (s.ins ⟨m,v⟩).a1)=b at*
 generalize aM g m v s=x at*
 generalize aM g m v s'=x' at*
 unfold q6k at Z⊢;rw[zn2,zi5]
 cases ha:q3p (nd g m) (s.ins ⟨m,v⟩).a0 b with
 |none=>rw[ha]at Z;exact absurd Z (by show ¬(9:Int)=0;decide)
 |some out=>
  obtain⟨o1,o2⟩:=qm4 ha;rw[ha]at Z;dsimp only at Z⊢
  by_cases ak:(nd g m).Kind=15
  . rw[if_pos ak,if_pos ak];obtain⟨y1,y2,y3,y4,y5⟩:=G.st;exact⟨⟨⟨G.bd.fn,G.bd.le,G.bd.w0⟩,G.a1,G.sg,G.eq,⟨y1,y2,by dsimp only;rw[y3],y4,y5⟩,G.wk⟩,ar⟩
  rw[if_neg ak]at Z;rw[if_neg ak,if_neg ak]
  by_cases hu:(q0b g m v).2=false\/out=[]
  . rw[if_pos hu,if_pos hu];exact⟨G,ar⟩
  rw[if_neg hu]at Z;rw[if_neg hu,if_neg hu];have c1:out≠[]:=fun e=>hu (.inr e);dsimp only at Z⊢;have c3:(q23 m (q0b g m v).1 out g.aw x).work<=aB:=Xb fun I=>by
   rw[if_pos (by omega)]at Z;exact absurd Z (by show ¬(9:Int)=0;decide)
  have hs:=jq9 hC hCm hL G hm (u:=(q0b g m v).1) c1 o1 o2 ar (fun hp=>by
   rcases hL.qq with hq|⟨ao,hq⟩
   . exact hq _
   have hg:(q0b g m v).1=v:=by rw[hp,qt1 ao.1 ao.2.1 ao.2.2]
   rw[hg,cd,h2 hp ao];rw[show q0g no2.a0 out=out from jf0 o1 (by omega)];rw[hp]at ha;exact hq _ _ _ ha) c3
  have d1:(q23 m (q0b g m v).1 out l' x').work<=1000000:=by
   obtain⟨T,t1,t2,t3,t4⟩:=hs.wk;have hd:=k06 g.aw n0;have he:=hG.el;have h0:=hs.bd.w0;have cl:=qx0 g.aw n0
   generalize (T.map fun t=>tot ((q23 m (q0b g m v).1 out g.aw x).ins ⟨(n0:Nat),t⟩).a0).sum=Sg at*
   have e1:deg g.aw n0*Sg<=64*5000:=by
    by_cases cp:0<=Sg
    . exact Int.mul_le_mul (by omega) (by omega) cp (by omega)
    have:=Int.mul_nonpos_of_nonneg_of_nonpos cl (show Sg<=0 by omega);omega
   omega
  rw[if_neg (by omega)];have d0:(GL g l').aw=l':=rfl;rw[d0,if_neg (by omega)];exact⟨hs,c3⟩
theorem jq8:Step g aB n0 p0 (lv2 g l' n0) (fun s s'=>Lv g C n0 Q s s'/\s.work<=aB):=fun m v s s' T W G Z h1 h2=>by
 unfold lv2
 by_cases I:m=n0
 . rw[if_pos I];subst I;exact jy9 hG hC hCm hL W G.1 G.2 Z
 rw[if_neg I];exact jf6 hG hC hCm hL T I W G.1 G.2 Z h1 h2
end
end MN
end
section
open Go Go.RowKit TS VA BG
namespace MN
open Classical
theorem zy3{x:aH}{a b o:List a8}(h:q3p x a b=some o):∃O,OP.Out x a b O/\∀r,cnt o r=cnt O r:=by
 obtain⟨W,_,⟨G,la⟩,hb,lb⟩:=z9l h;obtain⟨Z,p2⟩:=CE.aY la lb;obtain⟨v,I,O,T,pO,hF⟩:=OP.bH (x:=x) Z p2 (CE.b9 a la) (CE.b9 b lb);rw[W]at I
 cases I
 rw[qr6 G.rt G.pos,qr6 hb.rt hb.pos]at T;rcases hF with⟨_,hp,_⟩|⟨hc,_⟩
 . have hp:bV [] o O:=hp;exact⟨O,T,fun r=>by rw[hp.cnt];simp[cnt]⟩
 cases hc
theorem zj9{x:aH}{a b O:List a8}(I:Fn a)(hb:Fn b)(la:a.length<=60000)(lb:b.length<=60000)(W:Fn O)(tO:tot O<=65536)(hE:∀G,OP.Out x a b G->G=O):q3p x a b=some O:=by
 obtain⟨p1,p2⟩:=CE.aY la lb;obtain⟨⟨o,k⟩,hv,G,Z,pO,hF⟩:=OP.bH (x:=x) p1 p2 (CE.b9 a la) (CE.b9 b lb);rw[qr6 I.rt I.pos,qr6 hb.rt hb.pos]at Z;obtain rfl:=hE G Z;rcases hF with⟨T,hp,_⟩|⟨_,_,ht⟩
 .
  have T:k=true:=T;have hp:bV [] o G:=hp;have:o=G:=Rt.unique hp.rt W.rt fun r=>by rw[hp.cnt];simp[cnt]
  subst this T;unfold q3p;rw[hv];exact if_pos ⟨⟨W,tO⟩,⟨I,la⟩,hb,lb⟩
 omega
def N1(b:List a8):Prop:=∀y∈b,y.N=1
def K1(b:List a8):Prop:=∀y∈b,∀z∈b,y.Rec.K=z.Rec.K->y=z
theorem jz5{x:aH}(I:x.Kind=13\/(x.Kind=3/\x.Arg=0)\/(x.Kind=4/\x.Arg=1)){b:List a8}(hb:Fn b)(T:tot b<=60000):q3p x b []=some b:=by
 have W:=hb.len;refine zj9 hb Fn.nil (by omega) (by simp) hb (by omega) fun Z G=>?_;unfold OP.Out at G;rw[if_neg (by omega),if_pos (by rcases I with h|⟨h,_⟩|⟨h,_⟩<;>rw[h]<;>decide),OP.cW I hb.rg]at G;exact G
theorem k2r{x:aH}(I:x.Kind=8){b:List a8}(hb:Fn b)(ht:tot b<=60000)(T:N1 b):q3p x b []=some b:=by
 have hl:=hb.len;refine zj9 hb Fn.nil (by omega) (by simp) hb (by omega) fun O' G=>?_;unfold OP.Out at G;rw[if_neg (by omega),if_neg (by rw[I];decide),if_pos I]at G;rw[G];have:∀{c:List a8},N1 c->OP.cx c=c:=fun {c}=>by
  induction c with
  |nil=>intro _;rfl
  |cons y c W=>
   intro h;have Z:=h y (by simp)
   show (⟨y.Rec,1⟩:a8)::OP.cx c=_
   rw[W fun z hz=>h z (by simp[hz]),<-Z]
 exact this T
theorem jk9{k:Int}{A B O:List a8}(h:OP.Gr k A B O):Rt O/\N1 O/\K1 O:=by
 have hn:N1 O:=fun y I=>(h.row y I).1;have hi:O.Pairwise fun p q=>BG.lt p.Rec q.Rec:=h.inc.imp fun W=> .inl W;refine⟨⟨hi,fun y I=>by rw[hn y I];omega⟩,hn,fun y I z hz e=>?_⟩;refine Xb fun Z=>?_;have:∀{l:List a8},l.Pairwise (fun p q=>p.Rec.K<q.Rec.K)->y∈l->z∈l->False:=fun {l} hp=>by
  induction l with
  |nil=>intro h;cases h
  |cons c l ih=>
   intro T G;obtain⟨p1,p2⟩:=List.pairwise_cons.1 hp;rcases Yh.1 T with e1|T
   .
    rcases Yh.1 G with e2|G
    . exact Z (e1.trans e2.symm)
    have:=p1 z G;rw[<-e1]at this;omega
   rcases Yh.1 G with e2|G
   . have:=p1 y T;rw[<-e2]at this;omega
   exact ih p2 T G
 exact this h.inc I hz
theorem k2s{x:aH}(hk:x.Kind=6){b:List a8}(hb:Fn b)(ht:tot b<=60000)(h1:N1 b)(h2:K1 b):q3p x b []=some b:=by
 have hl:=hb.len;refine zj9 hb Fn.nil (by omega) (by simp) hb (by omega) fun O' hO=>?_;unfold OP.Out at hO;rw[if_neg (by omega),if_neg (by rw[hk];decide),if_neg (by omega),if_neg (by omega),if_pos (by omega),hk]at hO;refine Rt.unique (jk9 hO).1 hb.rt fun r=>?_;rw[OP.Gr.cnt hO r]
 by_cases T:∃y∈b,y.Rec.K=r.K
 .
  obtain⟨y,T,W⟩:=T;have I:OP.key r.K b=[y]:=by
   have hm:y∈OP.key r.K b:=Xe.2 ⟨T,by simpa using W⟩;have G:∀z∈OP.key r.K b,z=y:=fun z hz=>by
    obtain⟨z1,z2⟩:=Xe.1 hz;exact h2 z z1 y T ((beq_iff_eq.1 z2).trans W.symm)
   have Z:(OP.key r.K b).Nodup:=by
    have:b.Nodup:=by
     rw[List.Nodup];exact hb.rt.inc.imp fun {p q} hl (e:p=q)=>z2t p.Rec (by rw[<-e]at hl;exact hl)
    exact this.sublist Xz
   generalize OP.key r.K b=l at*
   match l,hm,G,Z with
   |[z],_,G,_=>rw[G z (by simp)]
   |z::w::l,_,G,Z=>
    have e1:=G z (by simp);have e2:=G w (by simp);rw[e1,e2]at Z;simp at Z
  have hn:=h1 y T;rw[I,if_neg (by simp)];have a6:y=⟨⟨r.K,y.Rec.V⟩,1⟩:=j4w (j0y W rfl) hn;have hs:OP.bY 6 r.K [y] (OP.key r.K [])=y.Rec:=by
   unfold OP.bY;rw[if_neg (by decide),if_pos rfl,a6];exact OP.db (hb.rg y T).2
  rw[hs]
  by_cases he:y.Rec=r
  . rw[if_pos he,<-he,qy7 hb.rt.inc T,hn]
  rw[if_neg he]
  symm
  refine z2d fun z hz e=>he ?_;rw[<-h2 z hz y T (by rw[e,W]),e]
 have I:OP.key r.K b=[]:=OP.bJ fun z hz e=>T ⟨z,hz,e⟩;rw[if_pos I]
 symm
 exact z2d fun z hz e=>T ⟨z,hz,by rw[e]⟩
theorem zy1{o O:List a8}(G:Fn o)(I:Rt O)(h:∀r,cnt o r=cnt O r):o=O:=Rt.unique G.rt I h
theorem zm4{x:aH}(I:x.Kind=6\/x.Kind=7\/x.Kind=14){a b o:List a8}(h:q3p x a b=some o):N1 o/\K1 o:=by
 obtain⟨O,G,T⟩:=zy3 h;unfold OP.Out at G;rw[if_neg (by omega),if_neg (by rcases I with h|h|h<;>rw[h]<;>decide),if_neg (by omega),if_neg (by omega),if_pos (by omega)]at G;obtain⟨W,Z⟩:=jk9 G;rw[zy1 (qm4 h).1 W T];exact Z
theorem k0t{x:aH}(T:x.Kind=8){a b o:List a8}(h:q3p x a b=some o):N1 o:=by
 obtain⟨O,G,W⟩:=zy3 h;have Z:=(z9l h).2.2.1.1;unfold OP.Out at G;rw[if_neg (by omega),if_neg (by rw[T];decide),if_pos T]at G;have h1:Rt O:=by
  rw[G];refine⟨?_,fun y I=>?_⟩
  . unfold OP.cx;rw[X4];exact Z.rt.inc
  obtain⟨z,_,rfl⟩:=Xl.1 I;dsimp only;omega
 rw[zy1 (qm4 h).1 h1 W,G];intro y I;obtain⟨z,_,rfl⟩:=Xl.1 I;rfl
end MN
end
section
open Go Go.RowKit TS VA BG FU
namespace MN
open Classical
theorem j4l{g:aa}(G:VA.Good g):bQ g.aw:=⟨G.ed.pw,fun e T=>by
 have h:=(G.ed.at T).2.2.2.1;rcases zh7 (ndI g e.To).Kind with I|I|I<;>omega⟩
theorem j2k{n:Nat}{own:aC}:∀{l:List aC} {m:Int},m≠n->deg (bz l n own) m+((l.filter fun e=>decide (e.aL=m/\e.To=(n:Int))).length:Int)=deg l m+if m=own.aL then ((l.filter fun e=>decide (e.aL=(n:Int)/\e.To≠(n:Int))).length:Int)else 0
 |[],m,_=>by simp[bz,deg]
 |e::l,m,hm=>by
  have ih:=j2k (l:=l) (own:=own) hm;rw[zj5]
  by_cases G:e.To=(n:Int)
  .
   have Z:bz (e::l) n own=bz l n own:=by
    unfold bz;rw[Xd (by simpa using G)]
   have h2:(e::l).filter (fun e=>decide (e.aL=(n:Int)/\e.To≠(n:Int)))=l.filter fun e=>decide (e.aL=(n:Int)/\e.To≠(n:Int)):=Xd (by simp[G]);rw[Z,h2]
   by_cases T:e.aL=m
   . rw[Xi (by simpa using ⟨T,G⟩),if_pos T];simp only[Xh];push_cast;omega
   rw[Xd (by simpa using fun h=>absurd h T),if_neg T];omega
  have Z:bz (e::l) n own=q57 n own e::bz l n own:=by
   unfold bz;rw[Xi (by simpa using G),Yg]
  have h1:(e::l).filter (fun e=>decide (e.aL=m/\e.To=(n:Int)))=l.filter fun e=>decide (e.aL=m/\e.To=(n:Int)):=Xd (by simp[G]);rw[Z,h1,zj5]
  by_cases W:e.aL=(n:Int)
  .
   have he:(q57 n own e).aL=own.aL:=by unfold q57;rw[if_pos W]
   rw[he,if_neg (show ¬e.aL=m by omega),Xi (by simpa using ⟨W,G⟩)];simp only[Xh]
   by_cases I:m=own.aL
   . rw[if_pos I]at ih;rw[if_pos I.symm,if_pos I];push_cast;omega
   rw[if_neg I]at ih;rw[if_neg (fun e=>I e.symm),if_neg I];omega
  have he:(q57 n own e).aL=e.aL:=by unfold q57;rw[if_neg W]
  rw[he,Xd (by simpa using fun h=>absurd h W)];omega
theorem z4z{l:List aC}{n:Nat}{own x:aC}:x∈bz l n own↔∃e∈l,e.To≠(n:Int)/\x=q57 n own e:=by
 unfold bz;rw[Xl]
 constructor
 . rintro⟨e,T,rfl⟩;obtain⟨G,I⟩:=Xe.1 T;exact⟨e,G,by simpa using I,rfl⟩
 rintro⟨e,G,I,rfl⟩;exact⟨e,Xe.2 ⟨G,by simpa using I⟩,rfl⟩
theorem qg7(n:Nat)(own e:aC):(q57 n own e).To=e.To/\(q57 n own e).Port=e.Port:=by unfold q57;split<;>exact⟨rfl,rfl⟩
theorem j5w{l:List aC}(h:bQ l)(n:Nat)(own:aC):bQ (bz l n own):=by
 refine⟨?_,fun e I=>?_⟩
 . unfold bz;rw[X4];refine (h.1.sublist Xz).imp fun {a b} G=>?_;rw[(qg7 n own a).1,(qg7 n own a).2,(qg7 n own b).1,(qg7 n own b).2];exact G
 obtain⟨x,T,_,rfl⟩:=z4z.1 I;rw[(qg7 n own x).2];exact h.2 x T
def Qof(k:Int)(b:List a8):Prop:=if k=6 then N1 b/\K1 b else if k=8 then N1 b else True
theorem jr3{g:aa}(hG:VA.Good g)(I:FU.Inv g g.aw (Xa g.ae.length false)){n:Nat}(hn:n<g.ae.length)(G:cr g g.aw n=true):
 ∃p0:Nat,Lh g n p0 (bz g.aw n (q33 g.aw n)) (Qof (nd g n).Kind):=by
 have ha:atB (Xa g.ae.length false) (n:Int)=false:=qe0 _ _;obtain⟨o1,o2,o3⟩:=j19 I hn ha G;obtain⟨n1,n2,n3,n4⟩:=qm7 G;obtain⟨e1,e2,_,_,_,_⟩:=hG.ed.at o1;have an:src g.aw n=some (q33 g.aw n):=by
  obtain⟨e,Z,_,_⟩:=z8p I hn ha (by rw[n1];omega);have:q33 g.aw n=e:=by unfold q33;rw[Z];rfl
  rw[this];exact Z
 have ao:((nd g n).Kind=13\/((nd g n).Kind=3/\(nd g n).Arg=0)\/((nd g n).Kind=4/\(nd g n).Arg=1))\/((nd g n).Kind=6/\((ndI g (q33 g.aw n).aL).Kind=6\/(ndI g (q33 g.aw n).aL).Kind=7\/(ndI g (q33 g.aw n).aL).Kind=14))\/
  ((nd g n).Kind=8/\((ndI g (q33 g.aw n).aL).Kind=6\/(ndI g (q33 g.aw n).aL).Kind=7\/(ndI g (q33 g.aw n).aL).Kind=14\/(ndI g (q33 g.aw n).aL).Kind=8)):=by
  unfold cr at G
  split at G
  . exact .inl (.inl (by assumption))
  split at G
  . exact .inl (.inr (.inl ⟨by assumption,by simpa using G⟩))
  split at G
  . exact .inl (.inr (.inr ⟨by assumption,by simpa using G⟩))
  split at G
  .
   rename_i T
   rw[an]at G;simp only[Bool.or_eq_true,Xp,beq_iff_eq]at G;rcases T with T|T
   . exact .inr (.inl ⟨T,by omega⟩)
   exact .inr (.inr ⟨T,by omega⟩)
  cases G
 generalize q33 g.aw n=own at*
 have hp0:(own.aL.toNat:Int)=own.aL:=Xv e1.1;have aq:ndI g own.aL=nd g own.aL.toNat:=rfl;have hP:=j4l hG;have ak:∀e∈g.aw,e.To=(n:Int)->e.Port=0:=fun e W ht=>by
  have h:=(hG.ed.at W).2.2.2.1;have:ndI g e.To=nd g n:=by rw[ht];unfold ndI;rw[Xc]
  rw[this,n1]at h;omega
 have a6:∀e∈g.aw,e.To=(n:Int)->e.aL=own.aL:=fun e W ht=>
  zo5 hP (q:=n) (π:=0) ⟨e,W,rfl,ht,ak e W ht⟩ ⟨own,o1,rfl,o2,ak own o1 o2⟩
 refine⟨own.aL.toNat,⟨⟨hn,by have:=e1.2;omega,by omega,by omega,fun e W ht=>by rw[hp0];exact a6 e W ht,own,o1,hp0.symm,o2⟩,by omega,hP,j5w hP n own,fun m q π hm hq=>?_,fun m hm=>?_,fun m=>?_,fun m ⟨e,W,Z,h2,h3⟩=>?_,?_,?_,fun b hb ht hQ=>?_⟩⟩
 .
  constructor
  .
   rintro⟨x,hx,Z,h2,h3⟩;obtain⟨e,W,ht,rfl⟩:=z4z.1 hx;rw[(qg7 n own e).1]at h2;rw[(qg7 n own e).2]at h3
   by_cases hf:e.aL=(n:Int)
   .
    have:(q57 n own e).aL=own.aL:=by unfold q57;rw[if_pos hf]
    rw[this]at Z;exact .inr ⟨by rw[hp0,Z],e,W,hf,h2,h3⟩
   have:(q57 n own e).aL=e.aL:=by unfold q57;rw[if_neg hf]
   rw[this]at Z;exact .inl ⟨e,W,Z,h2,h3⟩
  rintro (⟨e,W,Z,h2,h3⟩|⟨ar,e,W,Z,h2,h3⟩)
  . refine⟨q57 n own e,z4z.2 ⟨e,W,by rw[h2];exact hq,rfl⟩,?_,by rw[(qg7 n own e).1];exact h2,by rw[(qg7 n own e).2];exact h3⟩;unfold q57;rw[if_neg (by rw[Z];exact hm)];exact Z
  refine⟨q57 n own e,z4z.2 ⟨e,W,by rw[h2];exact hq,rfl⟩,?_,by rw[(qg7 n own e).1];exact h2,by rw[(qg7 n own e).2];exact h3⟩;unfold q57;rw[if_pos Z];dsimp only;rw[ar,hp0]
 .
  have h:=j2k (l:=g.aw) (own:=own) hm;have b1:((g.aw.filter fun e=>decide (e.aL=(n:Int)/\e.To≠(n:Int))).length:Int)<=deg g.aw n:=by
   unfold deg;have:∀l:List aC,(l.filter fun e=>decide (e.aL=(n:Int)/\e.To≠(n:Int))).length<=(l.filter fun e=>decide (e.aL=(n:Int))).length:=fun l=>by
    have e:(l.filter fun e=>decide (e.aL=(n:Int)/\e.To≠(n:Int)))=(l.filter fun e=>decide (e.aL=(n:Int))).filter fun e=>decide (e.To≠(n:Int)):=by
     rw[X3];refine Xf fun x _=>?_;rw[Xs];simp only[Xp,decide_eq_true_eq];exact and_comm
    rw[e];exact Ye _ _
   have:=this g.aw;omega
  by_cases aj:m=own.aL
  .
   have Z:1<=((g.aw.filter fun e=>decide (e.aL=m/\e.To=(n:Int))).length:Int):=by
    have:=List.length_pos_of_mem (l:=g.aw.filter fun e=>decide (e.aL=m/\e.To=(n:Int))) (a:=own) (Xe.2 ⟨o1,by simpa using ⟨aj.symm,o2⟩⟩);omega
   rw[if_pos aj]at h;rw[if_pos (by rw[hp0];exact aj)];omega
  rw[if_neg aj]at h;rw[if_neg (by rw[hp0];exact aj)];omega
 .
  constructor
  . rintro⟨e,W,Z,h2,_⟩;rw[hp0,<-Z];exact a6 e W h2
  intro h;exact⟨own,o1,by rw[h,hp0],o2,ak own o1 o2⟩
 . have:=ak e W h2;omega
 .
  unfold Qof;have:N1 []:=fun y hy=>by cases hy
  split
  . exact⟨this,fun y hy=>by cases hy⟩
  split
  . exact this
  trivial
 .
  rcases ao with T|⟨T,hs⟩|⟨T,hs⟩
  .
   left
   intro b;unfold Qof;rw[if_neg (by omega),if_neg (by omega)];trivial
  .
   right
   rw[aq]at hs;refine⟨⟨by omega,by omega,by omega⟩,fun a b o h=>?_⟩;unfold Qof;rw[if_pos T];exact zm4 hs h
  right
  rw[aq]at hs;refine⟨⟨by omega,by omega,by omega⟩,fun a b o h=>?_⟩;unfold Qof;rw[if_neg (by omega),if_pos T];rcases hs with hs|hs|hs|hs
  . exact (zm4 (.inl hs) h).1
  . exact (zm4 (.inr (.inl hs)) h).1
  . exact (zm4 (.inr (.inr hs)) h).1
  exact k0t hs h
 rcases ao with T|⟨T,_⟩|⟨T,_⟩
 . exact jz5 T hb ht
 . unfold Qof at hQ;rw[if_pos T]at hQ;exact k2s T hb ht hQ.1 hQ.2
 unfold Qof at hQ;rw[if_neg (by omega),if_pos T]at hQ;exact k2r T hb ht hQ
end MN
end
section
open Go Go.RowKit TS VA BG FU
namespace MN
open Classical
theorem j22{g:aa}{l':List aC}{n:Nat}:∀(L:List (Nat×ay)) (s:MS),z11 (lv2 g l' n) L s=q10 (GL g l') 1000000 (L.filter fun p=>decide (p.1≠n)) s
 |[],_=>rfl
 |p::L,s=>by
  show z11 (lv2 g l' n) L (lv2 g l' n s p.1 p.2)=_
  rw[j22 L];unfold lv2
  by_cases hp:p.1=n
  . rw[if_pos hp,Xd (by simpa using hp)]
  rw[if_neg hp,Xi (by simpa using hp)];rfl
theorem j4x:∀(l:List aN) (K:Int) (s:MS),(∀f∈l,OP.rR f.Rec)->(∀p,(Fn (s.ins p).a0/\Fn (s.ins p).a1)/\tot (s.ins p).a0<=K/\tot (s.ins p).a1<=K)->K+l.length<=1000000->
 ∀p,(Fn ((l.foldl q6v s).ins p).a0/\Fn ((l.foldl q6v s).ins p).a1)/\tot ((l.foldl q6v s).ins p).a0<=K+l.length/\tot ((l.foldl q6v s).ins p).a1<=K+l.length
 |[],K,s,_,h,_=>fun p=>⟨(h p).1,by have:=(h p).2.1;simp;omega,by have:=(h p).2.2;simp;omega⟩
 |f::l,K,s,G,h,I=>fun p=>by
  simp only[Xh]at I⊢;rw[List.foldl_cons];obtain⟨Z,o2⟩:=j23 f.Rec (G f (by simp));have:=j4x l (K+1) (q6v s f) (fun x hx=>G x (by simp[hx])) (fun p=>by
   unfold q6v;rw[qd7];obtain⟨⟨T,W⟩,h2,h3⟩:=h p
   split
   .
    rename_i hc
    unfold qg2;rw[if_pos rfl,<-hc.2];obtain⟨_,p1,p2,_⟩:=q7j T Z (by omega);exact⟨⟨p1,W⟩,by dsimp only;omega,by dsimp only;omega⟩
   exact⟨⟨T,W⟩,by omega,by omega⟩) (by push_cast at I;omega) p
  refine⟨this.1,?_,?_⟩
  . have:=this.2.1;push_cast;omega
  have:=this.2.2;push_cast;omega
theorem jr6{F:List aN}(G:∀f∈F,OP.rR f.Rec)(I:F.length<=1000):Bd (F.length:Int) (q25 F):=by
 have W:tot ([]:List a8)=0:=by simp[tot]
 have h:=j4x F 0 s0 G (fun p=>⟨⟨Fn.nil,Fn.nil⟩,by show tot []<=0;omega,by show tot []<=0;omega⟩) (by omega);have T:=(z0d F G I).2.2.2.1;exact⟨fun p=>(h p).1,fun p=>by rw[T];have:=(h p).2;unfold q25;omega,by omega⟩
theorem j98{g:aa}{F:List aN}(G:∀f∈F,OP.rR f.Rec)(T:F.length<=1000)(W:∀f∈F,q7b g f){n:Nat}(Z:(nd g n).Kind≠1)(t:ay):(q25 F).ins ⟨(n:Nat),t⟩=no2:=by
 obtain⟨h1,h2,h3⟩:=(z0d F G T).1 ⟨(n:Nat),t⟩;refine z9k (Rt.unique h1.rt Rt.nil fun x=>?_) h2;rw[h3]
 show cE F _ x=0
 unfold cE;rw[Xt.2]
 . rfl
 intro f hf I;simp only[decide_eq_true_eq]at I;have he:f.Node=(n:Int):=by
  have:=I.1;simp only[ah.mk.injEq]at this;exact this.1
 have:=(W f hf).2.2.1;rw[he,Xc]at this;exact Z this
theorem j90{g:aa}(hG:VA.Good g){n p0:Nat}{l':List aC}{Q:List a8->Prop}(hL:Lh g n p0 l' Q)(hk:(nd g n).Kind≠1){aB:Int}(hm:aB<=2000){F:List aN}(G:∀f∈F,OP.rR f.Rec)(Z:F.length<=1000)(hF:∀f∈F,q7b g f)(a6:0<=aB)(he:(q4h g aB F).e=0):
 (q10 (GL g l') 1000000 (((q54 F).flatMap (q58 g)).filter fun p=>decide (p.1≠n)) (q25 F)).e=0/\(q10 (GL g l') 1000000 (((q54 F).flatMap (q58 g)).filter fun p=>decide (p.1≠n)) (q25 F)).outs=(q4h g aB F).outs/\
  (q10 (GL g l') 1000000 (((q54 F).flatMap (q58 g)).filter fun p=>decide (p.1≠n)) (q25 F)).work<=(q4h g aB F).work:=by
 rw[z8q hG hF G Z fun f hf=>hf]at he⊢;have hE:=z2a F;have hr:∀e∈q54 F,0<=e/\e<=1048576:=fun e h=>by
  obtain⟨f,hf,rfl⟩:=Xl.1 ((hE.mem e).1 h);exact (hF f hf).2.2.2
 obtain⟨i1,i2,i3,i4,i5,i6⟩:=z0d F G Z;have I:=j98 G Z hF hk;have W:=jr6 G Z;have h0:Lv g (F.length:Int) n Q (q25 F) (q25 F):=by
  refine⟨W,fun t=>(i1 _).2.1,fun t=>by rw[I];exact hL.q0,fun q t _=>?_,⟨rfl,rfl,rfl,i6,i6⟩,⟨[],List.nodup_nil,fun t _=>I t,by simp[i4],by simp⟩⟩;rw[I t];obtain⟨f0,f1⟩:=W.fn ⟨q,t⟩;obtain⟨k0,k1⟩:=W.le ⟨q,t⟩;exact (zh6 f0 f1 (by omega) (by omega) _ _).symm
 obtain⟨⟨h1,_⟩,h2⟩:=jk0 hG hL.N (jq8 hG (aB:=aB) (C:=(F.length:Int)) (by omega) (by omega) hL) (q54 F) (q25 F) (q25 F) hE.inc hr (j99 hG F hF) (fun p hp _=>(zs7 G Z hp).1) ⟨h0,by rw[i4];exact a6⟩ (fun t ht=>absurd (I t) ht) he;rw[j22]at h1;refine⟨h1.st.2.2.2.2,h1.st.2.2.1.symm,?_⟩;obtain⟨T,_,_,_,h3⟩:=h1.wk;have hz:(T.map fun t=>tot ((q9k g aB (q54 F) (q25 F)).ins ⟨(n:Nat),t⟩).a0).sum=0:=by
  have:∀t,tot ((q9k g aB (q54 F) (q25 F)).ins ⟨(n:Nat),t⟩).a0=0:=fun t=>by
   have:(q9k g aB (q54 F) (q25 F)).ins ⟨(n:Nat),t⟩=no2:=Xb fun hx=>h2 t hx;rw[this];simp[no2,tot]
  simp only[this];have h0:∀T:List ay,(T.map fun _=>(0:Int)).sum=0:=fun T=>by
   induction T with
   |nil=>rfl
   |cons t T ih=>rw[Yg,List.sum_cons,ih];rfl
  exact h0 T
 rw[hz,Int.mul_zero,Int.add_zero]at h3;exact h3
theorem z8o(g:aa)(n:Nat)(t:ay)(s:MS):(aM g n t s).outs=s.outs:=by unfold aM;split<;>rfl
structure Ih(g:aa)(A:Int->Prop)(l':List aC):Prop where
 P:bQ g.aw
 P':bQ l'
 up:∀e∈g.aw,A e.To->A e.aL
 f':∀m q π:Int,A m->A q->(aE l' m q π↔aE g.aw m q π)
 d':∀m:Int,deg l' m<=deg g.aw m
 sk:∀m:Nat,m<g.ae.length->(nd g m).Kind=15->A m
structure Idr(A:Int->Prop)(s s':MS):Prop where
 ins:∀q t,A q->s'.ins ⟨q,t⟩=s.ins ⟨q,t⟩
 aK:∀q,A q->s'.aK q=s.aK q
 aJ:∀q t,A q->s'.aJ ⟨q,t⟩=s.aJ ⟨q,t⟩
 outs:s'.outs=s.outs
 e:s.e=0/\s'.e=0
 work:s'.work<=s.work
theorem jg8{g:aa}{A:Int->Prop}{l':List aC}(G:Ih g A l'){m q π:Int}(I:A q)(h:aE g.aw m q π):A m:=by
 obtain⟨e,T,W,Z,_⟩:=h;rw[<-W];exact G.up e T (by rw[Z];exact I)
theorem jr8{g:aa}{A:Int->Prop}{l':List aC}(hI:Ih g A l'){aB:Int}(hm:aB<=2000){m:Nat}(b3:m<g.ae.length){v:ay}{s s':MS}(h:Idr A s s')(hw:s.work<=aB)(I:(q0c g aB s m v).2.e=0):
 Idr A (q0c g aB s m v).2 (if A m then (q0c (GL g l') 1000000 s' m v).2 else s')/\(q0c g aB s m v).2.work<=aB:=by
 obtain⟨e1,e2⟩:=h.e
 by_cases hA:A m
 .
  rw[if_pos hA];have a6:s'.ins ⟨m,v⟩=s.ins ⟨m,v⟩:=h.ins m v hA
  by_cases W:s.ins ⟨m,v⟩=no2
  . rw[ql5 (.inl W),ql5 (.inl (by rw[a6];exact W))];exact⟨h,hw⟩
  have b4:¬(s.ins ⟨m,v⟩=no2\/s.e≠0):=fun e=>e.elim W fun e=>e e1;have b5:¬(s.ins ⟨m,v⟩=no2\/s'.e≠0):=fun e=>e.elim W fun e=>e e2;have T:Idr A (aM g m v s) (aM g m v s'):=by
   refine⟨fun q t G=>?_,fun q G=>?_,fun q t G=>?_,?_,?_,?_⟩
   .
    rw[qe1,qe1];split
    . rfl
    exact h.ins q t G
   .
    unfold aM
    split
    .
     dsimp only;unfold upd;split
     . rw[h.aK m hA]
     exact h.aK q G
    exact h.aK q G
   .
    unfold aM
    split
    .
     dsimp only;unfold upd;split
     . rw[a6]
     exact h.aJ q t G
    exact h.aJ q t G
   . rw[z8o,z8o];exact h.outs
   . unfold aM;split<;>exact h.e
   unfold aM;split<;>exact h.work
  have aq:q6o (aM g m v s') m v=q6o (aM g m v s) m v:=by
   unfold q6o;rw[T.aK m hA]
   congr 1
   funext a c
   rw[T.aJ m c.Time hA]
  have b6:(q0c g aB s m v).2=(q6k g aB m v (s.ins ⟨m,v⟩).a0 (if (nd g m).Kind=14 then q6o (aM g m v s) m v else (s.ins ⟨m,v⟩).a1) (aM g m v s)).2:=by unfold q0c;rw[if_neg b4]
  have ar:(q0c (GL g l') 1000000 s' m v).2=(q6k (GL g l') 1000000 m v (s.ins ⟨m,v⟩).a0 (if (nd g m).Kind=14 then q6o (aM g m v s) m v else (s.ins ⟨m,v⟩).a1) (aM g m v s')).2:=by
   unfold q0c;rw[a6,if_neg b5,<-aq];rfl
  rw[b6]at I⊢;rw[ar];have ak:(aM g m v s).work<=aB:=by unfold aM;split<;>exact hw
  generalize (if (nd g m).Kind=14 then q6o (aM g m v s) m v else (s.ins ⟨m,v⟩).a1)=b at*
  generalize aM g m v s=x at*
  generalize aM g m v s'=x' at*
  unfold q6k at I⊢;rw[zn2,zi5]
  cases ha:q3p (nd g m) (s.ins ⟨m,v⟩).a0 b with
  |none=>rw[ha]at I;exact absurd I (by show ¬(9:Int)=0;decide)
  |some out=>
   have b1:=(qm4 ha).1.len;rw[ha]at I;dsimp only at I⊢
   by_cases aj:(nd g m).Kind=15
   . rw[if_pos aj,if_pos aj];exact⟨⟨T.ins,T.aK,T.aJ,by dsimp only;rw[T.outs],T.e,T.work⟩,ak⟩
   rw[if_neg aj]at I;rw[if_neg aj,if_neg aj]
   by_cases hu:(q0b g m v).2=false\/out=[]
   . rw[if_pos hu,if_pos hu];exact⟨T,ak⟩
   rw[if_neg hu]at I;rw[if_neg hu,if_neg hu];have Z:out≠[]:=fun e=>hu (.inr e);dsimp only at I⊢;have an:(q23 m (q0b g m v).1 out g.aw x).work<=aB:=Xb fun hc=>by
    rw[if_pos (by omega)]at I;exact absurd I (by show ¬(9:Int)=0;decide)
   obtain⟨r1,r2,r3,r4,r5⟩:=qd3 (n:=m) (u:=(q0b g m v).1) (out:=out) g.aw x;obtain⟨q1,q2,q3,q4,q5⟩:=qd3 (n:=m) (u:=(q0b g m v).1) (out:=out) l' x';have hd:deg l' m*tot out<=deg g.aw m*tot out:=Xr (hI.d' m) (by omega);have bi:=T.work;have bs:(GL g l').aw=l':=rfl;rw[if_neg (by omega),bs,if_neg (by rw[q1];omega)];refine⟨⟨fun q t G=>?_,fun q G=>by rw[r2,q2];exact T.aK q G,fun q t G=>by rw[r3,q3];exact T.aJ q t G,by rw[r4,q4];exact T.outs,by rw[r5,q5];exact T.e,by rw[r1,q1];omega⟩,an⟩;rw[qr8 Z g.aw x hI.P q t,qr8 Z l' x' hI.P' q t,T.ins q t G,show aE l' m q 0=aE g.aw m q 0 from propext (hI.f' m q 0 hA G),show aE l' m q 1=aE g.aw m q 1 from propext (hI.f' m q 1 hA G)]
 rw[if_neg hA]
 by_cases W:s.ins ⟨m,v⟩=no2\/s.e≠0
 . rw[ql5 W];exact⟨h,hw⟩
 have ao:∀q:Int,A q->q≠m:=fun q G e=>hA (by rw[<-e];exact G);have T:Idr A (aM g m v s) s':=by
  refine⟨fun q t G=>?_,fun q G=>?_,fun q t G=>?_,?_,?_,?_⟩
  . rw[qe1,if_neg (fun e=>ao q G (by simp only[ah.mk.injEq]at e;exact e.1))];exact h.ins q t G
  .
   unfold aM
   split
   . dsimp only;unfold upd;rw[if_neg (ao q G)];exact h.aK q G
   exact h.aK q G
  .
   unfold aM
   split
   . dsimp only;unfold upd;rw[if_neg (fun e=>ao q G (by simp only[ah.mk.injEq]at e;exact e.1))];exact h.aJ q t G
   exact h.aJ q t G
  . rw[z8o];exact h.outs
  . unfold aM;split<;>exact h.e
  unfold aM;split<;>exact h.work
 have ak:(aM g m v s).work<=aB:=by unfold aM;split<;>exact hw
 unfold q0c at I⊢;rw[if_neg W]at I⊢
 generalize (if (nd g m).Kind=14 then q6o (aM g m v s) m v else (s.ins ⟨m,v⟩).a1)=b at*
 generalize aM g m v s=x at*
 unfold q6k at I⊢
 cases ha:q3p (nd g m) (s.ins ⟨m,v⟩).a0 b with
 |none=>rw[ha]at I;exact absurd I (by show ¬(9:Int)=0;decide)
 |some out=>
  have b1:=(qm4 ha).1.len;rw[ha]at I;dsimp only at I⊢;rw[if_neg (fun e=>hA (hI.sk m b3 e))]at I⊢
  by_cases hu:(q0b g m v).2=false\/out=[]
  . rw[if_pos hu];exact⟨T,ak⟩
  rw[if_neg hu]at I⊢;have Z:out≠[]:=fun e=>hu (.inr e);dsimp only at I⊢;have an:(q23 m (q0b g m v).1 out g.aw x).work<=aB:=Xb fun hc=>by
   rw[if_pos (by omega)]at I;exact absurd I (by show ¬(9:Int)=0;decide)
  obtain⟨r1,r2,r3,r4,r5⟩:=qd3 (n:=m) (u:=(q0b g m v).1) (out:=out) g.aw x;have hd:=Yd (qx0 g.aw m) (show 0<=tot out by omega);have bi:=T.work;rw[if_neg (by omega)];refine⟨⟨fun q t G=>?_,fun q G=>by rw[r2];exact T.aK q G,fun q t G=>by rw[r3];exact T.aJ q t G,by rw[r4];exact T.outs,by rw[r5];exact T.e,by rw[r1];omega⟩,an⟩;have b2:∀π,¬aE g.aw m q π:=fun π hf=>hA (jg8 hI G hf);rw[qr8 Z g.aw x hI.P q t,zd8 _ (b2 0) (b2 1)]
  split<;>exact T.ins q t G
theorem j50{g:aa}{A:Int->Prop}{l':List aC}(T:Ih g A l'){aB:Int}(W:aB<=2000):∀(L:List (Nat×ay)) (s s':MS),(∀p∈L,p.1<g.ae.length)->Idr A s s'->s.work<=aB->(q10 g aB L s).e=0->
 Idr A (q10 g aB L s) (q10 (GL g l') 1000000 (L.filter fun p=>decide (A p.1)) s')
 |[],_,_,_,h,_,_=>h
 |p::L,s,s',hp,h,Z,I=>by
  rw[q59]at I⊢;obtain⟨h1,h2⟩:=jr8 T W (hp p (by simp)) (v:=p.2) h Z (qi0 I);have:=j50 T W L _ _ (fun q hq=>hp q (by simp[hq])) h1 h2 I
  by_cases G:A p.1
  . rw[Xi (by simpa using G),q59];rw[if_pos G]at this;exact this
  rw[Xd (by simpa using G)];rw[if_neg G]at this;exact this
end MN
end
section
open Go Go.RowKit VA
namespace FU
open Classical
def comp:List Bool->List Bool->List Bool
 |true::a,d=>true::comp a d
 |false::a,b::d=>b::comp a d
 |_,_=>[]
theorem z9g:∀(a d:List Bool),d.length=cf a->(comp a d).length=a.length
 |[],_,_=>by simp[comp]
 |true::a,d,h=>by rw[q3k]at h;simp[comp,z9g a d (by simpa using h)]
 |false::a,b::d,h=>by rw[q3k,Xh]at h;simp[comp,z9g a d (by simp at h;omega)]
 |false::a,[],h=>by rw[q3k]at h;simp at h;omega
theorem z5q:∀(a d:List Bool),d.length=cf a->∀k (G:k<a.length),(comp a d)[k]?=some (a[k]||d.getD (cf (a.take k)) false)
 |[],_,_,k,G=>by simp at G
 |true::a,d,h,k,G=>by
  rw[q3k]at h
  cases k with
  |zero=>simp[comp]
  |succ k=>
   have:=z5q a d (by simpa using h) k (by simpa using G);simp only[comp,X9,Yb,Xm,q3k,if_true,Nat.zero_add];exact this
 |false::a,b::d,h,k,G=>by
  rw[q3k,Xh]at h
  cases k with
  |zero=>simp[comp,cf]
  |succ k=>
   have:=z5q a d (by simp at h;omega) k (by simpa using G);simp only[comp,X9,Yb,Xm,q3k,Yi,if_false];rw[Nat.add_comm,Xw];exact this
 |false::a,[],h,k,G=>by rw[q3k]at h;simp at h;omega
theorem z92:∀(xs:List aH) (a d:List Bool),xs.length=a.length->d.length=cf a->q2l (q2l xs a) d=q2l xs (comp a d)
 |[],[],d,_,_=>by cases d<;>simp[q2l]
 |x::xs,true::a,d,h,hd=>by
  rw[q3k]at hd;simp only[q2l,comp];exact z92 xs a d (by simpa using h) (by simpa using hd)
 |x::xs,false::a,b::d,h,hd=>by
  rw[q3k,Xh]at hd;have:=z92 xs a d (by simpa using h) (by simp at hd;omega)
  cases b<;>simp only[q2l,comp,this]
 |x::xs,false::a,[],h,hd=>by rw[q3k]at hd;simp at hd;omega
 |[],_::_,_,h,_=>by simp at h
 |_::_,[],_,h,_=>by simp at h
theorem z6g:∀(a d:List Bool) (k:Nat),d.length=cf a->∀i (hi:i<a.length),a[i]=false->(bq (comp a d) k).getD i 0=(bq d k).getD (cf (a.take i)) 0
 |[],_,_,_,i,hi,_=>by simp at hi
 |true::a,d,k,h,i,hi,G=>by
  rw[q3k]at h
  cases i with
  |zero=>simp at G
  |succ i=>
   have:=z6g a d k (by simpa using h) i (by simpa using hi) (by simpa using G);simp only[comp,bq,Xw,Xm,q3k,if_true,Nat.zero_add];exact this
 |false::a,b::d,k,h,i,hi,G=>by
  rw[q3k,Xh]at h
  cases i with
  |zero=>cases b<;>simp[comp,bq,cf]
  |succ i=>
   simp only[comp,Xm,q3k,Yi,if_false];rw[Nat.add_comm 1]
   cases b with
   |true=>
    simp only[bq,Xw];exact z6g a d k (by simp at h;omega) i (by simpa using hi) (by simpa using G)
   |false=>
    simp only[bq,Xw];exact z6g a d (k+1) (by simp at h;omega) i (by simpa using hi) (by simpa using G)
 |false::a,[],k,h,_,_,_=>by rw[q3k]at h;simp at h;omega
theorem zf1:∀(a:List Bool) (j:Nat),j<cf a->∃n,∃h:n<a.length,a[n]=false/\cf (a.take n)=j
 |[],j,h=>by simp[cf]at h
 |true::a,j,h=>by
  rw[q3k]at h;obtain⟨n,G,I,T⟩:=zf1 a j (by simpa using h);exact⟨n+1,by simpa using G,by simpa using I,by rw[Xm,q3k,T];simp⟩
 |false::a,j,h=>by
  rw[q3k]at h
  cases j with
  |zero=>exact⟨0,by simp,by simp,by simp[cf]⟩
  |succ j=>
   obtain⟨n,G,I,T⟩:=zf1 a j (by simp at h;omega);exact⟨n+1,by simpa using G,by simpa using I,by rw[Xm,q3k,T];simp;omega⟩
section
variable {g:aa} {l:List aC} {gone:List Bool} (I:Inv g l gone)
include I
theorem z8j{n:Nat}(T:n<g.ae.length)(G:atB gone n=false):alive gone (n:Int):=⟨by omega,by have:=I.gl;omega,G⟩
theorem zc4{n:Nat}(T:n<g.ae.length):atB gone n=gone[n]'(by have:=I.gl;omega):=z4m (g:=g) (by have:=I.G.nl;omega) I.gl (by have:=I.gl;omega)
theorem jt4{d:List Bool}(hd:d.length=cf gone){n:Nat}(T:n<g.ae.length)(W:atB gone n=false):atB (comp gone d) n=atB d (cf (gone.take n):Nat):=by
 have Z:n<gone.length:=by have:=I.gl;omega
 have G:gone[n]=false:=by rw[<-zc4 I T];exact W
 unfold atB;rw[Xc,Xc,Xk,z5q gone d hd n Z,G];rfl
theorem z9f{d:List Bool}(hd:d.length=cf gone){i:Int}(hi:alive gone i):now d (now gone i)=now (comp gone d) i:=by
 obtain⟨k,G,rfl,T⟩:=hi.get;rw[z0b G T];unfold now;rw[Xc,Xc];exact (z6g gone d 0 hd k G T).symm
theorem j2p{d:List Bool}(hd:d.length=cf gone){i:Int}(hi:alive gone i):atB d (now gone i)=atB (comp gone d) i:=by
 obtain⟨k,G,rfl,T⟩:=hi.get;rw[z0b G T];exact (jt4 I hd (by have:=I.gl;omega) hi.2.2).symm
theorem z7m{d:List Bool}(hd:d.length=cf gone){l2:List aC}(T:∀e∈l2,alive gone e.aL/\alive gone e.To):u6 (u6 g l gone) (l2.map (q36 gone)) d=u6 g l2 (comp gone d):=by
 have G:=I.gl;have W:q2l (q2l g.ae gone) d=q2l g.ae (comp gone d):=z92 _ _ _ G.symm hd;have Z:(l2.map (q36 gone)).map (q36 d)=l2.map (q36 (comp gone d)):=by
  rw[Xu];refine Xj fun e he=>?_;obtain⟨a1,a2⟩:=T e he
  show q36 d (q36 gone e)=_
  unfold q36;dsimp only;rw[z9f I hd a1,z9f I hd a2]
 unfold u6;dsimp only;rw[W,Z]
theorem zb0{i:Int}(hi:alive gone i):ndI (u6 g l gone) (now gone i)=ndI g i/\inG (u6 g l gone) (now gone i)/\inG g i:=by
 have G:=I.gl;obtain⟨k,Z,rfl,hg⟩:=hi.get;obtain⟨b1,T,W⟩:=q3g I (n:=k) (by omega) hi.2.2;rw[W];refine⟨?_,⟨by omega,by omega⟩,⟨by omega,by omega⟩⟩;unfold ndI;rw[Xc,Xc,T]
theorem jj3{i:Int}(hi:alive gone i):Us (u6 g l gone) (u6 g l gone).aw (now gone i)↔Us g l i:=by
 constructor
 .
  intro h
  generalize hj:now gone i=j at h
  induction h generalizing i with
  |sink n h T=>
   subst hj;obtain⟨W,b2,b3⟩:=zb0 I hi;exact .sink i b3 (by rw[<-W];exact T)
  |step e G h Z=>
   obtain⟨x,hx,rfl⟩:=Xl.1 (show e∈l.map (q36 gone)from G);obtain⟨a1,a2⟩:=I.al x hx;have:i=x.aL:=z4j hi a1 hj;subst this;exact .step x hx (Z a2 rfl)
 intro h
 induction h with
 |sink n h T=>
  obtain⟨W,b2,b3⟩:=zb0 I hi;exact .sink _ b2 (by rw[W];exact T)
 |step e G h Z=>
  obtain⟨a1,a2⟩:=I.al e G;exact .step (q36 gone e) (Xl.2 ⟨e,G,rfl⟩) (Z a2)
theorem qu6:(u6 g l gone).ae.length=cf gone:=z2u _ _ I.gl.symm
theorem z5d{n:Nat}(T:n<g.ae.length)(G:atB gone n=false){m:Nat}:q5y (u6 g l gone) (u6 g l gone).aw (Xa m false) (cf (gone.take n))=q5y g l gone n:=by
 obtain⟨b1,Z,b3⟩:=q3g I T G;have W:=jj3 I (z8j I T G);rw[b3]at W;unfold q5y;rw[qe0,G,Z];have:decide (¬Us (u6 g l gone) (u6 g l gone).aw (cf (gone.take n):Nat))=decide (¬Us g l n):=by
  rw[decide_eq_decide,not_congr W]
 rw[this]
theorem j9c:comp gone (idl (u6 g l gone) (u6 g l gone).aw (Xa (cf gone) false))=idl g l gone:=by
 have a6:=I.gl;have G:=qu6 I;have T:(idl (u6 g l gone) (u6 g l gone).aw (Xa (cf gone) false)).length=cf gone:=by unfold idl;simp[G]
 refine Yj fun n=>?_
 by_cases W:n<g.ae.length
 .
  rw[z5q _ _ T n (by omega)];have h1:(idl g l gone)[n]?=some (atB gone n||q5y g l gone n):=by
   unfold idl;simp[W]
  rw[h1,zc4 I W]
  cases hb:gone[n]'(by omega)with
  |true=>simp
  |false=>
   have Z:atB gone n=false:=by rw[zc4 I W,hb]
   obtain⟨b1,_,_⟩:=q3g I W Z;rw[<-z5d I W Z (m:=cf gone)];simp only[Bool.false_or];unfold idl;simp[Xk,b1,qe0]
 rw[Xo (by rw[z9g _ _ T];omega),Xo (by unfold idl;simp;omega)]
theorem j3h:z0r (u6 g l gone) (u6 g l gone).aw (Xa (cf gone) false)=z0r g l gone:=by
 have Z:=I.gl;rw[Xs];unfold z0r;rw[qu6 I,Yo,Yo]
 constructor
 .
  rintro⟨j,hj,h⟩;obtain⟨n,T,h1,h2⟩:=zf1 gone j (Xy.1 hj);have G:n<g.ae.length:=by omega
  refine⟨n,Xy.2 G,?_⟩;rw[<-h2,z5d I G (by rw[zc4 I G,h1])]at h;exact h
 rintro⟨n,T,h⟩;have G:=Xy.1 T;have W:atB gone n=false:=by
  unfold q5y at h;simp only[Xp,Yk]at h;exact h.1
 obtain⟨b1,_,_⟩:=q3g I G W;exact⟨_,Xy.2 (by rw[<-qu6 I];exact b1),by rw[z5d I G W];exact h⟩
theorem j3q{d:List Bool}(hd:d.length=cf gone):(u6 g l gone).aw.filter (q1t d)=(l.filter (q1t (comp gone d))).map (q36 gone):=by
 show (l.map (q36 gone)).filter (q1t d)=_
 rw[Xx]
 congr 1
 refine Xf fun e G=>?_;obtain⟨a1,a2⟩:=I.al e G
 show q1t d (q36 gone e)=_
 unfold q1t q36;dsimp only;rw[j2p I hd a1,j2p I hd a2]
theorem z9y{n:Nat}(hn:n<g.ae.length)(ha:atB gone n=false):src (u6 g l gone).aw (cf (gone.take n))=(src l n).map (q36 gone):=by
 obtain⟨_,_,b3⟩:=q3g I hn ha
 show (l.map (q36 gone)).find? _=_
 unfold src;rw[List.find?_map]
 congr 1
 have G:∀e∈l,((fun e:aC=>e.To==((cf (gone.take n):Nat):Int))∘q36 gone) e=(e.To==(n:Int)):=fun e W=>by
  obtain⟨_,a2⟩:=I.al e W
  show ((q36 gone e).To==_)=_
  rw[Xs,beq_iff_eq,beq_iff_eq];unfold q36;dsimp only;rw[<-b3];exact⟨fun h=>z4j a2 (z8j I hn ha) h,fun h=>by rw[h]⟩
 have T:∀(q:List aC) (Z p2:aC->Bool),(∀e∈q,Z e=p2 e)->q.find? Z=q.find? p2:=by
  intro q Z p2
  induction q with
  |nil=>intro _;rfl
  |cons y q ih=>
   intro h;rw[List.find?_cons,List.find?_cons,h y (by simp),ih fun e W=>h e (by simp[W])]
 exact T l _ _ G
theorem j6a{n:Nat}(G:n<g.ae.length)(T:atB gone n=false):cr (u6 g l gone) (u6 g l gone).aw (cf (gone.take n))=cr g l n:=by
 obtain⟨_,W,_⟩:=q3g I G T;unfold cr;rw[W,z9y I G T]
 cases Z:src l n with
 |none=>rfl
 |some e=>
  obtain⟨a1,_⟩:=I.al e (X5 Z);have:=(zb0 I a1).1;simp only[Option.map_some];rw[show (q36 gone e).aL=now gone e.aL from rfl,this]
theorem zk3{n:Nat}(T:n<g.ae.length)(W:atB gone n=false)(own:aC):bz (u6 g l gone).aw (cf (gone.take n)) (q36 gone own)=(bz l n own).map (q36 gone):=by
 obtain⟨_,_,b3⟩:=q3g I T W;unfold bz;rw[show (u6 g l gone).aw=l.map (q36 gone)from rfl,Xx,Xu,Xu];have h1:l.filter ((fun e:aC=>!(e.To==((cf (gone.take n):Nat):Int)))∘q36 gone)=l.filter fun e=>!(e.To==(n:Int)):=by
  refine Xf fun e Z=>?_;obtain⟨_,a2⟩:=I.al e Z
  show (!((q36 gone e).To==_))=_
  congr 1
  rw[Xs,beq_iff_eq,beq_iff_eq];unfold q36;dsimp only;rw[<-b3];exact⟨fun h=>z4j a2 (z8j I T W) h,fun h=>by rw[h]⟩
 rw[h1];refine Xj fun e Z=>?_;obtain⟨a1,_⟩:=I.al e (Xe.1 Z).1
 show q57 _ _ (q36 gone e)=q36 gone (q57 n own e)
 unfold q57;have:((q36 gone e).aL=((cf (gone.take n):Nat):Int))↔e.aL=n:=by
  unfold q36;dsimp only;rw[<-b3];exact⟨fun h=>z4j a1 (z8j I T W) h,fun h=>by rw[h]⟩
 by_cases G:e.aL=n
 . rw[if_pos G,if_pos (this.2 G)];rfl
 rw[if_neg G,if_neg (fun h=>G (this.1 h))]
theorem zv3{n:Nat}(hn:n<g.ae.length)(ha:atB gone n=false):comp gone ((Xa (cf gone) false).set (cf (gone.take n)) true)=gone.set n true:=by
 have ak:=I.gl;have W:((Xa (cf gone) false).set (cf (gone.take n)) true).length=cf gone:=by simp
 obtain⟨b1,_,_⟩:=q3g I hn ha;rw[qu6 I]at b1;refine Yj fun k=>?_
 by_cases Z:k<gone.length
 .
  rw[z5q _ _ W k Z];have a6:gone[n]'(by omega)=false:=by rw[<-zc4 I hn];exact ha
  by_cases G:k=n
  . subst G;rw[Yc Z,Xk,Yc (by simpa using b1)];simp
  rw[Yf (fun h=>G h.symm),X6 Z]
  cases hb:gone[k]with
  |true=>simp
  |false=>
   have aj:cf (gone.take n)≠cf (gone.take k):=fun h=>by
    rcases Yl n k with T|rfl|T
    . have:=j09 (by omega) T a6;omega
    . exact G rfl
    have:=j09 Z T hb;omega
   rw[Xk,Yf aj];have:((Xa (cf gone) false)[cf (gone.take k)]?).getD false=false:=by
    by_cases h:cf (gone.take k)<cf gone
    . simp[h]
    rw[Xo (by simpa using h)];rfl
   rw[this];rfl
 rw[Xo (by rw[z9g _ _ W];omega),Xo (by simp;omega)]
theorem zu1{n:Nat}(T:n<g.ae.length)(G:atB gone n=false):q7m (u6 g l gone) (u6 g l gone).aw (Xa (cf gone) false) (cf (gone.take n))=q7m g l gone n:=by
 unfold q7m;rw[qe0,G,j6a I T G]
 cases W:cr g l n with
 |false=>rfl
 |true=>
  simp only[Bool.not_false,Bool.true_and];obtain⟨e,h1,h2,h3⟩:=z8p I T G (by rw[(qm7 W).1];omega);have ho:q33 l n=e:=by unfold q33;rw[h1];rfl
  have Z:q33 (u6 g l gone).aw (cf (gone.take n))=q36 gone e:=by unfold q33;rw[z9y I T G,h1];rfl
  obtain⟨_,_,o3⟩:=j19 I T G W;rw[ho]at o3;rw[ho,Z,zk3 I T G];have a6:∀x∈bz l n e,alive gone x.aL/\alive gone x.To:=fun x hx=>by
   obtain⟨y,hy,rfl⟩:=Xl.1 hx;obtain⟨a1,a2⟩:=I.al y (Xe.1 hy).1;obtain⟨c1,_⟩:=I.al e h2;unfold q57
   split
   . exact⟨c1,a2⟩
   exact⟨a1,a2⟩
  unfold qe2;rw[z7m I (by simp) a6,zv3 I T G]
end
end FU
end
section
open Go Go.RowKit TS VA BG FU
namespace MN
open Classical
def cN(gone:List Bool)(k:Nat):Nat:=cf (gone.take k)
theorem j5a{gone:List Bool}{k:Nat}(G:k<gone.length):cN gone (k+1)=cN gone k+if gone[k]=false then 1 else 0:=by
 unfold cN;rw[Xq G,zc1]
 cases gone[k]<;>simp[cf]
theorem q75{gone:List Bool}{i j:Nat}(h:i<=j):cN gone i<=cN gone j:=by
 unfold cN;have G:gone.take j=gone.take i++(gone.take j).drop i:=by
  have:(gone.take j).take i=gone.take i:=by rw[List.take_take,Nat.min_eq_left h]
  rw[<-this,List.take_append_drop]
 rw[G,zc1];omega
theorem z4l{gone:List Bool}{k:Nat}(G:k<gone.length):atB gone (k:Int)=gone[k]:=by
 unfold atB;rw[Xc,Xk,X6 G];rfl
structure Rb(gone:List Bool)(s s':MS):Prop where
 ins:∀k:Nat,k<gone.length->atB gone k=false->∀t,s'.ins ⟨(cN gone k:Nat),t⟩=s.ins ⟨(k:Nat),t⟩
 aK:∀k:Nat,k<gone.length->atB gone k=false->s'.aK (cN gone k:Nat)=s.aK (k:Nat)
 aJ:∀k:Nat,k<gone.length->atB gone k=false->∀t,s'.aJ ⟨(cN gone k:Nat),t⟩=s.aJ ⟨(k:Nat),t⟩
 work:s'.work=s.work
 e:s'.e=s.e
 outs:s'.outs=s.outs.map fun o=>⟨now gone o.Node,o.aQ,o.Rec⟩
section
variable {g:aa} {l:List aC} {gone:List Bool} (I:FU.Inv g l gone) {M:Int}
include I
theorem z8f{j k:Nat}(Z:j<gone.length)(hk:k<gone.length)(G:atB gone j=false)(T:atB gone k=false)(h:cN gone j=cN gone k):j=k:=by
 have W:=I.gl;have:=z4j (gone:=gone) (i:=(j:Int)) (j:=(k:Int)) ⟨by omega,by omega,G⟩ ⟨by omega,by omega,T⟩ (by rw[(q3g I (by omega) G).2.2,(q3g I (by omega) T).2.2];exact congrArg Nat.cast h);omega
theorem js0{k:Nat}(G:k<g.ae.length)(T:atB gone k=false)(t:ay):q0b (u6 g l gone) (cN gone k) t=q0b g k t:=by
 have h:=(q3g I G T).2.1;have hb:∀s,bnd (u6 g l gone) s=bnd g s:=fun s=>rfl;unfold q0b;unfold cN;rw[h];simp only[hb]
theorem j88{k:Nat}(hk:k<gone.length)(ak:atB gone k=false){u:ay}{out:List a8}:∀(Z:List aC) (s s':MS),(∀e∈Z,alive gone e.aL/\alive gone e.To)->Rb gone s s'->Rb gone (q23 k u out Z s) (q23 (cN gone k) u out (Z.map (q36 gone)) s')
 |[],_,_,_,h=>h
 |e::Z,s,s',he,h=>by
  refine j88 hk ak Z (q1x k u out s e) (q1x (cN gone k) u out s' (q36 gone e)) (fun x hx=>he x (by simp[hx])) ?_;have ao:=I.gl;obtain⟨h1,h2⟩:=he e (by simp);obtain⟨a,ha,ea,ga⟩:=h1.get;obtain⟨b,hb,eb,gb⟩:=h2.get;have a1:atB gone (a:Int)=false:=by rw[z4l ha];exact ga
  have b1:atB gone (b:Int)=false:=by rw[z4l hb];exact gb
  have hF:(q36 gone e).aL=(cN gone a:Nat):=by show now gone e.aL=_;rw[ea];exact (q3g I (by omega) a1).2.2
  have hT:(q36 gone e).To=(cN gone b:Nat):=by show now gone e.To=_;rw[eb];exact (q3g I (by omega) b1).2.2
  have an:(q36 gone e).Port=e.Port:=rfl;unfold q1x;rw[hF,hT,an,ea,eb]
  by_cases a6:a=k
  .
   rw[if_pos (by omega),if_pos (by rw[a6])];obtain⟨r1,r2,_,r4,r5⟩:=z3z s ⟨(b:Nat),u⟩ e.Port out;obtain⟨q1,q2,_,q4,q5⟩:=z3z s' ⟨(cN gone b:Nat),u⟩ e.Port out;refine⟨fun j G T t=>?_,fun j G T=>by dsimp only;rw[r1,q1];exact h.aK j G T,fun j G T t=>by dsimp only;rw[r2,q2];exact h.aJ j G T t,by dsimp only;rw[h.work],by dsimp only;rw[r5,q5];exact h.e,by dsimp only;rw[r4,q4];exact h.outs⟩;dsimp only;rw[qd7,qd7]
   by_cases hc:out≠[]/\j=b/\t=u
   . obtain⟨W,rfl,rfl⟩:=hc;rw[if_pos ⟨W,rfl⟩,if_pos ⟨W,rfl⟩,h.ins j G T t]
   rw[if_neg,if_neg]
   . exact h.ins j G T t
   . rintro⟨W,c2⟩;simp only[ah.mk.injEq]at c2;exact hc ⟨W,by omega,c2.2⟩
   rintro⟨W,c2⟩;simp only[ah.mk.injEq]at c2;exact hc ⟨W,z8f I G hb T b1 (by omega),c2.2⟩
  rw[if_neg (by omega),if_neg]
  . exact h
  intro e1;exact a6 (z8f I ha hk a1 ak (by omega))
theorem k02{k:Nat}(hk:k<gone.length)(ak:atB gone k=false){t:ay}{s s':MS}(h:Rb gone s s'):Rb gone (q0c (GL g l) M s k t).2 (q0c (u6 g l gone) M s' (cN gone k) t).2:=by
 have b5:=I.gl;have b2:k<g.ae.length:=by omega
 obtain⟨_,n2,n3⟩:=q3g I b2 ak;have b1:nd (u6 g l gone) (cN gone k)=nd g k:=n2;have an:=h.ins k hk ak t
 by_cases ao:s.ins ⟨(k:Nat),t⟩=no2\/s.e≠0
 . rw[ql5 ao,ql5 (by rw[an,h.e];exact ao)];exact h
 have b3:¬(s'.ins ⟨(cN gone k:Nat),t⟩=no2\/s'.e≠0):=by rw[an,h.e];exact ao
 have a6:∀j,j<gone.length->atB gone j=false->∀v,((⟨(cN gone j:Nat),v⟩:ah)=⟨(cN gone k:Nat),t⟩)↔((⟨(j:Nat),v⟩:ah)=⟨(k:Nat),t⟩):=fun j T W v=>by
  simp only[ah.mk.injEq]
  constructor
  . rintro⟨a,b⟩;exact⟨by have:=z8f I T hk W ak (by omega);omega,b⟩
  rintro⟨a,b⟩;exact⟨by rw[show j=k by omega],b⟩
 have Z:Rb gone (aM (GL g l) k t s) (aM (u6 g l gone) (cN gone k) t s'):=by
  unfold aM;rw[b1,zn2]
  by_cases aq:(nd g k).Kind=14
  .
   rw[if_pos aq,if_pos aq];refine⟨fun j T W v=>?_,fun j T W=>?_,fun j T W v=>?_,h.work,h.e,h.outs⟩
   .
    dsimp only;unfold upd
    by_cases G:(⟨(j:Nat),v⟩:ah)=⟨(k:Nat),t⟩
    . rw[if_pos G,if_pos ((a6 j T W v).2 G)]
    rw[if_neg G,if_neg (fun e=>G ((a6 j T W v).1 e))];exact h.ins j T W v
   .
    dsimp only;unfold upd
    by_cases G:j=k
    . rw[G,if_pos rfl,if_pos rfl,h.aK k hk ak]
    rw[if_neg (fun e=>G (z8f I T hk W ak (by omega))),if_neg (by omega)];exact h.aK j T W
   dsimp only;unfold upd
   by_cases G:(⟨(j:Nat),v⟩:ah)=⟨(k:Nat),t⟩
   . rw[if_pos G,if_pos ((a6 j T W v).2 G),an]
   rw[if_neg G,if_neg (fun e=>G ((a6 j T W v).1 e))];exact h.aJ j T W v
  rw[if_neg aq,if_neg aq];refine⟨fun j T W v=>?_,h.aK,h.aJ,h.work,h.e,h.outs⟩;dsimp only;unfold upd
  by_cases G:(⟨(j:Nat),v⟩:ah)=⟨(k:Nat),t⟩
  . rw[if_pos G,if_pos ((a6 j T W v).2 G)]
  rw[if_neg G,if_neg (fun e=>G ((a6 j T W v).1 e))];exact h.ins j T W v
 have b4:q6o (aM (u6 g l gone) (cN gone k) t s') (cN gone k:Nat) t=q6o (aM (GL g l) k t s) (k:Nat) t:=by
  unfold q6o;rw[Z.aK k hk ak]
  congr 1
  funext a c
  rw[Z.aJ k hk ak c.Time]
 unfold q0c;rw[if_neg ao,if_neg b3,an,b1,zn2,b4]
 generalize (if (nd g k).Kind=14 then q6o (aM (GL g l) k t s) (k:Nat) t else (s.ins ⟨(k:Nat),t⟩).a1)=b
 generalize aM (GL g l) k t s=x at*
 generalize aM (u6 g l gone) (cN gone k) t s'=x' at*
 unfold q6k;rw[b1,zn2,js0 I b2 ak,zi5]
 cases q3p (nd g k) (s.ins ⟨(k:Nat),t⟩).a0 b with
 |none=>exact⟨Z.ins,Z.aK,Z.aJ,Z.work,rfl,Z.outs⟩
 |some out=>
  dsimp only
  by_cases ar:(nd g k).Kind=15
  .
   rw[if_pos ar,if_pos ar];refine⟨Z.ins,Z.aK,Z.aJ,Z.work,Z.e,?_⟩;dsimp only;rw[Z.outs,Ya,Xu]
   congr 1
   refine Xj fun r _=>?_
   show _=(⟨now gone (k:Int),t.C.a0,r⟩:aD)
   rw[n3];rfl
  rw[if_neg ar,if_neg ar]
  by_cases hu:(q0b g k t).2=false\/out=[]
  . rw[if_pos hu,if_pos hu];exact Z
  rw[if_neg hu,if_neg hu];have hs:=j88 I hk ak (u:=(q0b g k t).1) (out:=out) l x x' I.al Z;have e1:(GL g l).aw=l:=rfl;have e2:(u6 g l gone).aw=l.map (q36 gone):=rfl;dsimp only;rw[e1,e2,hs.work]
  split
  . exact⟨hs.ins,hs.aK,hs.aJ,rfl,rfl,hs.outs⟩
  exact hs
end
end MN
end
section
open Go Go.RowKit TS VA BG FU
namespace MN
open Classical
noncomputable def q84(g:aa)(l:List aC)(gone:List Bool)(M:Int)(L:List (Nat×ay))(s:MS):MS:=q10 (GL g l) M (L.filter fun p=>decide (atB gone p.1=false)) s
theorem zb4(g:aa)(l:List aC)(gone:List Bool)(M:Int)(A B:List (Nat×ay))(s:MS):q84 g l gone M (A++B) s=q84 g l gone M B (q84 g l gone M A s):=by
 unfold q84;rw[List.filter_append,qi1]
theorem j70{g:aa}{l:List aC}{gone:List Bool}{M:Int}{L:List (Nat×ay)}(h:∀p∈L,atB gone p.1=true)(s:MS):q84 g l gone M L s=s:=by
 unfold q84;rw[Xt.2 fun p hp=>by simp[h p hp]];rfl
theorem qy1(g:aa)(self:Nat->Nat->Int->ay->List (Nat×ay))(to:Nat)(sc:Int)(t:ay)(f n:Nat):q76 g self to sc t (f+1) n=
 if n<to then (if (nd g n).Scope≠sc then q5v (self n (qb6 g (nd g n).Scope to (to-n) n) (nd g n).Scope) (bnd g (nd g n).Scope).toNat (q4s t)++q76 g self to sc t f (qb6 g (nd g n).Scope to (to-n) n)else (n,atA g n t)::q76 g self to sc t f (n+1))else []:=rfl
section
variable {g:aa} {l:List aC} {gone:List Bool} (I:FU.Inv g l gone) {M:Int}
include I
theorem j6n:(u6 g l gone).ae.length=cN gone g.ae.length:=by
 have G:=I.gl;rw[qu6 I];unfold cN;rw[<-G,X7]
theorem z7w{j:Nat}(G:j<(u6 g l gone).ae.length):∃k,k<g.ae.length/\atB gone k=false/\cN gone k=j/\nd (u6 g l gone) j=nd g k:=by
 have Z:=I.gl;rw[qu6 I]at G;obtain⟨k,hk,h1,T⟩:=zf1 gone j G;have W:atB gone (k:Int)=false:=by rw[z4l hk];exact h1
 refine⟨k,by omega,W,T,?_⟩;rw[<-T];exact (q3g I (by omega) W).2.1
theorem zj7{k:Nat}(W:k<g.ae.length)(G:atB gone k=false):cN gone (k+1)=cN gone k+1:=by
 have T:=I.gl;rw[j5a (by omega),if_pos (by rw[<-z4l (by omega)];exact G)]
theorem jt7{k:Nat}(W:k<g.ae.length)(G:¬atB gone k=false):cN gone (k+1)=cN gone k:=by
 have T:=I.gl;rw[j5a (by omega),if_neg (by rw[<-z4l (by omega)];exact G)];rfl
theorem zs9{n E k:Nat}(G:k<g.ae.length)(T:atB gone k=false)(Z:cN gone n<=cN gone k)(h2:cN gone k<cN gone E):n<=k/\k<E:=by
 have h:=zj7 I G T;refine⟨Xb fun W=>?_,Xb fun W=>?_⟩
 . have:=q75 (gone:=gone) (i:=k+1) (j:=n) (by omega);omega
 have:=q75 (gone:=gone) (i:=E) (j:=k) (by omega);omega
theorem k1h{n E:Nat}{c:Int}(G:Blk g n E c)(T:cN gone n<cN gone E)(Z:(nd (u6 g l gone) (cN gone n)).Scope=c):Blk (u6 g l gone) (cN gone n) (cN gone E) c:=by
 have hN:=j6n I;have a6:=q75 (gone:=gone) G.le;refine⟨T,by omega,G.s0,G.s1,Z,fun m aj an=>?_⟩;obtain⟨k,hk,ak,ao,W⟩:=z7w I (show m<(u6 g l gone).ae.length by omega);obtain⟨h1,h2⟩:=zs9 I hk ak (n:=n) (E:=E) (by omega) (by omega);rw[W];exact G.inn k h1 h2
def RdB(g:aa)(l:List aC)(gone:List Bool)(M:Int)(d:Nat):Prop:=∀{a b:Nat} {sc:Int} {t:ay} {s s':MS},Blk g a b sc->g.af.length-sc.toNat<=d->(cN gone a<cN gone b->(nd (u6 g l gone) (cN gone a)).Scope=sc)->Rb gone s s'->
 Rb gone (q84 g l gone M (sched g d a b sc t) s) (q10 (u6 g l gone) M (sched (u6 g l gone) d (cN gone a) (cN gone b) sc t) s')
omit I in
theorem j8y{d:Nat}(G:RdB g l gone M d){a b:Nat}{sc:Int}(T:Blk g a b sc)(hd:g.af.length-sc.toNat<=d)(W:cN gone a<cN gone b->(nd (u6 g l gone) (cN gone a)).Scope=sc):∀(k:Nat) (u:ay) (s s':MS),Rb gone s s'->
 Rb gone (q84 g l gone M (q5v (sched g d a b sc) k u) s) (q10 (u6 g l gone) M (q5v (sched (u6 g l gone) d (cN gone a) (cN gone b) sc) k u) s')
 |0,_,_,_,h=>h
 |k+1,u,s,s',h=>by
  unfold q5v;rw[zb4,qi1];exact j8y G T hd W k _ _ _ (G T hd W h)
set_option maxHeartbeats 1000000 in
theorem z7z{d:Nat}(hr:RdB g l gone M d){a b:Nat}{sc:Int}(hB:Blk g a b sc)(hd:g.af.length-sc.toNat<=d+1)(b3:cN gone a<cN gone b->Blk (u6 g l gone) (cN gone a) (cN gone b) sc){t:ay}:
 ∀(f f' n:Nat) (s s':MS),b-n<=f->cN gone b-cN gone n<=f'->a<=n->n<=b->(n<b->At g a n sc)->(cN gone n<cN gone b->At (u6 g l gone) (cN gone a) (cN gone n) sc)->Rb gone s s'->
  Rb gone (q84 g l gone M (q76 g (sched g d) b sc t f n) s) (q10 (u6 g l gone) M (q76 (u6 g l gone) (sched (u6 g l gone) d) (cN gone b) sc t f' (cN gone n)) s')
 |0,f',n,s,s',hf,d3,W,cc,_,_,h=>by
  obtain rfl:n=b:=by omega
  have:q76 (u6 g l gone) (sched (u6 g l gone) d) (cN gone n) sc t f' (cN gone n)=[]:=by
   cases f' with
   |zero=>rfl
   |succ f'=>rw[qy1,if_neg (by omega)]
  rw[this];exact h
 |f+1,f',n,s,s',hf,d3,W,cc,hA,bv,h=>by
  have hG:=I.G;have c4:=I.rt;have b4:=hB.le;have dK:=I.gl;have hN:=j6n I;rw[qy1 g]
  by_cases hn:n<b
  .
   rw[if_pos hn];have c0:n<g.ae.length:=by omega
   obtain⟨k0,k1,_⟩:=q2k hG c0
   by_cases hs:(nd g n).Scope≠sc
   .
    rw[if_pos hs,zb4];have a6:=qu9 hG k0 k1;have c1:=ze6 (g:=g) hn a6;obtain⟨_,c5,b5,b6⟩:=qm2 g (nd g n).Scope b (b-n) n cc;have b6:=b6 (X0 _)
    generalize qb6 g (nd g n).Scope b (b-n) n=E at*
    have d4:Blk g n E (nd g n).Scope:=⟨c1,by omega,k0,k1,rfl,b5⟩;have dI:=q8p hG k0 k1 (hB.inn n W hn);have d5:g.af.length-(nd g n).Scope.toNat<=d:=by omega
    have cd:E<b->At g a E sc:=fun T=>zc3 hG hB W hn hs (hA hn) T c1 b5 (b6 T);have cl:∀p∈q5v (sched g d n E (nd g n).Scope) (bnd g (nd g n).Scope).toNat (q4s t),n<=p.1/\p.1<E:=by
     refine qv5 (H:=fun _=>True) (fun _ _=>trivial) (fun u _ q hq=>?_) _ _ trivial;obtain⟨m1,m2,_⟩:=ql6 d _ _ _ u q hq;exact⟨m1,m2⟩
    have cp:=q75 (gone:=gone) (show n<=E by omega);have dJ:=q75 (gone:=gone) c5;rcases Nat.eq_or_lt_of_le cp with heq|d6
    .
     have c6:∀p∈q5v (sched g d n E (nd g n).Scope) (bnd g (nd g n).Scope).toNat (q4s t),atB gone p.1=true:=fun p hp=>by
      obtain⟨m1,m2⟩:=cl p hp;refine Xb fun T=>?_;have T:atB gone (p.1:Int)=false:=by simpa using T
      have e1:=zj7 I (show p.1<g.ae.length by omega) T;have e2:=q75 (gone:=gone) (i:=n) (j:=p.1) m1;have e3:=q75 (gone:=gone) (i:=p.1+1) (j:=E) (by omega);omega
     rw[j70 c6,heq];exact z7z hr hB hd b3 f f' E s s' (by omega) (by omega) (by omega) c5 cd (fun T=>by rw[<-heq];exact bv (by omega)) h
    have b2:=b3 (by have:=q75 (gone:=gone) W;omega);have c2:=bv (by omega);have c7:cN gone n<cN gone b:=by omega
    obtain⟨k,hk,ak,dL,d0⟩:=z7w I (show cN gone n<(u6 g l gone).ae.length by have:=q75 (gone:=gone) b4;omega);obtain⟨d7,d8⟩:=zs9 I hk ak (n:=n) (E:=E) (by omega) (by omega);have c8:=b5 k d7 d8;obtain⟨j0,j1,_⟩:=q2k hG hk;have c3:(nd (u6 g l gone) (cN gone n)).Scope≠sc:=fun e=>by
     rw[d0]at e;rw[e]at c8;have:=q8p hG hB.s0 hB.s1 c8;exact hs (by omega)
    obtain⟨hp',_,_⟩:=child c4 b2 (q75 W) c7 c2 c3;have Z:(nd (u6 g l gone) (cN gone n)).Scope=(nd g n).Scope:=Xb fun T=>by
     rw[d0]at T hp';have:=(z7x hG j0 j1 c8 (fun e=>T e.symm)).2;have hp':g.af.getD (nd g k).Scope.toNat 0=sc:=hp';rw[hp']at this;have:=q8p hG hB.s0 hB.s1 this;exact hs (by omega)
    obtain⟨aj,rfl⟩:∃aj,f'=aj+1:=⟨f'-1,by omega⟩;have dc:qb6 (u6 g l gone) (nd g n).Scope (cN gone b) (cN gone b-cN gone n) (cN gone n)=cN gone E:=by
     obtain⟨u1,u2,u3,u4⟩:=qm2 (u6 g l gone) (nd g n).Scope (cN gone b) (cN gone b-cN gone n) (cN gone n) (by omega);have u4:=u4 (X0 _)
     generalize qb6 (u6 g l gone) (nd g n).Scope (cN gone b) (cN gone b-cN gone n) (cN gone n)=E' at*
     have dM:=q75 (gone:=gone) b4;rcases Yl E' (cN gone E)with T|T|T
     . obtain⟨q,hq,aq,c9,ao⟩:=z7w I (show E'<(u6 g l gone).ae.length by omega);obtain⟨ar,b1⟩:=zs9 I hq aq (n:=n) (E:=E) (by omega) (by omega);refine absurd ?_ (u4 (by omega));rw[ao];exact b5 q ar b1
     . exact T
     obtain⟨q,hq,aq,c9,ao⟩:=z7w I (show cN gone E<(u6 g l gone).ae.length by omega);have hz:=u3 (cN gone E) (by omega) (by omega);rw[ao]at hz;obtain⟨ar,b1⟩:=zs9 I hq aq (n:=E) (E:=b) (by omega) (by omega);exact absurd hz (beyond hG b4 c1 a6 b6 ar b1)
    rw[qy1 (u6 g l gone),if_pos c7,Z,if_pos hs,dc,qi1];have dd:=j8y hr d4 d5 (fun _=>Z) (bnd g (nd g n).Scope).toNat (q4s t) s s' h;have dk:bnd (u6 g l gone) (nd g n).Scope=bnd g (nd g n).Scope:=rfl;rw[dk];refine z7z hr hB hd b3 f aj E _ _ (by omega) (by omega) (by omega) c5 cd (fun T=>?_) dd;have d1:∀m,cN gone n<=m->m<cN gone E->(nd (u6 g l gone) (cN gone n)).Scope∈anc (u6 g l gone).af (nd (u6 g l gone) m).Scope:=fun m dN dO=>by
     obtain⟨q,hq,aq,c9,ao⟩:=z7w I (show m<(u6 g l gone).ae.length by have:=q75 (gone:=gone) b4;omega);obtain⟨ar,b1⟩:=zs9 I hq aq (n:=n) (E:=E) (by omega) (by omega);rw[ao,Z];exact b5 q ar b1
    have cb:(nd (u6 g l gone) (cN gone n)).Scope∉anc (u6 g l gone).af (nd (u6 g l gone) (cN gone E)).Scope:=by
     obtain⟨q,hq,aq,c9,ao⟩:=z7w I (show cN gone E<(u6 g l gone).ae.length by have:=q75 (gone:=gone) b4;omega);obtain⟨ar,b1⟩:=zs9 I hq aq (n:=E) (E:=b) (by omega) (by omega);rw[ao,Z];exact beyond hG b4 c1 a6 b6 ar b1
    exact zc3 c4 b2 (q75 W) c7 c3 c2 T d6 d1 cb
   rw[if_neg hs];have hs:(nd g n).Scope=sc:=by simpa using hs
   have d2:n+1<b->At g a (n+1) sc:=fun T=>at_one hG hB W T hs (hA hn)
   by_cases an:atB gone n=false
   .
    have bi:=zj7 I c0 an;have cp:=q75 (gone:=gone) (show n+1<=b from hn);obtain⟨aj,rfl⟩:∃aj,f'=aj+1:=⟨f'-1,by omega⟩;have bs:nd (u6 g l gone) (cN gone n)=nd g n:=(q3g I c0 an).2.1;have ds:atA (u6 g l gone) (cN gone n) t=atA g n t:=by unfold atA;rw[bs]
    rw[qy1 (u6 g l gone),if_pos (by omega),bs,if_neg (fun T=>T hs),q59,ds];have hV:∀L,q84 g l gone M ((n,atA g n t)::L) s=q84 g l gone M L (q0c (GL g l) M s n (atA g n t)).2:=fun L=>by
     unfold q84;rw[Xi (by simpa using an),q59]
    rw[hV,<-bi];refine z7z hr hB hd b3 f aj (n+1) _ _ (by omega) (by omega) (by omega) hn d2 (fun T=>?_) (k02 I (by omega) an h);have b2:=b3 (by have:=q75 (gone:=gone) W;omega);rw[bi]at T⊢;exact at_one c4 b2 (q75 W) T (by rw[bs];exact hs) (bv (by omega))
   have bi:=jt7 I c0 an;have hV:∀L,q84 g l gone M ((n,atA g n t)::L) s=q84 g l gone M L s:=fun L=>by
    unfold q84;rw[Xd (by simpa using an)]
   rw[hV,<-bi];exact z7z hr hB hd b3 f f' (n+1) s s' (by omega) (by omega) (by omega) hn d2 (fun T=>by rw[bi]at T⊢;exact bv T) h
  rw[if_neg hn];obtain rfl:n=b:=by omega
  have:q76 (u6 g l gone) (sched (u6 g l gone) d) (cN gone n) sc t f' (cN gone n)=[]:=by
   cases f' with
   |zero=>rfl
   |succ f'=>rw[qy1,if_neg (by omega)]
  rw[this];exact h
theorem j4e:∀d:Nat,RdB g l gone M d
 |0,a,b,sc,t,s,s',G,hd,_,_=>by have:=G.s0;have:=G.s1;omega
 |d+1,a,b,sc,t,s,s',G,hd,W,h=>by
  unfold sched;exact z7z I (j4e d) G hd (fun T=>k1h I G T (W T)) (b-a) (cN gone b-cN gone a) a s s' (X0 _) (X0 _) (X0 _) (Nat.le_of_lt G.lt) (fun _ m Z h2=>by omega) (fun _ m Z h2=>by omega) h
theorem jz6(T:List Int){s s':MS}(h:Rb gone s s'):Rb gone (q84 g l gone M (T.flatMap (q58 g)) s) (q9k (u6 g l gone) M T s'):=by
 have Z:=j6n I;have a6:=I.G.pl
 induction T generalizing s s' with
 |nil=>exact h
 |cons e T ih=>
  rw[List.flatMap_cons,zb4,z0z];refine ih ?_;have W:cN gone 0=0:=by simp[cN,cf]
  have:=j4e I (M:=M) 8 (t:=ep e) (zd3 I.G) (by omega) (fun _=>by rw[W];exact (zd3 I.rt).hd) h;rw[W,<-Z]at this;exact this
end
end MN
end
section
open Go Go.RowKit TS VA BG FU
namespace MN
open Classical
theorem j9j{g:aa}{aB:Int}(s:MS)(n:Nat)(t:ay):s.work<=(q0c g aB s n t).2.work:=by
 unfold q0c
 split
 . exact Yn _
 have I:(aM g n t s).work=s.work:=by unfold aM;split<;>rfl
 generalize (if (nd g n).Kind=14 then q6o (aM g n t s) n t else (s.ins ⟨n,t⟩).a1)=b
 generalize aM g n t s=x at*
 unfold q6k
 cases G:q3p (nd g n) (s.ins ⟨n,t⟩).a0 b with
 |none=>dsimp only;omega
 |some out=>
  have T:=(qm4 G).1.len;dsimp only
  split
  . dsimp only;omega
  split
  . dsimp only;omega
  have h:=(qd3 (n:=n) (u:=(q0b g n t).1) (out:=out) g.aw x).1;have hd:=Yd (qx0 g.aw n) (show 0<=tot out by omega);dsimp only
  split<;>first|(dsimp only;omega)|omega
theorem zo2{g:aa}{aB:Int}:∀(L:List (Nat×ay)) (s:MS),s.work<=(q10 g aB L s).work
 |[],_=>Yn _
 |p::L,s=>by rw[q59];exact Int.le_trans (j9j s p.1 p.2) (zo2 L _)
theorem jh8{g:aa}{aB M:Int}{s:MS}{n:Nat}{t:ay}(hM:aB<=M)(T:(q0c g M s n t).2.work<=aB):(q0c g aB s n t).2=(q0c g M s n t).2:=by
 unfold q0c at T⊢
 by_cases G:s.ins ⟨n,t⟩=no2\/s.e≠0
 . rw[if_pos G,if_pos G]
 rw[if_neg G]at T;rw[if_neg G,if_neg G]
 generalize (if (nd g n).Kind=14 then q6o (aM g n t s) n t else (s.ins ⟨n,t⟩).a1)=b at*
 generalize aM g n t s=x at*
 unfold q6k at T⊢
 cases Z:q3p (nd g n) (s.ins ⟨n,t⟩).a0 b with
 |none=>rfl
 |some out=>
  rw[Z]at T;dsimp only at T⊢
  by_cases I:(nd g n).Kind=15
  . rw[if_pos I,if_pos I]
  rw[if_neg I]at T;rw[if_neg I,if_neg I]
  by_cases W:(q0b g n t).2=false\/out=[]
  . rw[if_pos W,if_pos W]
  rw[if_neg W]at T;rw[if_neg W,if_neg W];dsimp only at T⊢;have:(q23 n (q0b g n t).1 out g.aw x).work<=aB:=by split at T<;>exact T
  rw[if_neg (by omega),if_neg (by omega)]
theorem zx9{g:aa}{aB M:Int}(G:aB<=M):∀(L:List (Nat×ay)) (s:MS),(q10 g M L s).work<=aB->q10 g aB L s=q10 g M L s
 |[],_,_=>rfl
 |p::L,s,I=>by
  rw[q59]at I⊢;have T:=zo2 (g:=g) (aB:=M) L (q0c g M s p.1 p.2).2;rw[jh8 G (by omega),q59];exact zx9 G L _ I
def q27(gone:List Bool)(F:List aN):List aN:=F.map fun f=>⟨now gone f.Node,f.aQ,f.Rec⟩
def qf8(gone:List Bool)(o:aD):aD:=⟨now gone o.Node,o.aQ,o.Rec⟩
section
variable {g:aa} {l:List aC} {gone:List Bool} (I:FU.Inv g l gone)
include I
theorem z97{f:aN}(h:q7b g f):∃k:Nat,k<g.ae.length/\atB gone k=false/\f.Node=(k:Int)/\now gone f.Node=(cN gone k:Nat):=by
 obtain⟨Z,h1,h2,_⟩:=h;have G:f.Node.toNat<g.ae.length:=by omega
 have T:f.Node=(f.Node.toNat:Int):=(Xv Z).symm;have W:atB gone (f.Node.toNat:Int)=false:=by
  refine Xb fun hx=>?_;exact (I.kd _ G (by simpa using hx)).1 h2
 exact⟨f.Node.toNat,G,W,T,by rw[T];exact (q3g I G W).2.2⟩
theorem zi9{F:List aN}(T:∀f∈F,q7b g f):∀f∈q27 gone F,q7b (u6 g l gone) f:=fun x Z=>by
 obtain⟨f,W,rfl⟩:=Xl.1 Z;obtain⟨k,hk,ak,h1,h2⟩:=z97 I (T f W);obtain⟨n1,n2,_⟩:=q3g I hk ak;have G:=(T f W).2.2.1;rw[h1,Xc]at G;unfold q7b;dsimp only;rw[h2,Xc];refine⟨by omega,by unfold cN;omega,?_,(T f W).2.2.2⟩;rw[show nd (u6 g l gone) (cN gone k)=nd g k from n2];exact G
omit I in
theorem zd2{F:List aN}(G:∀f∈F,OP.rR f.Rec):∀f∈q27 gone F,OP.rR f.Rec:=fun x T=>by
 obtain⟨f,W,rfl⟩:=Xl.1 T;exact G f W
theorem jr5{F:List aN}(G:∀f∈F,OP.rR f.Rec)(T:F.length<=1000)(W:∀f∈F,q7b g f):Rb gone (q25 F) (q25 (q27 gone F)):=by
 have Z:=I.gl;obtain⟨i1,i2,i3,i4,i5,i6⟩:=z0d F G T;obtain⟨j1,j2,j3,j4,j5,j6⟩:=z0d (q27 gone F) (zd2 G) (by unfold q27;rw[Xg];exact T);refine⟨fun k hk ak t=>?_,fun k _ _=>by rw[i2,j2];rfl,fun k _ _ t=>by rw[i3,j3];rfl,by rw[i4,j4],by rw[i6,j6],by rw[i5,j5];rfl⟩;refine z9k (Rt.unique (j1 _).1.rt (i1 _).1.rt fun x=>?_) (by rw[(i1 _).2.1,(j1 _).2.1]);rw[(i1 _).2.2,(j1 _).2.2];unfold cE q27;rw[Xx,Xg]
 congr 2
 refine Xf fun f hf=>?_;obtain⟨q,hq,aq,h1,h2⟩:=z97 I (W f hf);rw[Xs];simp only[Function.comp,decide_eq_true_eq,ah.mk.injEq];rw[h2,h1]
 constructor
 . rintro⟨⟨a,b⟩,c⟩;exact⟨⟨by rw[z8f I (by omega) hk aq ak (by omega)],b⟩,c⟩
 rintro⟨⟨a,b⟩,c⟩;exact⟨⟨by rw[show q=k by omega],b⟩,c⟩
theorem finish{F:List aN}(G:∀f∈F,OP.rR f.Rec)(Z:F.length<=1000)(hF:∀f∈F,q7b g f){aB:Int}(hm:aB<=2000){outs:List aD}(h1:(q84 g l gone 1000000 ((q54 F).flatMap (q58 g)) (q25 F)).e=0)
 (h2:(q84 g l gone 1000000 ((q54 F).flatMap (q58 g)) (q25 F)).outs=outs)(h3:(q84 g l gone 1000000 ((q54 F).flatMap (q58 g)) (q25 F)).work<=aB):
 (q4h (u6 g l gone) aB (q27 gone F)).e=0/\(q4h (u6 g l gone) aB (q27 gone F)).outs=outs.map (qf8 gone):=by
 have hb:=jz6 I (M:=1000000) (q54 F) (jr5 I G Z hF);have W:(q27 gone F).length<=1000:=by unfold q27;rw[Xg];exact Z
 have hE:q54 (q27 gone F)=q54 F:=by
  have e1:=z2a (q27 gone F);have e2:=z2a F;have:(q27 gone F).map (·.aQ)=F.map (·.aQ):=by unfold q27;rw[Xu];rfl
  rw[this]at e1;exact da.unique e1 e2
 rw[z8q I.rt (zi9 I hF) (zd2 G) W fun f hf=>hf,hE];have T:q9k (u6 g l gone) aB (q54 F) (q25 (q27 gone F))=q9k (u6 g l gone) 1000000 (q54 F) (q25 (q27 gone F)):=by
  unfold q9k at hb⊢;exact zx9 (by omega) _ _ (by rw[hb.work];exact h3)
 rw[T];exact⟨by rw[hb.e];exact h1,by rw[hb.outs,h2];rfl⟩
end
theorem j5l{g:aa}(W:VA.Good g)(Z:∀x∈g.ae,x.Prog.length<1000000){n:Nat}(hn:n<g.ae.length)(T:q7m g g.aw (Xa g.ae.length false) n=true){aB:Int}(a6:0<=aB)(hm:aB<=2000){F:List aN}(G:∀f∈F,OP.rR f.Rec)(hl:F.length<=1000)(hF:∀f∈F,q7b g f)
 (he:(q4h g aB F).e=0)(hw:(q4h g aB F).work<=aB):(q4h (u6 g (bz g.aw n (q33 g.aw n)) ((Xa g.ae.length false).set n true)) aB (q27 ((Xa g.ae.length false).set n true) F)).e=0/\
  (q4h (u6 g (bz g.aw n (q33 g.aw n)) ((Xa g.ae.length false).set n true)) aB (q27 ((Xa g.ae.length false).set n true) F)).outs=(q4h g aB F).outs.map (qf8 ((Xa g.ae.length false).set n true)):=by
 have I0:=FU.Inv.start W Z;have I':=(I0.leave hn T).1;have I:cr g g.aw n=true:=by
  unfold q7m at T;simp only[Xp]at T;exact T.2.1
 obtain⟨p0,hL⟩:=jr3 W I0 hn I;obtain⟨v1,v2,v3⟩:=j90 W hL (qm7 I).2.2.1 hm G hl hF a6 he;have hV:q84 g (bz g.aw n (q33 g.aw n)) ((Xa g.ae.length false).set n true) 1000000 ((q54 F).flatMap (q58 g)) (q25 F)=q10 (GL g (bz g.aw n (q33 g.aw n))) 1000000 (((q54 F).flatMap (q58 g)).filter fun p=>decide (p.1≠n)) (q25 F):=by
  unfold q84
  congr 1
  refine Xf fun p _=>?_;rw[zr3 (by simpa using hn) (by omega),qe0]
  by_cases hp:p.1=n
  . rw[if_pos (by rw[hp])];simp[hp]
  rw[if_neg (by omega)];simp[hp]
 exact finish I' G hl hF hm (by rw[hV];exact v1) (by rw[hV];exact v2) (by rw[hV];omega)
theorem j83{g:aa}(hG:VA.Good g)(a6:∀x∈g.ae,x.Prog.length<1000000)(hs:z0r g g.aw (Xa g.ae.length false)=true)(hr:qe2 g (g.aw.filter (q1t (idl g g.aw (Xa g.ae.length false)))) (idl g g.aw (Xa g.ae.length false))=true){aB:Int}(aj:0<=aB)(W:aB<=2000)
 {F:List aN}(I:∀f∈F,OP.rR f.Rec)(hl:F.length<=1000)(hF:∀f∈F,q7b g f)(he:(q4h g aB F).e=0)(hw:(q4h g aB F).work<=aB):
 (q4h (u6 g (g.aw.filter (q1t (idl g g.aw (Xa g.ae.length false)))) (idl g g.aw (Xa g.ae.length false))) aB (q27 (idl g g.aw (Xa g.ae.length false)) F)).e=0/\
  (q4h (u6 g (g.aw.filter (q1t (idl g g.aw (Xa g.ae.length false)))) (idl g g.aw (Xa g.ae.length false))) aB (q27 (idl g g.aw (Xa g.ae.length false)) F)).outs=(q4h g aB F).outs.map (qf8 (idl g g.aw (Xa g.ae.length false))):=by
 have I0:=FU.Inv.start hG a6;have I':=(I0.idle hs hr).1;have ao:(idl g g.aw (Xa g.ae.length false)).length=g.ae.length:=by unfold idl;simp
 have ak:∀k:Nat,k<g.ae.length->atB (idl g g.aw (Xa g.ae.length false)) k=q5y g g.aw (Xa g.ae.length false) k:=fun k Z=>by
  rw[z4l (by omega)];unfold idl;simp only[List.getElem_map,List.getElem_range];rw[qe0];rfl
 generalize idl g g.aw (Xa g.ae.length false)=gone at*
 have hP:=j4l hG;have G:∀k:Nat,k<g.ae.length->(atB gone k=false↔(Us g g.aw k\/(nd g k).Kind=1)):=fun k Z=>by
  rw[ak k Z];unfold q5y;rw[qe0]
  by_cases T:Us g g.aw k
  . simp[T]
  by_cases h2:(nd g k).Kind=1
  . simp[h2]
  simp[T,h2]
 have hI:Ih g (fun q=>atB gone q=false) (g.aw.filter (q1t gone)):=by
  refine⟨hP,⟨hP.1.sublist Xz,fun e h=>hP.2 e (Xe.1 h).1⟩,fun e h ht=>?_,fun m q π W hq=>?_,fun m=>?_,fun m W Z=>?_⟩
  .
   obtain⟨e1,e2,_,e4,_⟩:=hG.ed.at h;have c1:e.aL=(e.aL.toNat:Int):=(Xv e1.1).symm;have c2:e.To=(e.To.toNat:Int):=(Xv e2.1).symm;rw[c2]at ht;rw[c1];refine (G _ (by have:=e1.1;have:=e1.2;omega)).2 (.inl ?_);rcases (G _ (by have:=e2.1;have:=e2.2;omega)).1 ht with hu|Z
   . rw[<-c1];rw[<-c2]at hu;exact .step e h hu
   exfalso
   have:ndI g e.To=nd g e.To.toNat:=rfl;rw[this,Z]at e4;have aq:aY 1=0:=by decide
   omega
  .
   constructor
   . rintro⟨e,h,T⟩;exact⟨e,(Xe.1 h).1,T⟩
   rintro⟨e,h,T,h2,h3⟩;refine⟨e,Xe.2 ⟨h,?_⟩,T,h2,h3⟩;unfold q1t;rw[T,h2,W,hq];rfl
  .
   unfold deg;rw[X3];have:∀L:List aC,(L.filter fun a=>decide (a.aL=m)&&q1t gone a).length<=(L.filter fun a=>decide (a.aL=m)).length:=fun L=>by
    have e:(L.filter fun a=>decide (a.aL=m)&&q1t gone a)=(L.filter fun a=>decide (a.aL=m)).filter (q1t gone):=by
     rw[X3];refine Xf fun x _=>?_;rw[Bool.and_comm]
    rw[e];exact Ye _ _
   have:=this g.aw;omega
  refine (G m W).2 (.inl (.sink _ ⟨by omega,by omega⟩ ?_));unfold ndI;rw[Xc];exact Z
 have hi:=z0d F I hl;have h0:Idr (fun q=>atB gone q=false) (q25 F) (q25 F):=⟨fun _ _ _=>rfl,fun _ _=>rfl,fun _ _ _=>rfl,rfl,⟨hi.2.2.2.2.2,hi.2.2.2.2.2⟩,Yn _⟩;rw[z8q hG hF I hl fun f hf=>hf]at he hw⊢;have an:∀p∈(q54 F).flatMap (q58 g),p.1<g.ae.length:=fun p hp=>by
  obtain⟨e,_,hx⟩:=Yp.1 hp;exact z9z p hx
 unfold q9k at he hw⊢;have hf:=j50 hI W ((q54 F).flatMap (q58 g)) (q25 F) (q25 F) an h0 (by rw[hi.2.2.2.1];exact aj) he;have hV:q84 g (g.aw.filter (q1t gone)) gone 1000000 ((q54 F).flatMap (q58 g)) (q25 F)=q10 (GL g (g.aw.filter (q1t gone))) 1000000 (((q54 F).flatMap (q58 g)).filter fun p=>@decide (atB gone (p.1:Int)=false) (Classical.propDecidable _)) (q25 F):=by
  unfold q84
  congr 1
  refine Xf fun p _=>?_;rw[Xs];simp only[decide_eq_true_eq]
 exact finish I' I hl hF W (by rw[hV];exact hf.e.2) (by rw[hV];exact hf.outs) (by rw[hV];have:=hf.work;omega)
end MN
end
section
open Go Go.RowKit TS VA BG FU
namespace MN
open Classical
theorem j5n{n:Nat}{u:ay}{out:List a8}(G:List aC)(s:MS):(q23 n u out G s).outs=s.outs:=(qd3 G s).2.2.2.1
theorem j9k{g:aa}{aB:Int}{s:MS}{n:Nat}{t:ay}:∀o∈(q0c g aB s n t).2.outs,o∈s.outs\/((nd g n).Kind=15/\o.Node=(n:Int)):=by
 unfold q0c
 split
 . exact fun o G=> .inl G
 generalize (if (nd g n).Kind=14 then q6o (aM g n t s) n t else (s.ins ⟨n,t⟩).a1)=b
 have T:=z8o g n t s
 generalize aM g n t s=x at*
 unfold q6k
 cases W:q3p (nd g n) (s.ins ⟨n,t⟩).a0 b with
 |none=>intro o G;left;rw[<-T];exact G
 |some out=>
  dsimp only
  by_cases I:(nd g n).Kind=15
  .
   rw[if_pos I];intro o G;rcases List.mem_append.1 G with G|G
   . left;rw[<-T];exact G
   obtain⟨r,_,rfl⟩:=Xl.1 G;exact .inr ⟨I,rfl⟩
  rw[if_neg I]
  split
  . intro o G;left;rw[<-T];exact G
  dsimp only;intro o G
  left
  rw[<-T,<-j5n (n:=n) (u:=(q0b g n t).1) (out:=out) g.aw x]
  split at G<;>exact G
theorem js7{g:aa}{aB:Int}{s:MS}{n:Nat}{t:ay}(W:s.work<=aB)(G:(q0c g aB s n t).2.e=0):(q0c g aB s n t).2.work<=aB:=by
 unfold q0c at G⊢
 split at G
 . rename_i h;rw[if_pos h];exact W
 rename_i h
 rw[if_neg h];have ht:(aM g n t s).work=s.work:=by unfold aM;split<;>rfl
 generalize (if (nd g n).Kind=14 then q6o (aM g n t s) n t else (s.ins ⟨n,t⟩).a1)=b at*
 generalize aM g n t s=x at*
 unfold q6k at G⊢
 cases Z:q3p (nd g n) (s.ins ⟨n,t⟩).a0 b with
 |none=>dsimp only;omega
 |some out=>
  rw[Z]at G;dsimp only at G⊢
  by_cases I:(nd g n).Kind=15
  . rw[if_pos I];dsimp only;omega
  rw[if_neg I]at G⊢
  by_cases T:(q0b g n t).2=false\/out=[]
  . rw[if_pos T];dsimp only;omega
  rw[if_neg T]at G⊢;dsimp only at G⊢
  split at G
  . exact absurd G (by show ¬(9:Int)=0;decide)
  rename_i hc;rw[if_neg hc];omega
theorem j51{g:aa}{aB:Int}:∀(L:List (Nat×ay)) (s:MS),s.work<=aB->(q10 g aB L s).e=0->(q10 g aB L s).work<=aB
 |[],_,h,_=>h
 |p::L,s,h,G=>by
  rw[q59]at G⊢;exact j51 L _ (js7 h (qi0 G)) G
theorem zv6{g:aa}(W:VA.Good g){F:List aN}(Z:∀f∈F,q7b g f)(G:∀f∈F,OP.rR f.Rec)(T:F.length<=1000){aB:Int}(hm:0<=aB):
 (∀o∈(q4h g aB F).outs,∃k:Nat,k<g.ae.length/\(nd g k).Kind=15/\o.Node=(k:Int))/\((q4h g aB F).e=0->(q4h g aB F).work<=aB):=by
 rw[z8q W Z G T fun f hf=>hf];have hi:=z0d F G T;have I:∀p∈(q54 F).flatMap (q58 g),p.1<g.ae.length:=fun p hp=>by
  obtain⟨e,_,hx⟩:=Yp.1 hp;exact z9z p hx
 unfold q9k;refine⟨?_,fun hz=>j51 _ _ (by rw[hi.2.2.2.1];exact hm) hz⟩;refine qm9 (P:=fun s=>∀o∈s.outs,∃k:Nat,k<g.ae.length/\(nd g k).Kind=15/\o.Node=(k:Int)) (fun p hp s hs o ho=>?_) (by rw[hi.2.2.2.2.1];simp);rcases j9k o ho with h|⟨h1,h2⟩
 . exact hs o h
 exact⟨p.1,I p hp,h1,h2⟩
theorem chain{g:aa}{aB:Int}(ar:0<=aB)(hm:aB<=2000){F:List aN}(b6:∀f∈F,OP.rR f.Rec)(hl:F.length<=1000)(hF:∀f∈F,q7b g f){O:List aD}(hO:∀o∈O,∃k:Nat,k<g.ae.length/\(nd g k).Kind=15/\o.Node=(k:Int)):
 ∀(k:Nat) {l:List aC} {gone:List Bool},FU.Inv g l gone->(q4h (u6 g l gone) aB (q27 gone F)).e=0->(q4h (u6 g l gone) aB (q27 gone F)).outs=O.map (qf8 gone)->
  FU.Inv g (qb4 g k l gone).1 (qb4 g k l gone).2/\(q4h (u6 g (qb4 g k l gone).1 (qb4 g k l gone).2) aB (q27 (qb4 g k l gone).2 F)).e=0/\(q4h (u6 g (qb4 g k l gone).1 (qb4 g k l gone).2) aB (q27 (qb4 g k l gone).2 F)).outs=O.map (qf8 (qb4 g k l gone).2)
 |0,l,gone,I,h1,h2=>⟨I,h1,h2⟩
 |k+1,l,gone,I,h1,h2=>by
  rw[qb4]
  cases hs:qy8 g l gone with
  |none=>exact⟨I,h1,h2⟩
  |some p=>
   obtain⟨l2,G⟩:=p;obtain⟨I2,_⟩:=I.step hs
   have b2:=I.rt;have b1:∀x∈(u6 g l gone).ae,x.Prog.length<1000000:=fun x hx=>I.pr x (z6j _ _ x hx);have b3:=zi9 I hF;have a6:=zd2 (gone:=gone) b6;have b4:(q27 gone F).length<=1000:=by unfold q27;rw[Xg];exact hl
   have bi:=(zv6 b2 b3 a6 b4 ar).2 h1;have T:=qu6 I;have c7:=I.gl
   have bs:∀d:List Bool,d.length=cf gone->comp gone d=G->q27 d (q27 gone F)=q27 G F/\(O.map (qf8 gone)).map (qf8 d)=O.map (qf8 G):=fun d hd hc=>by
    constructor
    .
     unfold q27;rw[Xu];refine Xj fun f hf=>?_;obtain⟨q,hq,aq,e1,_⟩:=z97 I (hF f hf)
     show (⟨now d (now gone f.Node),f.aQ,f.Rec⟩:aN)=_
     rw[z9f I hd (by rw[e1];exact z8j I hq aq),hc]
    rw[Xu];refine Xj fun o ho=>?_;obtain⟨q,hq,hk,e1⟩:=hO o ho;have aq:atB gone (q:Int)=false:=Xb fun hx=>(I.kd q hq (by simpa using hx)).2 hk
    show (⟨now d (now gone o.Node),o.aQ,o.Rec⟩:aD)=_
    rw[z9f I hd (by rw[e1];exact z8j I hq aq),hc];rfl
   suffices aj:(q4h (u6 g l2 G) aB (q27 G F)).e=0/\(q4h (u6 g l2 G) aB (q27 G F)).outs=O.map (qf8 G)from
    chain ar hm b6 hl hF hO k I2 aj.1 aj.2
   unfold qy8 at hs
   split at hs
   .
    rename_i hc
    rw[Xp]at hc;simp only[Ym,Prod.mk.injEq]at hs;obtain⟨rfl,rfl⟩:=hs;have bv:=j3h I;have hid:=j9c I;rw[<-T]at bv hid;have W:(idl (u6 g l gone) (u6 g l gone).aw (Xa (u6 g l gone).ae.length false)).length=cf gone:=by rw[<-T];unfold idl;simp
    have b5:=j3q I W;rw[hid]at b5;have Z:=z7m I W (l2:=l.filter (q1t (idl g l gone))) (fun e he=>I.al e (Xe.1 he).1);rw[hid]at Z;have c3:qe2 (u6 g l gone) ((u6 g l gone).aw.filter (q1t (idl (u6 g l gone) (u6 g l gone).aw (Xa (u6 g l gone).ae.length false)))) (idl (u6 g l gone) (u6 g l gone).aw (Xa (u6 g l gone).ae.length false))=true:=by
     rw[b5];refine z8r.2 ?_;rw[Z];exact I2.rt
    obtain⟨r1,r2⟩:=j83 b2 b1 (by rw[bv];exact hc.1) c3 ar hm a6 b4 b3 h1 bi;obtain⟨t1,t2⟩:=bs _ W hid;rw[b5,Z,t1]at r1 r2;exact⟨r1,by rw[r2,h2,t2]⟩
   split at hs
   .
    rename_i n hf
    simp only[Ym,Prod.mk.injEq]at hs;obtain⟨rfl,rfl⟩:=hs;have hn:n<g.ae.length:=Xy.1 (X5 hf);have c0:q7m g l gone n=true:=List.find?_some hf;have ak:=c0;unfold q7m at ak;simp only[Xp,Yk]at ak;obtain⟨an,c4,_⟩:=ak;have c1:=zu1 I hn an;have ao:=zv3 I hn an;rw[<-T]at c1 ao;obtain⟨e,s1,s2,s3⟩:=z8p I hn an (by rw[(qm7 c4).1];omega);have ho:q33 l n=e:=by unfold q33;rw[s1];rfl
    have c5:q33 (u6 g l gone).aw (cf (gone.take n))=q36 gone e:=by unfold q33;rw[z9y I hn an,s1];rfl
    have c6:=zk3 I hn an e;have W:((Xa (u6 g l gone).ae.length false).set (cf (gone.take n)) true).length=cf gone:=by rw[List.length_set,List.length_replicate,T]
    have c2:∀x∈bz l n e,alive gone x.aL/\alive gone x.To:=fun x hx=>by
     obtain⟨y,hy,_,rfl⟩:=z4z.1 hx;rw[(qg7 n e y).1];refine⟨?_,(I.al y hy).2⟩;unfold q57
     split
     . exact (I.al e s2).1
     exact (I.al y hy).1
    have Z:=z7m I W c2;rw[ao]at Z;obtain⟨r1,r2⟩:=j5l b2 b1 (n:=cf (gone.take n)) (q3g I hn an).1 (by rw[c1];exact c0) ar hm a6 b4 b3 h1 bi;obtain⟨t1,t2⟩:=bs _ W ao;rw[c5,c6,Z,t1]at r1 r2;rw[ho];exact⟨r1,by rw[r2,h2,t2]⟩
   cases hs
end MN
end
section
open Go Go.RowKit TS VA BG FU
namespace MN
open Classical
def KO(g:aa)(o:aD):Prop:=∃k:Nat,k<g.ae.length/\(nd g k).Kind=15/\o.Node=(k:Int)
section
variable {g:aa} {l:List aC} {gone:List Bool} (I:FU.Inv g l gone)
include I
theorem z6e{o:aD}(h:KO g o):∃k:Nat,k<g.ae.length/\atB gone k=false/\o.Node=(k:Int)/\now gone o.Node=(cN gone k:Nat):=by
 obtain⟨k,G,T,W⟩:=h;have Z:atB gone (k:Int)=false:=Xb fun hx=>(I.kd k G (by simpa using hx)).2 T;exact⟨k,G,Z,W,by rw[W];exact (q3g I G Z).2.2⟩
theorem j3g{A:List aD}(hA:A.length<100000000)(W:∀o∈A,KO g o):(qd8 A).map (qf8 gone)=qd8 (A.map (qf8 gone)):=by
 have ak:=I.gl;obtain⟨_,T⟩:=qv4 hA;obtain⟨_,sB⟩:=qv4 (outs:=A.map (qf8 gone)) (by rw[Xg];exact hA);have hS:∀o∈qd8 A,KO g o:=fun o G=>W o ((T.mem o).1 G);refine SO.Srt.unique (key:=fun o=>o.Node) ?_ sB.inc fun k=>?_
 .
  rw[X4];refine List.Pairwise.imp_of_mem (fun {a b} ha hb h=>?_) T.inc;obtain⟨i,hi,ai,e1,e2⟩:=z6e I (hS a ha);obtain⟨j,hj,aj,e3,e4⟩:=z6e I (hS b hb)
  show now gone a.Node<=now gone b.Node
  rw[e2,e4];have:=q75 (gone:=gone) (i:=i) (j:=j) (by omega);omega
 rw[sB.fil k,Xx,Xx]
 congr 1
 show (qd8 A).filter (fun o=>decide (now gone o.Node=k))=A.filter (fun o=>decide (now gone o.Node=k))
 by_cases Z:∃o∈A,now gone o.Node=k
 .
  obtain⟨o0,h0,a6⟩:=Z;obtain⟨i,hi,ai,e1,e2⟩:=z6e I (W o0 h0);have hc:∀o∈A,decide (now gone o.Node=k)=decide (o.Node=o0.Node):=fun o G=>by
   obtain⟨j,hj,aj,e3,e4⟩:=z6e I (W o G);rw[decide_eq_decide]
   constructor
   . intro h;have:=z8f I (by omega) (by omega) aj ai (by omega);rw[e1,e3,this]
   intro h;rw[h];exact a6
  rw[Xf fun o G=>hc o ((T.mem o).1 G),Xf hc];exact T.fil _
 rw[Xt.2 fun o G=>?_,Xt.2 fun o G=>?_]
 . simpa using fun h=>Z ⟨o,G,h⟩
 simpa using fun h=>Z ⟨o,(T.mem o).1 G,h⟩
omit I in
theorem j4q{i:Int}(G:0<=i)(T:i<gone.length):idx (bq gone 0) i=some (now gone i):=by
 rw[qj3 0 G (by rw[z01];exact T)];rfl
theorem jj5{F:List aN}(hl:F.length<1000000)(Z:∀f∈F,q7b g f):q5m (built g l gone) F=some (q27 gone F):=by
 have a6:=I.gl;unfold q5m;refine Ok.eq (k3r (l:=F) (by omega) (fun i a=>a=q27 gone (F.take i)) 0 (fun rec i hi a _ G T=>?_) (fun rec a G=>?_) (by simp[q27]) (Nat.zero_le _))
 .
  have aj:a.length<=i:=by rw[G];unfold q27;rw[Xg,Yq];omega
  obtain⟨f0,f1,_⟩:=Z _ (X8 hi);have W:((built g l gone).Now).length=gone.length:=z01 _ _;unfold q8c;dsimp only;rw[if_pos (by simpa using hi),iw hi (by omega)];refine Ok.bind (k3o hi (k3n (fun _=>?_) (fun h=>?_)))
  . rw[show (built g l gone).Now=bq gone 0 from rfl,j4q f0 (by omega)];refine Ok.bind (Ok.some (Ok.guard (by simp only[Xh,List.length_nil];omega) (T _ ?_)));rw[G,Xq hi];unfold q27;rw[Ya];rfl
  exfalso
  rw[W]at h;simp only[Bool.and_eq_false_iff,decide_eq_false_iff_not]at h;omega
 unfold q8c;dsimp only;rw[X7]at G;rw[if_neg (by simp)];exact Ok.some G
theorem ju7{A:List aD}(hl:A.length<=100000000)(W:∀o∈A,KO g o):q8b (built g l gone) A=some (A.map (qf8 gone)):=by
 have Z:=I.gl;unfold q8b;refine Ok.eq (k3r (l:=A) (by omega) (fun i a=>a=(A.take i).map (qf8 gone)) 0 (fun rec i hi a _ G T=>?_) (fun rec a G=>?_) (by simp) (Nat.zero_le _))
 .
  have a6:a.length<=i:=by rw[G,Xg,Yq];omega
  obtain⟨k,hk,_,e1⟩:=W _ (X8 hi);unfold q8y;dsimp only;rw[if_pos (by simpa using hi),iw hi (by omega)];refine Ok.bind (k3o hi ?_);rw[show (built g l gone).Now=bq gone 0 from rfl,j4q (by omega) (by omega)];refine Ok.bind (Ok.some (Ok.guard (by simp only[Xh,List.length_nil];omega) (T _ ?_)));rw[G,Xq hi,Ya];rfl
 unfold q8y;dsimp only;rw[X7]at G;rw[if_neg (by simp)];exact Ok.some G
end
theorem zk7{g:aa}{F:List aN}(G:∀f∈F,q7b g f):q27 (Xa g.ae.length false) F=F:=by
 unfold q27
 conv=>rhs;rw[<-List.map_id F]
 refine Xj fun f I=>?_;obtain⟨T,W,_⟩:=G f I;rw[z8y T W];rfl
theorem j5j{g:aa}{A:List aD}(G:∀o∈A,KO g o):A.map (qf8 (Xa g.ae.length false))=A:=by
 conv=>rhs;rw[<-List.map_id A]
 refine Xj fun o I=>?_;obtain⟨k,T,_,W⟩:=G o I;unfold qf8;rw[z8y (by omega) (by omega)];rfl
theorem bO(g:aa)(aE:List aN)(aB:Int)(og:Dat.ok g)(of:Dat.ok aE)(_:inI .i64 aB):q5h g aE aB=some true:=by
 have W:∀f∈aE,OP.rR f.Rec:=fun f hf=>by
  obtain⟨_,_,h1,h2⟩:=of.2 f hf;exact⟨zt0 h1,zt0 h2⟩
 have aq:∀x∈g.ae,∀y∈x.Prog,OP.iR y.N:=fun x hx y hy=>zt0 ((og.2.2.1.2 x hx).2.2.2.2 y hy).2;have aj:∀(G:aa),(∀x∈G.ae,x∈g.ae)->∀n,n<G.ae.length->∀y∈(nd G n).Prog,OP.iR y.N:=fun G hG n hn y hy=>by
  rw[<-q6g hn]at hy;exact aq _ (hG _ (X8 hn)) y hy
 unfold q5h;rw[FU.cQ];refine Ok.eq (Ok.bind (Ok.some ?_));rw[if_neg (by simp)];refine k3m (FU.cT g) fun b hb=>k3n (fun _=>Ok.some rfl) (fun hs=>?_);simp only[Bool.or_eq_false_iff,Bool.not_eq_false',decide_eq_false_iff_not]at hs;obtain⟨⟨⟨b3,b5⟩,b6⟩,bi⟩:=hs;obtain⟨⟨_,_,hN,hE⟩,ar⟩:=hb b3;rw[VA.cL g fun x hx=>by have:=ar x hx;omega];refine Ok.bind (Ok.some (k3n (fun _=>Ok.some rfl) (fun hc=>?_)));have hG:VA.Good g:=z2e.1 (by simpa using hc);have ak:∀x∈g.ae,x.Prog.length<1000000:=fun x hx=>by have:=ar x hx;omega
 rw[FU.cO hG ak];refine Ok.bind (Ok.some ?_);dsimp only;obtain⟨v,hv,rfl,hS⟩:=j30 g (aj g fun _ h=>h) aE W (aB:=aB) (by omega) (by omega);refine Ok.bind (k3q hv (k3n (fun _=>Ok.some rfl) (fun Z=>?_)));have Z:(z5r g aE aB).2=0:=by simpa using Z
 have T:Ask g aE aB:=Xb fun h=>by unfold z5r at Z;rw[if_neg h]at Z;exact absurd Z (by decide)
 have hF:=T.2.2.2;have hz:(q4h g aB aE).e=0:=by
  unfold z5r at Z;rw[if_pos T]at Z
  split at Z
  . rename_i h;exact absurd Z h
  rename_i h;exact Classical.not_not.1 h
 obtain⟨hO,_⟩:=zv6 hG hF W (by omega) (aB:=aB) (by omega);have hO:∀o∈(q4h g aB aE).outs,KO g o:=hO;have I0:=FU.Inv.start hG ak;have b1:u6 g g.aw (Xa g.ae.length false)=g:=zp9 I0.inE;have a6:=chain (g:=g) (aB:=aB) (by omega) (by omega) W (by omega) hF hO g.ae.length I0 (by rw[b1,zk7 hF];exact hz) (by rw[b1,zk7 hF,j5j hO]);rw[show qb4 g g.ae.length g.aw (Xa g.ae.length false)=fin g from rfl]at a6
 generalize fin g=p at a6⊢
 obtain⟨l,gone⟩:=p;dsimp only at a6⊢;obtain⟨I,c1,c2⟩:=a6;obtain⟨r,an,hr⟩:=hS T;have b4:(q4h g aB aE).outs.length<=10000000:=by
  have h1:=an.inv.pot;have h2:=an.inv.cU;have h3:=an.wx;have:(q4h g aB aE).outs=r.outs:=by rw[<-hr];rfl
  rw[this];omega
 rw[jj5 I (by omega) hF];refine Ok.bind (Ok.some ?_);have bs:(q27 gone aE).length=aE.length:=by unfold q27;rw[Xg]
 obtain⟨w,hw,rfl,_⟩:=j30 (u6 g l gone) (aj _ fun x h=>z6j _ _ x h) (q27 gone aE) (zd2 W) (aB:=aB) (by omega) (by omega);have ao:Ask (u6 g l gone) (q27 gone aE) aB:=⟨I.rt,by omega,by omega,zi9 I hF⟩;have e1:z5r g aE aB=(qd8 (q4h g aB aE).outs,0):=by unfold z5r;rw[if_pos T,if_neg (fun h=>h hz)]
 have e2:z5r (u6 g l gone) (q27 gone aE) aB=(qd8 ((q4h g aB aE).outs.map (qf8 gone)),0):=by unfold z5r;rw[if_pos ao,if_neg (fun h=>h c1),c2]
 rw[show (built g l gone).bh=u6 g l gone from rfl];refine Ok.bind (k3q hw ?_);rw[e1,e2];refine k3n (fun _=>?_) (fun h=>by simp at h);dsimp only;obtain⟨_,sA⟩:=qv4 (outs:=(q4h g aB aE).outs) (by omega);have bv:=sA.perm.length_eq;rw[ju7 I (by omega) fun o ho=>hO o ((sA.mem o).1 ho)];refine Ok.bind (Ok.some ?_);rw[j3g I (by omega) hO];have b2:=(qv4 (outs:=(q4h g aB aE).outs.map (qf8 gone)) (by rw[Xg];omega)).2.perm.length_eq;rw[Xg]at b2;rw[ja3 (by omega)];exact Ok.bind (Ok.some (Ok.some rfl))
end MN
end
end Go.Proofs.YtomicnbiniapfaaGreat

/-
    The law WaveMeans of layer 27 holds for every input: front by front a graph gives what it means, or the same error. No conditions beyond the statement's own.
-/
import Derived.Test.YtdcdfkdhomekeaaGreatLawWM2
import Derived.Test.YtdcdfkdhomekeaaGreatRows
import Derived.WalkKit
import Derived.ProofKit
import Derived.OpenShut
import Derived.ShutString
import Derived.ChangeOld
import Derived.Below
import Derived.Carry
set_option linter.unusedSimpArgs false
set_option linter.unusedVariables false
set_option linter.unusedSectionVars false
namespace Go.Proofs.YtdcdfkdhomekeaaGreat.waveMeans
open Go.ChangeShapes Go.WideShapes Go.ChangeAt Go.RowKit
set_option linter.unusedVariables false
theorem own:ownKnob Tryz.prog.godebug=none:=by kernel_rfl
theorem laidOut:laidOutB pp=true:=by kernel_rfl
theorem top0{x:AV}:za9 false [x]=x:=rfl
set_option maxRecDepth 100000 in
theorem lifted(os:Os)(b:os.Started)(H:Type)(enc:TypeId×Value->H):
 ReturnsInHanded {} Tryz.checked os 3 .any (Rows.waveMeansSpec.pre6 enc pp Tryz.f3 Rows.waveMeansRow.domain false) (Rows.waveMeansSpec.post enc pp Tryz.f3 false true false false):=by
 refine returnsInHanded_of_change (C:=Tryz.checked) own b (by kernel_rfl) Tryz.func3
  (ChangeSpec.witness6 (enc:=enc) (C:=Tryz.checked) false ⟨#[],#[.agg #[.slice none 0 0,.slice none 0 0,.slice none 0 0,.slice none 0 0],.slice none 0 0,.int .i64 0],[]⟩ 8 (by kernel_rfl) (by kernel_rfl) (by kernel_rfl) (by kernel_rfl)) ?_
 intro W base args N gs l c B D _;have a:∀(j:Nat) t v,Tryz.f3.params[j]?=some t->args[j]?=some v->Value.okWide pp W .any base t v:=c;have n:=B;obtain⟨p,q,f,O,rfl,P,Q⟩:=B;have E:DataW.TrodAll enc pp W 0 (λ_=>true) true Tryz.f3.params.toList args.toList N p:=f;rw[Tryz.params3]at E a;obtain⟨v0,R,d0,S,T,q0,o,rfl,rfl,G,U⟩:=trodAll_cons E;obtain⟨v1,V,d1,X,Y,q1,rfl,rfl,rfl,I,Z⟩:=trodAll_cons U;obtain⟨v2,a6,d2,ao,p2,q2,rfl,rfl,rfl,J,r2⟩:=trodAll_cons Z;obtain⟨rfl,rfl,rfl⟩:=trodAll_nil r2;obtain rfl:args=#[v0,v1,v2]:=by cases args;simp_all
 obtain⟨rfl,rfl⟩:=trodVars_none O;have K:=G;have s:∀x∈T,x.block<W.heap.size:=by obtain⟨m,g⟩:=K;exact DataW.trod_lt m _ _ _ g
 obtain⟨u,o0,L⟩:=zy1 (α:=aa) (β:=noG) (ow:=fF) zy0 (by kernel_rfl) (by kernel_rfl) (a 0 26 v0 rfl rfl) G;rw[show q5b pp 26=true from by kernel_rfl]at L;have k1:=I;have w:∀x∈Y,x.block<W.heap.size:=by obtain⟨m,g⟩:=k1;exact DataW.trod_lt m _ _ _ g
 obtain⟨y,o1,M⟩:=zy1 (α:=List aT) (β:=noG) (ow:=fF) zy0 (by kernel_rfl) (by kernel_rfl) (a 1 27 v1 rfl rfl) I;rw[show q5b pp 27=false from by kernel_rfl]at M;have k2:=J;have z:∀x∈p2,x.block<W.heap.size:=by obtain⟨m,g⟩:=k2;exact DataW.trod_lt m _ _ _ g
 obtain⟨A,o2,e2⟩:=j9a (β:=noG) (ow:=fF) Tryz.underlying3 (a 2 3 v2 rfl rfl) J;clear f c;have k:q56 u y A=some true:=WV.dh u y A o0 o1 o2;refine (j4y (by kernel_rfl) (z0s u y A true k) W (GLW.none (by kernel_rfl)) [_,_,_] (by simp only[y8];exact⟨L,M,e2,trivial⟩)).mono λe W' ⟨he,d⟩=>?_;subst he;exact⟨_,rfl,_,_,_,[],_,[],n,trodAll_mk1 (shut_bool Tryz.underlying4 _),(trodAll_cons_mk (Below.trod laidOut (by kernel_rfl) (of_decide_eq_true (by kernel_rfl)) K d s) (trodAll_cons_mk (Below.trod laidOut (by kernel_rfl) (of_decide_eq_true (by kernel_rfl)) k1 d w) (trodAll_cons_mk (Below.trod laidOut (by kernel_rfl) (of_decide_eq_true (by kernel_rfl)) k2 d z) trodAll_mk0))),rfl,d.frame _,λh=>by cases h⟩
theorem fact0:Rows.waveMeansRow.wf (OpenSpec.ofChange Rows.waveMeansSpec)=true:=by kernel_rfl
theorem fact2:mapsRowed pp=true:=by kernel_rfl
theorem fact3:Tryz.f3.params.all (Tryz.prog.readableRec ·)=true:=by kernel_rfl
theorem fact4:namedTie pp Rows.waveMeansRow.named Rows.waveMeansSpec.vars=true:=by kernel_rfl
theorem fact5:(Rows.waveMeansRow.stops==[])=true:=by kernel_rfl
theorem fact6:(Tryz.prog.stops==[])=true:=by kernel_rfl
theorem fact7:(Rows.waveMeansRow.knobs==[])=true:=by kernel_rfl
theorem fact8:(Tryz.prog.stopKnobs==[])=true:=by kernel_rfl
theorem fact9:(Rows.waveMeansRow.inPlace==Tryz.prog.inPlace 3)=true:=by kernel_rfl
theorem fact10:(Rows.waveMeansRow.unfollowed==Tryz.prog.unfollowed 3)=true:=by kernel_rfl
theorem fact11:(Rows.waveMeansRow.recurses==Tryz.prog.recurses 3)=true:=by kernel_rfl
theorem fact12:(Rows.waveMeansRow.named==Tryz.prog.varsNamed 3)=true:=by kernel_rfl
theorem fact13:(Rows.waveMeansRow.maps==(Tryz.f3.params.toList++Rows.waveMeansSpec.plain.varTypes pp).any (Tryz.prog.mapsRec ·))=true:=by kernel_rfl
theorem fact14:(Rows.waveMeansRow.ifaces==(Tryz.f3.params.toList++Rows.waveMeansSpec.plain.varTypes pp).any (Tryz.prog.ifacesRec ·))=true:=by kernel_rfl
theorem fact15:(Rows.waveMeansRow.mapsOut==Tryz.prog.mapsAmong Tryz.f3.resultTypes.toList)=true:=by kernel_rfl
theorem fact16:(Rows.waveMeansRow.loops==(Tryz.f3.params.toList++Rows.waveMeansSpec.plain.varTypes pp).any (Tryz.prog.loopsFrom ·))=true:=by kernel_rfl
theorem fact17:(Rows.waveMeansRow.wideKeys==(Tryz.f3.params.toList++Rows.waveMeansSpec.plain.varTypes pp++Tryz.f3.resultTypes.toList).any (Tryz.prog.wideKeysFrom ·))=true:=by kernel_rfl
theorem fact18:Rows.waveMeansSpec.vars.all (Tryz.prog.varReadable ·)=true:=by kernel_rfl
theorem fact19:Tryz.f3.resultTypes.all (λt=>Tryz.prog.readableRec t&&decide (t<Tryz.prog.types.size))=true:=by kernel_rfl
theorem fact20:(Rows.waveMeansRow.ifacesOut==Tryz.f3.resultTypes.toList.any (Tryz.prog.ifacesRec ·))=true:=by kernel_rfl
theorem fact21:(Rows.waveMeansRow.loopsOut==Tryz.f3.resultTypes.toList.any (Tryz.prog.loopsFrom ·))=true:=by kernel_rfl
theorem fact22:(Rows.waveMeansRow.plainKeys==Tryz.prog.plainKeys)=true:=by kernel_rfl
theorem fact23:Rows.waveMeansRow.shortTexts.isNone=true:=by kernel_rfl
theorem fact24:Tryz.prog.stopsHeard=true:=by kernel_rfl
theorem fact25:Tryz.prog.mayEnter=true:=by kernel_rfl
theorem fact26:(Rows.waveMeansRow.lifted==Tryz.prog.liftsFinal)=true:=by kernel_rfl
theorem fact27:(Tryz.prog.make==some Rows.waveMeansRow.make)=true:=by kernel_rfl
theorem fact28:(Rows.waveMeansRow.kinds==(if Rows.waveMeansRow.domain.isEmpty then []else Tryz.f3.params.toList.map λt=>match Tryz.prog.underlying t with|some (.int k)=>some k|_=>none))=true:=by kernel_rfl
theorem fact29:(Rows.waveMeansRow.pinned==Rows.waveMeansRow.pinnedBy)=true:=by kernel_rfl
theorem fact30:(Rows.waveMeansRow.veiled==(Tryz.f3.params.toList++Rows.waveMeansSpec.plain.varTypes pp++Tryz.f3.resultTypes.toList).any (Tryz.prog.veiledRec ·))=true:=by kernel_rfl
theorem fact31:Rows.waveMeansRow.veiledFits pp Tryz.f3.params.toList (Tryz.f3.params.toList++Rows.waveMeansSpec.plain.varTypes pp++Tryz.f3.resultTypes.toList)=true:=by kernel_rfl
theorem fact1:laidOutB pp=true:=laidOut
theorem both{a b:Bool}(h:a=true)(k:b=true):(a&&b)=true:=by rw[h,k];rfl
set_option maxRecDepth 100000 in
theorem closed:joinedFacts pp 3 Tryz.f3 Rows.waveMeansSpec Rows.waveMeansRow=true:=by unfold joinedFacts;exact (both (both (both (both (both (both (both (both (both (both (both (both (both (both (both (both (both (both (both (both (both (both (both (both (both (both (both (both (both (both (both fact0 fact1) fact2) fact3) fact4) fact5) fact6) fact7) fact8) fact9) fact10) fact11) fact12) fact13) fact14) fact15) fact16) fact17) fact18) fact19) fact20) fact21) fact22) fact23) fact24) fact25) fact26) fact27) fact28) fact29) fact30) fact31)
theorem over:Rows.waveMeansRow.holds Tryz.pinned (OpenSpec.ofChange Rows.waveMeansSpec):=
 OpenClaim.holds_of_wide 3 Tryz.f3 rfl rfl rfl rfl rfl rfl rfl ⟨rfl,rfl,rfl,rfl,rfl⟩ rfl rfl rfl rfl rfl (by kernel_rfl) Tryz.func3 closed
  (of_decide_eq_true (by kernel_rfl)) (by unfold Func.isWrapper;first|(rw[if_pos (by decide+kernel)];kernel_rfl)|(rw[if_neg (by decide+kernel)];exact⟨rfl,rfl⟩))
  (λos a H enc _=>lifted os a H enc)
theorem proved:Rows.WaveMeansSaid:=over
#print axioms proved
end Go.Proofs.YtdcdfkdhomekeaaGreat.waveMeans

/-
    The law FuseMeans of layer 24 holds for every input: of any feeds a graph that was made smaller means the same, with the numbers turned. No conditions beyond the statement's own.
-/
import Derived.Test.YtomicnbiniapfaaGreatLawFM2
import Derived.Test.YtomicnbiniapfaaGreatRows
import Derived.WalkKit
import Derived.ProofKit
import Derived.OpenShut
import Derived.ShutString
import Derived.ChangeOld
import Derived.Below
import Derived.Carry
set_option linter.unusedSimpArgs false
set_option linter.unusedVariables false
set_option linter.unusedSectionVars false
namespace Go.Proofs.YtomicnbiniapfaaGreat.fuseMeans
open Go.ChangeShapes Go.WideShapes Go.ChangeAt Go.RowKit
set_option linter.unusedVariables false
theorem own:ownKnob Tryz.prog.godebug=none:=by kernel_rfl
theorem laidOut:laidOutB pp=true:=by kernel_rfl
theorem top0{x:AV}:zh0 false [x]=x:=rfl
set_option maxRecDepth 100000 in
theorem lifted(os:Os)(I:os.Started)(H:Type)(enc:TypeId×Value->H):
 ReturnsInHanded {} Tryz.checked os 3 .any (Rows.fuseMeansSpec.pre6 enc pp Tryz.f3 Rows.fuseMeansRow.domain false) (Rows.fuseMeansSpec.post enc pp Tryz.f3 false true false false):=by
 refine returnsInHanded_of_change (C:=Tryz.checked) own I (by kernel_rfl) Tryz.func3
  (ChangeSpec.witness6 (enc:=enc) (C:=Tryz.checked) false ⟨#[],#[.agg #[.slice none 0 0,.slice none 0 0,.slice none 0 0,.slice none 0 0],.slice none 0 0,.int .i64 0],[]⟩ 8 (by kernel_rfl) (by kernel_rfl) (by kernel_rfl) (by kernel_rfl)) ?_
 intro W base args ds gs ak T hW b2 _;have G:∀(j:Nat) t v,Tryz.f3.params[j]?=some t->args[j]?=some v->Value.okWide pp W .any base t v:=T;have an:=hW;obtain⟨p,q,a6,hV,rfl,b3,b4⟩:=hW;have hA:DataW.TrodAll enc pp W 0 (fun _=>true) true Tryz.f3.params.toList args.toList ds p:=a6;rw[Tryz.params3]at hA G;obtain⟨v0,b5,d0,b6,p0,q0,ao,rfl,rfl,h0,r0⟩:=trodAll_cons hA;obtain⟨v1,bi,d1,bs,p1,q1,rfl,rfl,rfl,h1,r1⟩:=trodAll_cons r0;obtain⟨v2,bv,d2,c0,p2,q2,rfl,rfl,rfl,h2,r2⟩:=trodAll_cons r1;obtain⟨rfl,rfl,rfl⟩:=trodAll_nil r2;obtain rfl:args=#[v0,v1,v2]:=by cases args;simp_all
 obtain⟨rfl,rfl⟩:=trodVars_none hV;have k0:=h0;have aq:∀x∈p0,x.block<W.heap.size:=by obtain⟨m,hm⟩:=k0;exact DataW.trod_lt m _ _ _ hm
 obtain⟨x0,o0,e0⟩:=j1d (α:=aa) (β:=noG) (ow:=di) j1a (by kernel_rfl) (by kernel_rfl) (G 0 26 v0 rfl rfl) h0;rw[show q6s pp 26=true from by kernel_rfl]at e0;have k1:=h1;have ar:∀x∈p1,x.block<W.heap.size:=by obtain⟨m,hm⟩:=k1;exact DataW.trod_lt m _ _ _ hm
 obtain⟨x1,o1,e1⟩:=j1d (α:=List aN) (β:=noG) (ow:=di) j1a (by kernel_rfl) (by kernel_rfl) (G 1 27 v1 rfl rfl) h1;rw[show q6s pp 27=false from by kernel_rfl]at e1;have k2:=h2;have b1:∀x∈p2,x.block<W.heap.size:=by obtain⟨m,hm⟩:=k2;exact DataW.trod_lt m _ _ _ hm
 obtain⟨x2,o2,e2⟩:=je6 (β:=noG) (ow:=di) Tryz.underlying3 (G 2 3 v2 rfl rfl) h2;clear a6 T;have aj:q5h x0 x1 x2=some true:=MN.bO x0 x1 x2 o0 o1 o2;refine (j7b (by kernel_rfl) (z1z x0 x1 x2 true aj) W (GLW.none (by kernel_rfl)) [_,_,_] (by simp only[y9];exact⟨e0,e1,e2,trivial⟩)).mono fun e W' ⟨he,Z⟩=>?_;subst he;exact⟨_,rfl,_,_,_,[],_,[],an,trodAll_mk1 (shut_bool Tryz.underlying4 _),(trodAll_cons_mk (Below.trod laidOut (by kernel_rfl) (of_decide_eq_true (by kernel_rfl)) k0 Z aq) (trodAll_cons_mk (Below.trod laidOut (by kernel_rfl) (of_decide_eq_true (by kernel_rfl)) k1 Z ar) (trodAll_cons_mk (Below.trod laidOut (by kernel_rfl) (of_decide_eq_true (by kernel_rfl)) k2 Z b1) trodAll_mk0))),rfl,Z.frame _,fun h=>by cases h⟩
theorem fact0:Rows.fuseMeansRow.wf (OpenSpec.ofChange Rows.fuseMeansSpec)=true:=by kernel_rfl
theorem fact2:mapsRowed pp=true:=by kernel_rfl
theorem fact3:Tryz.f3.params.all (Tryz.prog.readableRec ·)=true:=by kernel_rfl
theorem fact4:namedTie pp Rows.fuseMeansRow.named Rows.fuseMeansSpec.vars=true:=by kernel_rfl
theorem fact5:(Rows.fuseMeansRow.stops==[])=true:=by kernel_rfl
theorem fact6:(Tryz.prog.stops==[])=true:=by kernel_rfl
theorem fact7:(Rows.fuseMeansRow.knobs==[])=true:=by kernel_rfl
theorem fact8:(Tryz.prog.stopKnobs==[])=true:=by kernel_rfl
theorem fact9:(Rows.fuseMeansRow.inPlace==Tryz.prog.inPlace 3)=true:=by kernel_rfl
theorem fact10:(Rows.fuseMeansRow.unfollowed==Tryz.prog.unfollowed 3)=true:=by kernel_rfl
theorem fact11:(Rows.fuseMeansRow.recurses==Tryz.prog.recurses 3)=true:=by kernel_rfl
theorem fact12:(Rows.fuseMeansRow.named==Tryz.prog.varsNamed 3)=true:=by kernel_rfl
theorem fact13:(Rows.fuseMeansRow.maps==(Tryz.f3.params.toList++Rows.fuseMeansSpec.plain.varTypes pp).any (Tryz.prog.mapsRec ·))=true:=by kernel_rfl
theorem fact14:(Rows.fuseMeansRow.ifaces==(Tryz.f3.params.toList++Rows.fuseMeansSpec.plain.varTypes pp).any (Tryz.prog.ifacesRec ·))=true:=by kernel_rfl
theorem fact15:(Rows.fuseMeansRow.mapsOut==Tryz.prog.mapsAmong Tryz.f3.resultTypes.toList)=true:=by kernel_rfl
theorem fact16:(Rows.fuseMeansRow.loops==(Tryz.f3.params.toList++Rows.fuseMeansSpec.plain.varTypes pp).any (Tryz.prog.loopsFrom ·))=true:=by kernel_rfl
theorem fact17:(Rows.fuseMeansRow.wideKeys==(Tryz.f3.params.toList++Rows.fuseMeansSpec.plain.varTypes pp++Tryz.f3.resultTypes.toList).any (Tryz.prog.wideKeysFrom ·))=true:=by kernel_rfl
theorem fact18:Rows.fuseMeansSpec.vars.all (Tryz.prog.varReadable ·)=true:=by kernel_rfl
theorem fact19:Tryz.f3.resultTypes.all (fun t=>Tryz.prog.readableRec t&&decide (t<Tryz.prog.types.size))=true:=by kernel_rfl
theorem fact20:(Rows.fuseMeansRow.ifacesOut==Tryz.f3.resultTypes.toList.any (Tryz.prog.ifacesRec ·))=true:=by kernel_rfl
theorem fact21:(Rows.fuseMeansRow.loopsOut==Tryz.f3.resultTypes.toList.any (Tryz.prog.loopsFrom ·))=true:=by kernel_rfl
theorem fact22:(Rows.fuseMeansRow.plainKeys==Tryz.prog.plainKeys)=true:=by kernel_rfl
theorem fact23:Rows.fuseMeansRow.shortTexts.isNone=true:=by kernel_rfl
theorem fact24:Tryz.prog.stopsHeard=true:=by kernel_rfl
theorem fact25:Tryz.prog.mayEnter=true:=by kernel_rfl
theorem fact26:(Rows.fuseMeansRow.lifted==Tryz.prog.liftsFinal)=true:=by kernel_rfl
theorem fact27:(Tryz.prog.make==some Rows.fuseMeansRow.make)=true:=by kernel_rfl
theorem fact28:(Rows.fuseMeansRow.kinds==(if Rows.fuseMeansRow.domain.isEmpty then []else Tryz.f3.params.toList.map fun t=>match Tryz.prog.underlying t with|some (.int k)=>some k|_=>none))=true:=by kernel_rfl
theorem fact29:(Rows.fuseMeansRow.pinned==Rows.fuseMeansRow.pinnedBy)=true:=by kernel_rfl
theorem fact30:(Rows.fuseMeansRow.veiled==(Tryz.f3.params.toList++Rows.fuseMeansSpec.plain.varTypes pp++Tryz.f3.resultTypes.toList).any (Tryz.prog.veiledRec ·))=true:=by kernel_rfl
theorem fact31:Rows.fuseMeansRow.veiledFits pp Tryz.f3.params.toList (Tryz.f3.params.toList++Rows.fuseMeansSpec.plain.varTypes pp++Tryz.f3.resultTypes.toList)=true:=by kernel_rfl
theorem fact1:laidOutB pp=true:=laidOut
theorem both{a b:Bool}(h:a=true)(k:b=true):(a&&b)=true:=by rw[h,k];rfl
set_option maxRecDepth 100000 in
theorem closed:joinedFacts pp 3 Tryz.f3 Rows.fuseMeansSpec Rows.fuseMeansRow=true:=by unfold joinedFacts;exact (both (both (both (both (both (both (both (both (both (both (both (both (both (both (both (both (both (both (both (both (both (both (both (both (both (both (both (both (both (both (both fact0 fact1) fact2) fact3) fact4) fact5) fact6) fact7) fact8) fact9) fact10) fact11) fact12) fact13) fact14) fact15) fact16) fact17) fact18) fact19) fact20) fact21) fact22) fact23) fact24) fact25) fact26) fact27) fact28) fact29) fact30) fact31)
theorem over:Rows.fuseMeansRow.holds Tryz.pinned (OpenSpec.ofChange Rows.fuseMeansSpec):=
 OpenClaim.holds_of_wide 3 Tryz.f3 rfl rfl rfl rfl rfl rfl rfl ⟨rfl,rfl,rfl,rfl,rfl⟩ rfl rfl rfl rfl rfl (by kernel_rfl) Tryz.func3 closed
  (of_decide_eq_true (by kernel_rfl)) (by unfold Func.isWrapper;first|(rw[if_pos (by decide+kernel)];kernel_rfl)|(rw[if_neg (by decide+kernel)];exact⟨rfl,rfl⟩))
  (fun os G H enc _=>lifted os G H enc)
theorem proved:Rows.FuseMeansSaid:=over
#print axioms proved
end Go.Proofs.YtomicnbiniapfaaGreat.fuseMeans

/-
  What functions of the program compute, each told as a plain function that may give nothing, with the proof that the code does so. No condition beyond those that each theorem names.
-/
import Derived.Test.YtomicnbiniapfaaGreatWalkFM0
import Derived.Test.YtomicnbiniapfaaGreatWalkFM1
import Derived.Test.YtomicnbiniapfaaGreatLibE
import Derived.Test.YtomicnbiniapfaaGreatLibD
set_option linter.unusedSimpArgs false
set_option linter.unusedVariables false
set_option linter.unusedSectionVars false
set_option maxHeartbeats 2000000
set_option maxRecDepth 100000
open Option renaming some.inj->Xa
open List renaming set->Xb,length_append->Xe,length_cons->Xf,length_nil->Xg,length->Xh
open Int renaming toNat->Xc
open And renaming intro->Xd
open Nat renaming zero_add->Xi
open Prod renaming mk->Xj
namespace Go.Proofs.YtomicnbiniapfaaGreat
open Go Go.RowKit
open Go.IntKind (i64)
def q2p(G:Bool)(I:Int)(a6:a7)(W:(Bool×Int×a7->Option (Bool×a7)))(Z:aH)(aj:ay):Option (Bool×a7):=
 q9 (q4p a6 I aj) (fun T=>
 W ((G||(T.1&&(Z.Kind==12))),i64.wrap (I+1),T.2))
def q5f(a6:ay)(G:Bool)(W:Int)(Z:a7)(T:(Bool×Int×a7->Option (Bool×a7)))(I:aH):Option (Bool×a7):=
 (if (I.Kind==10)=true then q9 (qw2 a6) (fun aj=>
 q2p G W Z T I aj.1)
 else q2p G W Z T I a6)
def q88(self:a7->Int->Int->Int->ay->Option (Bool×a7))(I:Bool)(aq:Int)(W:(Bool×Int×a7->Option (Bool×a7)))(ak:aH)(G:Int)(an:Int)(ao:Int×a7×ay->Option (Bool×a7)):Int×a7×ay->Option (Bool×a7):=
 fun (T,a6,aj)=>
 (if (decide (T<an))=true then q9 (self a6 aq G ak.Scope aj) (fun Z=>
 (if (!Z.1)=true then W (I,G,Z.2)
 else q9 (z0j aj) (fun ar=>
 ao (i64.wrap (T+1),Z.2,ar.1))))
 else W (I,G,a6))
def q2o(an:ay)(self:a7->Int->Int->Int->ay->Option (Bool×a7))(G:Bool)(aj:Int)(Z:(Bool×Int×a7->Option (Bool×a7)))(I:aH)(T:Int)(W:a7):Option (Bool×a7):=
 q9 (qw3 an) (fun ak=>
 q9 (idx W.g.aG I.Scope) (fun a6=>
 d9 (q88 self G aj Z I T a6) rounds (0,W,ak.1)))
def q87(ak:Int)(aq:ay)(self:a7->Int->Int->Int->ay->Option (Bool×a7))(I:Bool)(aj:Int)(W:(Bool×Int×a7->Option (Bool×a7)))(T:aH)(an:Int×a7->Option (Bool×a7)):Int×a7->Option (Bool×a7):=
 fun (G,Z)=>
 (if (decide (G<ak))=true then q9 (idx Z.g.ae G) (fun ao=>
 q9 (q43 Z ao.Scope T.Scope) (fun a6=>
 (if a6.1=true then an (i64.wrap (G+1),a6.2)
 else q2o aq self I aj W T G a6.2)))
 else q2o aq self I aj W T G Z)
def q2q(Z:Int)(a6:Int)(ak:ay)(self:a7->Int->Int->Int->ay->Option (Bool×a7))(aj:Bool×Int×a7->Option (Bool×a7)):Bool×Int×a7->Option (Bool×a7):=
 fun (G,I,W)=>
 (if (decide (I<Z))=true then q9 (idx W.g.ae I) (fun T=>
 (if (!(T.Scope==a6))=true then d9 (q87 Z ak self G I aj T) rounds (I,W)
 else q5f ak G I W aj T))
 else some (G,W))
def q3t(self:a7->Int->Int->Int->ay->Option (Bool×a7))(W:a7)(G:Int)(T:Int)(I:Int)(Z:ay):Option (Bool×a7):=
 d9 (q2q T I Z self) rounds (false,G,W)
def q1g:Nat->a7->Int->Int->Int->ay->Option (Bool×a7)
 |0=>fun _ _ _ _ _=>none
 |n+1=>q3t (q1g n)
def qm1(W:a7)(G:Int)(T:Int)(I:Int)(Z:ay):Option (Bool×a7):=q1g rounds W G T I Z
theorem qy5(self:a7->Int->Int->Int->ay->Option (Bool×a7))(b6:∀(G:a7) (an:Int) (aj:Int) (T:Int) (ak:ay) (r:Bool×a7),self G an aj T ak=some r->ba pp 25 [.ptr 0 0,.v (.int .i64 an),.v (.int .i64 aj),.v (.int .i64 T),.agg (Row.row ak)] [(0,.box [.sl 1 (enc G.g.af),.sl 1 (enc G.g.aG),.sl 4 (enc G.g.ae),.sl 4 (enc G.g.aw),.mp 1,.mp 2,.mp 3,.v (.int .i64 G.work),.v (.int .i64 G.aB),.osl 4 4 (0) (G.outs.length),.v (.int .i64 G.e)]),(1,.con (p9 pp 103 0 (q00 G.ins.1) (enc G.ins.2) none) []),(2,.con (p9 pp 3 1 (q00 G.aK.1) (enc G.aK.2) none) []),(3,.con (p9 pp 103 2 (q00 G.aJ.1) (enc G.aJ.2) none) []),(4,.arr 4 (enc G.outs))] 5 (.v (.bool r.1)) [(0,.box [.sl 1 (enc r.2.g.af),.sl 1 (enc r.2.g.aG),.sl 4 (enc r.2.g.ae),.sl 4 (enc r.2.g.aw),.mp 1,.mp 2,.mp 3,.v (.int .i64 r.2.work),.v (.int .i64 r.2.aB),.osl 5 4 (0) (r.2.outs.length),.v (.int .i64 r.2.e)]),(1,.con (p9 pp 103 0 (q00 r.2.ins.1) (enc r.2.ins.2) none) []),(2,.con (p9 pp 3 1 (q00 r.2.aK.1) (enc r.2.aK.2) none) []),(3,.con (p9 pp 103 2 (q00 r.2.aJ.1) (enc r.2.aJ.2) none) []),(5,.arr 4 (enc r.2.outs))] 6)(G:a7)(an:Int)(aj:Int)(T:Int)(ak:ay)(r:Bool×a7)(h:q3t self G an aj T ak=some r):ba pp 25 [.ptr 0 0,.v (.int .i64 an),.v (.int .i64 aj),.v (.int .i64 T),.agg (Row.row ak)] [(0,.box [.sl 1 (enc G.g.af),.sl 1 (enc G.g.aG),.sl 4 (enc G.g.ae),.sl 4 (enc G.g.aw),.mp 1,.mp 2,.mp 3,.v (.int .i64 G.work),.v (.int .i64 G.aB),.osl 4 4 (0) (G.outs.length),.v (.int .i64 G.e)]),(1,.con (p9 pp 103 0 (q00 G.ins.1) (enc G.ins.2) none) []),(2,.con (p9 pp 3 1 (q00 G.aK.1) (enc G.aK.2) none) []),(3,.con (p9 pp 103 2 (q00 G.aJ.1) (enc G.aJ.2) none) []),(4,.arr 4 (enc G.outs))] 5 (.v (.bool r.1)) [(0,.box [.sl 1 (enc r.2.g.af),.sl 1 (enc r.2.g.aG),.sl 4 (enc r.2.g.ae),.sl 4 (enc r.2.g.aw),.mp 1,.mp 2,.mp 3,.v (.int .i64 r.2.work),.v (.int .i64 r.2.aB),.osl 5 4 (0) (r.2.outs.length),.v (.int .i64 r.2.e)]),(1,.con (p9 pp 103 0 (q00 r.2.ins.1) (enc r.2.ins.2) none) []),(2,.con (p9 pp 3 1 (q00 r.2.aK.1) (enc r.2.aK.2) none) []),(3,.con (p9 pp 103 2 (q00 r.2.aJ.1) (enc r.2.aJ.2) none) []),(5,.arr 4 (enc r.2.outs))] 6:=by
 refine dtI Tryz.func25 rfl ?_;rw[q3t]at h;have F:=trivial;refine sM ?_;refine sM ?_;refine jg fun _ Q3=>?_;refine sM ?_;refine z8 fun _ Q5=>?_;refine q0e h [0,2,3,9] (fun x=>([(11,.v (.bool x.1)),(12,.v (.int .i64 x.2.1))],[(0,.box [.sl 1 (enc x.2.2.g.af),.sl 1 (enc x.2.2.g.aG),.sl 4 (enc x.2.2.g.ae),.sl 4 (enc x.2.2.g.aw),.mp 1,.mp 2,.mp 3,.v (.int .i64 x.2.2.work),.v (.int .i64 x.2.2.aB),.osl 6 4 (0) (x.2.2.outs.length),.v (.int .i64 x.2.2.e)]),(1,.con (p9 pp 103 0 (q00 x.2.2.ins.1) (enc x.2.2.ins.2) none) []),(2,.con (p9 pp 3 1 (q00 x.2.2.aK.1) (enc x.2.2.aK.2) none) []),(3,.con (p9 pp 103 2 (q00 x.2.2.aJ.1) (enc x.2.2.aJ.2) none) []),(5,.box (Row.row ak)),(6,.arr 4 (enc x.2.2.outs))])) 7 ?_;rintro bi ⟨ao,b1,I⟩ h _ Q6;rw[q2q]at h;refine sg fun _ Q7=>?_;refine sM ?_;refine sB h (fun _ h=>?_) fun _ h=>?_
 .
  refine y7 (q8 Q7 (z8 fun _ Q9=>?_));refine sg fun _ c9=>?_;obtain⟨W,F,h⟩:=bI F h;simp only[go_sem,F];refine ai ?_;refine q8 c9 (q30 (fun (_:Unit)=>q5f ak ao b1 I (d9 (q2q aj T ak self) bi) W=some r) [0,2,3,9,11,12] (fun _=>([(13,.ptr 6 0)],[(0,.box [.sl 1 (enc I.g.af),.sl 1 (enc I.g.aG),.sl 4 (enc I.g.ae),.sl 4 (enc I.g.aw),.mp 1,.mp 2,.mp 3,.v (.int .i64 I.work),.v (.int .i64 I.aB),.osl 7 4 (0) (I.outs.length),.v (.int .i64 I.e)]),(1,.con (p9 pp 103 0 (q00 I.ins.1) (enc I.ins.2) none) []),(2,.con (p9 pp 3 1 (q00 I.aK.1) (enc I.aK.2) none) []),(3,.con (p9 pp 103 2 (q00 I.aJ.1) (enc I.aJ.2) none) []),(5,.box (Row.row ak)),(6,.box (Row.row W)),(7,.arr 4 (enc I.outs))])) 8 ?_ ?_)
  .
   intro _ d3;refine sM ?_;refine sB h (fun _ h=>?_) fun _ h=>?_
   .
    refine sM ?_;refine q30 (fun ((ar,b5):Int×a7)=>q2o ak self ao b1 (d9 (q2q aj T ak self) bi) W ar b5=some r) [0,2,3,9,11,12] (fun x=>([(13,.ptr 6 0),(14,.v (.int .i64 x.1))],[(0,.box [.sl 1 (enc x.2.g.af),.sl 1 (enc x.2.g.aG),.sl 4 (enc x.2.g.ae),.sl 4 (enc x.2.g.aw),.mp 1,.mp 2,.mp 3,.v (.int .i64 x.2.work),.v (.int .i64 x.2.aB),.osl 7 4 (0) (x.2.outs.length),.v (.int .i64 x.2.e)]),(1,.con (p9 pp 103 0 (q00 x.2.ins.1) (enc x.2.ins.2) none) []),(2,.con (p9 pp 3 1 (q00 x.2.aK.1) (enc x.2.aK.2) none) []),(3,.con (p9 pp 103 2 (q00 x.2.aJ.1) (enc x.2.aJ.2) none) []),(5,.box (Row.row ak)),(6,.box (Row.row W)),(7,.arr 4 (enc x.2.outs))])) 8 ?_ ?_
    .
     intro _ d4;refine z8 fun _ d5=>?_;refine q0e h [0,2,3,9,11,12] (fun x=>([(13,.ptr 6 0),(14,.v (.int .i64 x.1))],[(0,.box [.sl 1 (enc x.2.g.af),.sl 1 (enc x.2.g.aG),.sl 4 (enc x.2.g.ae),.sl 4 (enc x.2.g.aw),.mp 1,.mp 2,.mp 3,.v (.int .i64 x.2.work),.v (.int .i64 x.2.aB),.osl 7 4 (0) (x.2.outs.length),.v (.int .i64 x.2.e)]),(1,.con (p9 pp 103 0 (q00 x.2.ins.1) (enc x.2.ins.2) none) []),(2,.con (p9 pp 3 1 (q00 x.2.aK.1) (enc x.2.aK.2) none) []),(3,.con (p9 pp 103 2 (q00 x.2.aJ.1) (enc x.2.aJ.2) none) []),(5,.box (Row.row ak)),(6,.box (Row.row W)),(7,.arr 4 (enc x.2.outs))])) 8 ?_;rintro d6 ⟨b3,c2⟩ h _ d7;rw[q87]at h;refine sg fun _ d8=>?_;refine sg fun _ dc=>?_;refine q07 ?_;refine k1d ?_;simp only[go_sem];rcases aq:(decide (b3<aj))with _|_
     . replace h:=q1l h aq;simp only[go_sem,aq];exact au
     replace h:=q1k h aq;obtain⟨bs,F,h⟩:=bI F h;obtain⟨c3,bv,h⟩:=w9 h;simp only[go_sem,aq,F];refine ai ?_;refine q18 [0,1,2,3,7] (z06 c2 bs.Scope W.Scope c3 bv) ?_;simp only[go_sem];exact au
    rintro⟨ar,b5⟩ h
    try dsimp only at h
    rw[q2o]at h;refine sg fun _ dd=>?_;simp only[go_sem];refine q51 Tryz.func54 rfl (by kernel_rfl) (by kernel_rfl) ?_;refine sM ?_;refine sg fun _ cb=>?_;simp only[go_sem];refine q4n h fun d2 h=>?_;simp only[go_sem];refine q8 cb (sg fun _ cc=>?_);obtain⟨cd,F,h⟩:=bI F h;simp only[go_sem,F];refine ai ?_;refine q8 cc (z8 fun _ c4=>?_);refine q0e h [0,1,2,3,24] (fun x=>([(10,.ptr 8 0),(25,.v (.int .i64 x.1))],[(0,.box [.sl 1 (enc x.2.1.g.af),.sl 1 (enc x.2.1.g.aG),.sl 4 (enc x.2.1.g.ae),.sl 4 (enc x.2.1.g.aw),.mp 1,.mp 2,.mp 3,.v (.int .i64 x.2.1.work),.v (.int .i64 x.2.1.aB),.osl 9 4 (0) (x.2.1.outs.length),.v (.int .i64 x.2.1.e)]),(1,.con (p9 pp 103 0 (q00 x.2.1.ins.1) (enc x.2.1.ins.2) none) []),(2,.con (p9 pp 3 1 (q00 x.2.1.aK.1) (enc x.2.1.aK.2) none) []),(3,.con (p9 pp 103 2 (q00 x.2.1.aJ.1) (enc x.2.1.aJ.2) none) []),(5,.box (Row.row ak)),(6,.box (Row.row W)),(8,.box (Row.row x.2.2)),(9,.arr 4 (enc x.2.1.outs))])) 10 ?_;rintro dk ⟨c8,Z,b4⟩ h _ c5;rw[q88]at h;refine sM ?_;refine sg fun _ c6=>?_;refine sB h (fun _ h=>?_) fun _ h=>?_
    .
     refine y7 (q8 c6 (sg fun _ cl=>?_));refine z8 fun _ cp=>?_;refine sg fun _ d0=>?_;refine sg fun _ d1=>?_;obtain⟨a6,c0,h⟩:=w9 h;simp only[go_sem];refine q18 [0,1,2,3,9] (b6 Z b1 ar W.Scope b4 a6 c0) ?_;simp only[go_sem];refine q8 d1 (sB h (fun _ h=>?_) fun _ h=>?_)
     .
      refine q03 (q0y d0 (q0r cp (q0y cl (q31 c5 (q0r c4 ?_)))));simp only[go_sem];refine q0s [some 8,some 10] [(0,.box [.sl 1 (enc a6.2.g.af),.sl 1 (enc a6.2.g.aG),.sl 4 (enc a6.2.g.ae),.sl 4 (enc a6.2.g.aw),.mp 1,.mp 2,.mp 3,.v (.int .i64 a6.2.work),.v (.int .i64 a6.2.aB),.osl 9 4 (0) (a6.2.outs.length),.v (.int .i64 a6.2.e)]),(1,.con (p9 pp 103 0 (q00 a6.2.ins.1) (enc a6.2.ins.2) none) []),(2,.con (p9 pp 3 1 (q00 a6.2.aK.1) (enc a6.2.aK.2) none) []),(3,.con (p9 pp 103 2 (q00 a6.2.aJ.1) (enc a6.2.aJ.2) none) []),(5,.box (Row.row ak)),(6,.box (Row.row W)),(8,.box (Row.row b4)),(9,.arr 4 (enc a6.2.outs))] 10 (.tup []) ?_ ?_
      . exact leA
      refine q13 ?_;simp only[go_sem];exact au
     exact au
    refine q0n (q1f c6 (q0o c5 (q0h c4 ?_)));simp only[go_sem];refine q0s [some 8,some 9] [(0,.box [.sl 1 (enc Z.g.af),.sl 1 (enc Z.g.aG),.sl 4 (enc Z.g.ae),.sl 4 (enc Z.g.aw),.mp 1,.mp 2,.mp 3,.v (.int .i64 Z.work),.v (.int .i64 Z.aB),.osl 9 4 (0) (Z.outs.length),.v (.int .i64 Z.e)]),(1,.con (p9 pp 103 0 (q00 Z.ins.1) (enc Z.ins.2) none) []),(2,.con (p9 pp 3 1 (q00 Z.aK.1) (enc Z.aK.2) none) []),(3,.con (p9 pp 103 2 (q00 Z.aJ.1) (enc Z.aJ.2) none) []),(5,.box (Row.row ak)),(6,.box (Row.row W)),(8,.box (Row.row b4)),(9,.arr 4 (enc Z.outs))] 10 (.tup []) ?_ ?_
    . exact leA
    refine q13 ?_;simp only[go_sem];exact au
   exact au
  rintro⟨⟩ h
  try dsimp only at h
  rw[q5f]at h;refine sM ?_;refine q30 (fun (b2:ay)=>q2p ao b1 I (d9 (q2q aj T ak self) bi) W b2=some r) [0,2,3,9,11,12,13] (fun b2=>([(15,.ptr 7 0)],[(0,.box [.sl 1 (enc I.g.af),.sl 1 (enc I.g.aG),.sl 4 (enc I.g.ae),.sl 4 (enc I.g.aw),.mp 1,.mp 2,.mp 3,.v (.int .i64 I.work),.v (.int .i64 I.aB),.osl 8 4 (0) (I.outs.length),.v (.int .i64 I.e)]),(1,.con (p9 pp 103 0 (q00 I.ins.1) (enc I.ins.2) none) []),(2,.con (p9 pp 3 1 (q00 I.aK.1) (enc I.aK.2) none) []),(3,.con (p9 pp 103 2 (q00 I.aJ.1) (enc I.aJ.2) none) []),(5,.box (Row.row ak)),(6,.box (Row.row W)),(7,.box (Row.row b2)),(8,.arr 4 (enc I.outs))])) 9 ?_ ?_
  . intro _ ds;exact au
  rintro b2 h
  try dsimp only at h
  rw[q2p]at h;refine sg fun _ dI=>?_;obtain⟨c7,c1,h⟩:=w9 h;simp only[go_sem];refine q18 [0,1,2,3,8] (z15 I b1 b2 c7 c1) ?_;simp only[go_sem];exact au
 exact au
theorem qd6:∀(n:Nat) (G:a7) (I:Int) (W:Int) (T:Int) (Z:ay) (r:Bool×a7),q1g n G I W T Z=some r->ba pp 25 [.ptr 0 0,.v (.int .i64 I),.v (.int .i64 W),.v (.int .i64 T),.agg (Row.row Z)] [(0,.box [.sl 1 (enc G.g.af),.sl 1 (enc G.g.aG),.sl 4 (enc G.g.ae),.sl 4 (enc G.g.aw),.mp 1,.mp 2,.mp 3,.v (.int .i64 G.work),.v (.int .i64 G.aB),.osl 4 4 (0) (G.outs.length),.v (.int .i64 G.e)]),(1,.con (p9 pp 103 0 (q00 G.ins.1) (enc G.ins.2) none) []),(2,.con (p9 pp 3 1 (q00 G.aK.1) (enc G.aK.2) none) []),(3,.con (p9 pp 103 2 (q00 G.aJ.1) (enc G.aJ.2) none) []),(4,.arr 4 (enc G.outs))] 5 (.v (.bool r.1)) [(0,.box [.sl 1 (enc r.2.g.af),.sl 1 (enc r.2.g.aG),.sl 4 (enc r.2.g.ae),.sl 4 (enc r.2.g.aw),.mp 1,.mp 2,.mp 3,.v (.int .i64 r.2.work),.v (.int .i64 r.2.aB),.osl 5 4 (0) (r.2.outs.length),.v (.int .i64 r.2.e)]),(1,.con (p9 pp 103 0 (q00 r.2.ins.1) (enc r.2.ins.2) none) []),(2,.con (p9 pp 3 1 (q00 r.2.aK.1) (enc r.2.aK.2) none) []),(3,.con (p9 pp 103 2 (q00 r.2.aJ.1) (enc r.2.aJ.2) none) []),(5,.arr 4 (enc r.2.outs))] 6
 |0,G,I,W,T,Z,r,h=>by simp[q1g]at h
 |n+1,G,I,W,T,Z,r,h=>qy5 (q1g n) (qd6 n) G I W T Z r h
theorem z0o(G:a7)(I:Int)(W:Int)(T:Int)(Z:ay)(r:Bool×a7)(h:qm1 G I W T Z=some r):ba pp 25 [.ptr 0 0,.v (.int .i64 I),.v (.int .i64 W),.v (.int .i64 T),.agg (Row.row Z)] [(0,.box [.sl 1 (enc G.g.af),.sl 1 (enc G.g.aG),.sl 4 (enc G.g.ae),.sl 4 (enc G.g.aw),.mp 1,.mp 2,.mp 3,.v (.int .i64 G.work),.v (.int .i64 G.aB),.osl 4 4 (0) (G.outs.length),.v (.int .i64 G.e)]),(1,.con (p9 pp 103 0 (q00 G.ins.1) (enc G.ins.2) none) []),(2,.con (p9 pp 3 1 (q00 G.aK.1) (enc G.aK.2) none) []),(3,.con (p9 pp 103 2 (q00 G.aJ.1) (enc G.aJ.2) none) []),(4,.arr 4 (enc G.outs))] 5 (.v (.bool r.1)) [(0,.box [.sl 1 (enc r.2.g.af),.sl 1 (enc r.2.g.aG),.sl 4 (enc r.2.g.ae),.sl 4 (enc r.2.g.aw),.mp 1,.mp 2,.mp 3,.v (.int .i64 r.2.work),.v (.int .i64 r.2.aB),.osl 5 4 (0) (r.2.outs.length),.v (.int .i64 r.2.e)]),(1,.con (p9 pp 103 0 (q00 r.2.ins.1) (enc r.2.ins.2) none) []),(2,.con (p9 pp 3 1 (q00 r.2.aK.1) (enc r.2.aK.2) none) []),(3,.con (p9 pp 103 2 (q00 r.2.aJ.1) (enc r.2.aJ.2) none) []),(5,.arr 4 (enc r.2.outs))] 6:=qd6 rounds G I W T Z r h
def q5l(W:Int)(Z:Int)(aj:Int)(a6:Int×(List aD)->Option (List aD)):Int×(List aD)->Option (List aD):=
 fun (G,I)=>
 (if (decide (G<aj))=true then q9 (idx I (i64.wrap (Z+G))) (fun T=>
 q9 (idx I (i64.wrap (W+G))) (fun ak=>
 q9 (idx (Xb I (Xc (i64.wrap (W+G))) T) (i64.wrap (Z+G))) (fun an=>
 a6 (i64.wrap (G+1),(Xb (Xb I (Xc (i64.wrap (W+G))) T) (Xc (i64.wrap (Z+G))) ak)))))
 else some I)
def q1c(G:List aD)(T:Int)(W:Int)(I:Int)(Z:aD->aD->Option Int):Option (List aD):=
 d9 (q5l T W I) rounds (0,G)
theorem q53(W:List aD)(a6:Int)(an:Int)(aq:Int)(ak:aD->aD->Option Int)(G:FuncId)(I:List AV)(ar:q0j I=true)(b1:q02 pp G=true)(b2:∀(x0:aD) (x1:aD) (r:Int),ak x0 x1=some r->aZ pp G ([.agg (Row.row x0),.agg (Row.row x1)]++I) 0 (.v (.int .i64 r)))(r:List aD)(h:q1c W a6 an aq ak=some r):ba pp 142 [.osl 0 4 (0) (W.length),.v (.int .i64 a6),.v (.int .i64 an),.v (.int .i64 aq),.clo G I] [(0,.arr 4 (enc W))] 1 (.tup []) [(0,.arr 4 (enc r))] 1:=by
 refine dtI Tryz.func142 rfl ?_;rw[q1c]at h;have F:=trivial;refine sM ?_;refine z8 fun _ Q2=>?_;refine q0e h [1,2,3] (fun x=>([(0,.osl 0 4 (0) (x.2.length)),(10,.v (.int .i64 x.1))],[(0,.arr 4 (enc x.2))])) 1 ?_;rintro b6 ⟨aj,ao⟩ h _ Q3;rw[q5l]at h;refine sg fun _ Q4=>?_;refine sM ?_;refine sB h (fun _ h=>?_) fun _ h=>?_
 .
  refine y7 (q8 Q4 (sg fun _ Q6=>?_));refine z8 fun _ Q7=>?_;refine q07 ?_;refine q2g 22 0 0 [0,0,0,6,0,0,0,96,0,0,0,1536,3840,7936,0,0,0,98304,245760,507904,1048335,2096911,4194303,8388607] [0] [4,5,6,7] [] [21] [] mixed (by kernel_rfl) (of_decide_eq_true (by kernel_rfl)) (by kernel_rfl) (by kernel_rfl) (by rfl) ?_;obtain⟨T,F,h⟩:=bI F h;obtain⟨Z,F,h⟩:=bI F h;have b3:(enc ao).set (Xc (i64.wrap (a6+aj))) [.v (.int .i64 T.Node),.v (.int .i64 T.aQ),.v (.int .i64 T.Rec.K),.v (.int .i64 T.Rec.V)]=enc (Xb ao (Xc (i64.wrap (a6+aj))) T):=by exact q4y _ _ _
  obtain⟨b5,F,h⟩:=bI F h;have b4:(enc (Xb ao (Xc (i64.wrap (a6+aj))) T)).set (Xc (i64.wrap (an+aj))) [.v (.int .i64 Z.Node),.v (.int .i64 Z.aQ),.v (.int .i64 Z.Rec.K),.v (.int .i64 Z.Rec.V)]=enc (Xb (Xb ao (Xc (i64.wrap (a6+aj))) T) (Xc (i64.wrap (an+aj))) Z):=by exact q4y _ _ _
  simp only[go_sem,b3,b4,F];refine ai ?_;refine ai ?_;refine ai ?_;refine ai ?_;refine q08 Q7 (q8 Q6 ?_);simp only[go_sem];refine p8 Q3 ?_;exact nxC _ h [] leA
 refine q0n (q1f Q4 (q0o Q3 (q0h Q2 ?_)));simp only[go_sem];obtain rfl:=Xa h;refine q2b [] ?_;exact leA
def q41(G:Int)(I:aD->aD->Option Int)(T:Int)(W:List aD):Option (List aD):=
 q9 (q1c W (i64.wrap (G-T)) G T I) (fun Z=>
 u7 (Z.length=W.length) (
 some Z))
def q6r(I:Int)(T:aD->aD->Option Int)(Z:Int×Int×(List aD)->Option (List aD)):Int×Int×(List aD)->Option (List aD):=
 fun (G,W,a6)=>
 (if (!(G==W))=true then (if (decide (W<G))=true then q9 (q1c a6 (i64.wrap (I-G)) I W T) (fun aj=>
 u7 (aj.length=a6.length) (
 Z (i64.wrap (G-W),W,aj)))
 else q9 (q1c a6 (i64.wrap (I-G)) (i64.wrap ((i64.wrap (I+W))-G)) G T) (fun ak=>
 u7 (ak.length=a6.length) (
 Z (G,i64.wrap (W-G),ak))))
 else q41 I T G a6)
def q3d(I:List aD)(W:Int)(G:Int)(Z:Int)(T:aD->aD->Option Int):Option (List aD):=
 d9 (q6r G T) rounds (i64.wrap (G-W),i64.wrap (Z-G),I)
theorem qw5(ak:List aD)(b3:Int)(W:Int)(b4:Int)(Z:aD->aD->Option Int)(I:FuncId)(T:List AV)(G:q0j T=true)(a6:q02 pp I=true)(aj:∀(x0:aD) (x1:aD) (r:Int),Z x0 x1=some r->aZ pp I ([.agg (Row.row x0),.agg (Row.row x1)]++T) 0 (.v (.int .i64 r)))(r:List aD)(h:q3d ak b3 W b4 Z=some r):ba pp 122 [.osl 0 4 (0) (ak.length),.v (.int .i64 b3),.v (.int .i64 W),.v (.int .i64 b4),.clo I T] [(0,.arr 4 (enc ak))] 1 (.tup []) [(0,.arr 4 (enc r))] 1:=by
 refine dtI Tryz.func122 rfl ?_;rw[q3d]at h;have F:=trivial;refine sM ?_;refine sM ?_;refine q30 (fun ((ao,aq):Int×(List aD))=>q41 W Z ao aq=some r) [2,4] (fun x=>([(0,.osl 0 4 (0) (x.2.length)),(10,.v (.int .i64 x.1))],[(0,.arr 4 (enc x.2))])) 1 ?_ ?_
 .
  intro _ Q3;refine z8 fun _ Q4=>?_;refine q0e h [2,4] (fun x=>([(0,.osl 0 4 (0) (x.2.2.length)),(10,.v (.int .i64 x.1)),(11,.v (.int .i64 x.2.1))],[(0,.arr 4 (enc x.2.2))])) 1 ?_;rintro c2 ⟨an,b5,ar⟩ h _ Q5;rw[q6r]at h;refine sg fun _ Q6=>?_;refine sM ?_;refine sB h (fun _ h=>?_) fun _ h=>?_
  .
   refine y7 (q8 Q6 (z8 fun _ Q8=>?_));refine sM ?_;refine sB h (fun _ h=>?_) fun _ h=>?_
   . refine sg fun _ bv=>?_;obtain⟨b6,b1,h⟩:=w9 h;simp only[go_sem];refine q7h [0] (q53 ar (i64.wrap (W-an)) W b5 Z I T G a6 aj b6 b1) (by simp) (by simp only[q6n,q2j,q5x G]<;>rfl) ⟨rfl,trivial⟩ (by simp only[ltL,ltA,q7k G]<;>rfl) rfl rfl rfl ?_;obtain⟨F,h⟩:=bG F h;simp only[go_sem,F];refine q8 bv ?_;simp only[go_sem];refine q08 Q8 (p8 Q5 ?_);exact nxC _ h [] leA
   refine sg fun _ c0=>?_;obtain⟨bi,b2,h⟩:=w9 h;simp only[go_sem];refine q7h [0] (q53 ar (i64.wrap (W-an)) (i64.wrap ((i64.wrap (W+b5))-an)) an Z I T G a6 aj bi b2) (by simp) (by simp only[q6n,q2j,q5x G]<;>rfl) ⟨rfl,trivial⟩ (by simp only[ltL,ltA,q7k G]<;>rfl) rfl rfl rfl ?_;obtain⟨F,h⟩:=bG F h;simp only[go_sem,F];refine q8 c0 ?_;simp only[go_sem];refine q08 Q8 (p8 Q5 ?_);exact nxC _ h [] leA
  refine q0n (q1f Q6 (q0o Q5 (q0h Q4 (p8 Q3 (⟨(an,ar),[],?_,h⟩)))));exact leA
 rintro⟨ao,aq⟩ h
 try dsimp only at h
 rw[q41]at h;obtain⟨c1,bs,h⟩:=w9 h;simp only[go_sem];refine q7h [0] (q53 aq (i64.wrap (W-ao)) W ao Z I T G a6 aj c1 bs) (by simp) (by simp only[q6n,q2j,q5x G]<;>rfl) ⟨rfl,trivial⟩ (by simp only[ltL,ltA,q7k G]<;>rfl) rfl rfl rfl ?_;obtain⟨F,h⟩:=bG F h;simp only[go_sem,F];obtain rfl:=Xa h;refine q2b [] ?_;exact leA
def q4a(an:Int)(a6:aD->aD->Option Int)(ak:Int)(W:(Int×(List aD)->Option (List aD)))(aj:Int×(List aD)->Option (List aD)):Int×(List aD)->Option (List aD):=
 fun (G,T)=>
 (if (decide (an<G))=true then q9 (idx T G) (fun Z=>
 q9 (idx T (i64.wrap (G-1))) (fun I=>
 q9 (a6 Z I) (fun ao=>
 (if (decide (ao<0))=true then q9 (idx (Xb T (G.toNat) I) (i64.wrap (G-1))) (fun aq=>
 aj (i64.wrap (G-1),(Xb (Xb T (G.toNat) I) (Xc (i64.wrap (G-1))) Z)))
 else W (i64.wrap (ak+1),T)))))
 else W (i64.wrap (ak+1),T))
def q2u(Z:Int)(a6:Int)(G:aD->aD->Option Int)(I:Int×(List aD)->Option (List aD)):Int×(List aD)->Option (List aD):=
 fun (T,W)=>
 (if (decide (T<a6))=true then d9 (q4a Z G T I) rounds (T,W)
 else some W)
def q11(G:List aD)(T:Int)(W:Int)(I:aD->aD->Option Int):Option (List aD):=
 d9 (q2u T W I) rounds (i64.wrap (T+1),G)
theorem q7q(Z:List aD)(b1:Int)(b6:Int)(ak:aD->aD->Option Int)(T:FuncId)(W:List AV)(an:q0j W=true)(ao:q02 pp T=true)(aq:∀(x0:aD) (x1:aD) (r:Int),ak x0 x1=some r->aZ pp T ([.agg (Row.row x0),.agg (Row.row x1)]++W) 0 (.v (.int .i64 r)))(r:List aD)(h:q11 Z b1 b6 ak=some r):ba pp 95 [.osl 0 4 (0) (Z.length),.v (.int .i64 b1),.v (.int .i64 b6),.clo T W] [(0,.arr 4 (enc Z))] 1 (.tup []) [(0,.arr 4 (enc r))] 1:=by
 refine dtI Tryz.func95 rfl ?_;rw[q11]at h;have F:=trivial;refine sM ?_;refine z8 fun _ Q2=>?_;refine q0e h [1,2,3] (fun x=>([(0,.osl 0 4 (0) (x.2.length)),(8,.v (.int .i64 x.1))],[(0,.arr 4 (enc x.2))])) 1 ?_;rintro c3 ⟨c4,c5⟩ h _ Q3;rw[q2u]at h;refine sg fun _ Q4=>?_;refine sM ?_;refine sB h (fun _ h=>?_) fun _ h=>?_
 .
  refine y7 (q8 Q4 (jg fun _ Q6=>?_));refine z8 fun _ Q7=>?_;refine sM ?_;refine z8 fun _ Q9=>?_;refine q0e h [1,2,3,8] (fun x=>([(0,.osl 0 4 (0) (x.2.length)),(9,.v (.int .i64 x.1))],[(0,.arr 4 (enc x.2))])) 1 ?_;rintro c6 ⟨aj,ar⟩ h _ b2;rw[q4a]at h;refine sg fun _ b3=>?_;refine sg fun _ bi=>?_;refine q07 ?_;refine k1d ?_;simp only[go_sem];rcases a6:(decide (b1<aj))with _|_
  . replace h:=q1l h a6;simp only[go_sem,a6];refine q8 bi (k3c ?_);refine q0n (q1f b3 (q0o b2 (q0h Q9 (q08 Q7 (q8 Q6 ?_)))));simp only[go_sem];refine p8 Q3 ?_;exact nxC _ h [] leA
  replace h:=q1k h a6;obtain⟨I,F,h⟩:=bI F h;obtain⟨G,F,h⟩:=bI F h;obtain⟨bv,bs,h⟩:=w9 h;simp only[go_sem,a6,ao,F];refine ai ?_;refine ai ?_;refine qk7 (aq I G bv bs) (by rfl) (by simp[go_sem,q0j,q0q,an]) ?_;simp only[go_sem];refine q8 bi (sB h (fun _ h=>?_) fun _ h=>?_)
  .
   refine y7 (q8 b3 (sg fun _ c0=>?_));refine z8 fun _ c1=>?_;refine q07 ?_;refine q2g 16 0 0 [0,0,0,0,8,0,0,64,224,480,0,0,3072,7168,16355,32739,65535,131071] [0] [2,3,4] [] [15] [] mixed (by kernel_rfl) (of_decide_eq_true (by kernel_rfl)) (by kernel_rfl) (by kernel_rfl) (by rfl) ?_;have b4:(enc ar).set (aj.toNat) [.v (.int .i64 G.Node),.v (.int .i64 G.aQ),.v (.int .i64 G.Rec.K),.v (.int .i64 G.Rec.V)]=enc (Xb ar (aj.toNat) G):=by exact q4y _ _ _
   obtain⟨c2,F,h⟩:=bI F h;have b5:(enc (Xb ar (aj.toNat) G)).set (Xc (i64.wrap (aj-1))) [.v (.int .i64 I.Node),.v (.int .i64 I.aQ),.v (.int .i64 I.Rec.K),.v (.int .i64 I.Rec.V)]=enc (Xb (Xb ar (aj.toNat) G) (Xc (i64.wrap (aj-1))) I):=by exact q4y _ _ _
   simp only[go_sem,b4,b5,F];refine ai ?_;refine ai ?_;refine ai ?_;refine ai ?_;refine q08 c1 (q8 c0 ?_);simp only[go_sem];refine p8 b2 ?_;exact nxC _ h [] leA
  refine q0n (q1f b3 (q0o b2 (q0h Q9 (q08 Q7 (q8 Q6 ?_)))));simp only[go_sem];refine p8 Q3 ?_;exact nxC _ h [] leA
 refine q0n (q1f Q4 (q0o Q3 (q0h Q2 ?_)));simp only[go_sem];obtain rfl:=Xa h;refine q2b [] ?_;exact leA
def q1m(T:Int)(W:Int)(I:Int)(a6:aD->aD->Option Int)(self:(List aD)->Int->Int->Int->(aD->aD->Option Int)->Option (List aD))(G:Int)(aj:List aD):Option (List aD):=
 (if ((decide ((i64.wrap (q2e .u64 (IntKind.u64.wrap (i64.wrap (T+I))) 1))<(i64.wrap ((i64.wrap ((i64.wrap (q2e .u64 (IntKind.u64.wrap (i64.wrap (T+I))) 1))+W))-G))))&&(decide ((i64.wrap ((i64.wrap ((i64.wrap (q2e .u64 (IntKind.u64.wrap (i64.wrap (T+I))) 1))+W))-G))<I)))=true then q9 (self aj (i64.wrap (q2e .u64 (IntKind.u64.wrap (i64.wrap (T+I))) 1)) (i64.wrap ((i64.wrap ((i64.wrap (q2e .u64 (IntKind.u64.wrap (i64.wrap (T+I))) 1))+W))-G)) I a6) (fun Z=>
 u7 (Z.length=aj.length) (
 some Z))
 else some aj)
def q1n(T:Int)(Z:Int)(W:Int)(I:aD->aD->Option Int)(self:(List aD)->Int->Int->Int->(aD->aD->Option Int)->Option (List aD))(G:Int)(aj:List aD):Option (List aD):=
 (if ((decide (T<G))&&(decide (G<(i64.wrap (q2e .u64 (IntKind.u64.wrap (i64.wrap (T+W))) 1)))))=true then q9 (self aj T G (i64.wrap (q2e .u64 (IntKind.u64.wrap (i64.wrap (T+W))) 1)) I) (fun a6=>
 u7 (a6.length=aj.length) (
 q1m T Z W I self G a6))
 else q1m T Z W I self G aj)
def q2f(T:List aD)(Z:Int)(I:Int)(a6:Int)(W:aD->aD->Option Int)(self:(List aD)->Int->Int->Int->(aD->aD->Option Int)->Option (List aD))(G:Int):Option (List aD):=
 (if ((decide (G<I))&&(decide (I<(i64.wrap ((i64.wrap ((i64.wrap (q2e .u64 (IntKind.u64.wrap (i64.wrap (Z+a6))) 1))+I))-G)))))=true then q9 (q3d T G I (i64.wrap ((i64.wrap ((i64.wrap (q2e .u64 (IntKind.u64.wrap (i64.wrap (Z+a6))) 1))+I))-G)) W) (fun aj=>
 u7 (aj.length=T.length) (
 q1n Z I a6 W self G aj))
 else q1n Z I a6 W self G T)
def q61(T:List aD)(an:Int)(a6:Int)(ao:Int)(W:aD->aD->Option Int)(self:(List aD)->Int->Int->Int->(aD->aD->Option Int)->Option (List aD))(Z:Int×Int->Option (List aD)):Int×Int->Option (List aD):=
 fun (G,I)=>
 (if (decide (G<I))=true then q9 (idx T (i64.wrap ((i64.wrap ((i64.wrap ((i64.wrap (q2e .u64 (IntKind.u64.wrap (i64.wrap (an+ao))) 1))+a6))-1))-(i64.wrap (q2e .u64 (IntKind.u64.wrap (i64.wrap (G+I))) 1))))) (fun aj=>
 q9 (idx T (i64.wrap (q2e .u64 (IntKind.u64.wrap (i64.wrap (G+I))) 1))) (fun ak=>
 q9 (W aj ak) (fun aq=>
 (if (!(decide (aq<0)))=true then Z (i64.wrap ((i64.wrap (q2e .u64 (IntKind.u64.wrap (i64.wrap (G+I))) 1))+1),I)
 else Z (G,i64.wrap (q2e .u64 (IntKind.u64.wrap (i64.wrap (G+I))) 1))))))
 else q2f T an a6 ao W self G)
def q1o(I:List aD)(a6:Int)(W:Int)(aj:Int)(T:aD->aD->Option Int)(self:(List aD)->Int->Int->Int->(aD->aD->Option Int)->Option (List aD))(G:Int)(Z:Int):Option (List aD):=
 d9 (q61 I a6 W aj T self) rounds (G,Z)
def q3n(I:List aD)(T:Int)(G:Int)(W:Int)(Z:aD->aD->Option Int)(self:(List aD)->Int->Int->Int->(aD->aD->Option Int)->Option (List aD)):Option (List aD):=
 (if (decide ((i64.wrap (q2e .u64 (IntKind.u64.wrap (i64.wrap (T+W))) 1))<G))=true then q1o I T G W Z self (i64.wrap ((i64.wrap ((i64.wrap (q2e .u64 (IntKind.u64.wrap (i64.wrap (T+W))) 1))+G))-W)) (i64.wrap (q2e .u64 (IntKind.u64.wrap (i64.wrap (T+W))) 1))
 else q1o I T G W Z self T G)
def q60(a6:Int)(W:Int×(List aD)->Option (List aD)):Int×(List aD)->Option (List aD):=
 fun (G,I)=>
 (if (decide (a6<G))=true then q9 (idx I (i64.wrap (G-1))) (fun T=>
 q9 (idx I G) (fun Z=>
 q9 (idx (Xb I (G.toNat) T) (i64.wrap (G-1))) (fun aj=>
 W (i64.wrap (G-1),(Xb (Xb I (G.toNat) T) (Xc (i64.wrap (G-1))) Z)))))
 else some I)
def q3m(G:List aD)(I:Int)(T:Int):Option (List aD):=
 d9 (q60 T) rounds (I,G)
def q5k(I:List aD)(Z:Int)(a6:aD->aD->Option Int)(W:Int×Int->Option (List aD)):Int×Int->Option (List aD):=
 fun (G,T)=>
 (if (decide (G<T))=true then q9 (idx I Z) (fun aj=>
 q9 (idx I (i64.wrap (q2e .u64 (IntKind.u64.wrap (i64.wrap (G+T))) 1))) (fun ak=>
 q9 (a6 aj ak) (fun an=>
 (if (!(decide (an<0)))=true then W (i64.wrap ((i64.wrap (q2e .u64 (IntKind.u64.wrap (i64.wrap (G+T))) 1))+1),T)
 else W (G,i64.wrap (q2e .u64 (IntKind.u64.wrap (i64.wrap (G+T))) 1))))))
 else q3m I Z G)
def q3o(G:List aD)(W:Int)(I:Int)(Z:Int)(T:aD->aD->Option Int)(self:(List aD)->Int->Int->Int->(aD->aD->Option Int)->Option (List aD)):Option (List aD):=
 (if ((i64.wrap (Z-I))==1)=true then d9 (q5k G I T) rounds (W,I)
 else q3n G W I Z T self)
def q5j(a6:Int)(W:Int×(List aD)->Option (List aD)):Int×(List aD)->Option (List aD):=
 fun (G,I)=>
 (if (decide (G<(i64.wrap (a6-1))))=true then q9 (idx I (i64.wrap (G+1))) (fun T=>
 q9 (idx I G) (fun Z=>
 q9 (idx (Xb I (G.toNat) T) (i64.wrap (G+1))) (fun aj=>
 W (i64.wrap (G+1),(Xb (Xb I (G.toNat) T) (Xc (i64.wrap (G+1))) Z)))))
 else some I)
def q3f(G:List aD)(T:Int)(I:Int):Option (List aD):=
 d9 (q5j I) rounds (T,G)
def q5i(I:List aD)(ak:Int)(Z:aD->aD->Option Int)(W:Int×Int->Option (List aD)):Int×Int->Option (List aD):=
 fun (G,T)=>
 (if (decide (G<T))=true then q9 (idx I (i64.wrap (q2e .u64 (IntKind.u64.wrap (i64.wrap (G+T))) 1))) (fun a6=>
 q9 (idx I ak) (fun aj=>
 q9 (Z a6 aj) (fun an=>
 (if (decide (an<0))=true then W (i64.wrap ((i64.wrap (q2e .u64 (IntKind.u64.wrap (i64.wrap (G+T))) 1))+1),T)
 else W (G,i64.wrap (q2e .u64 (IntKind.u64.wrap (i64.wrap (G+T))) 1))))))
 else q3f I ak G)
def q2m(self:(List aD)->Int->Int->Int->(aD->aD->Option Int)->Option (List aD))(G:List aD)(W:Int)(I:Int)(Z:Int)(T:aD->aD->Option Int):Option (List aD):=
 (if ((i64.wrap (I-W))==1)=true then d9 (q5i G W T) rounds (I,Z)
 else q3o G W I Z T self)
def q0f:Nat->(List aD)->Int->Int->Int->(aD->aD->Option Int)->Option (List aD)
 |0=>fun _ _ _ _ _=>none
 |n+1=>q2m (q0f n)
def q48(G:List aD)(W:Int)(T:Int)(Z:Int)(I:aD->aD->Option Int):Option (List aD):=q0f rounds G W T Z I
theorem qp3(self:(List aD)->Int->Int->Int->(aD->aD->Option Int)->Option (List aD))(c2:∀(G:List aD) (ao:Int) (aj:Int) (aq:Int) (a6:aD->aD->Option Int) (T:FuncId) (W:List AV) (I:q0j W=true) (ak:q02 pp T=true) (an:∀(x0:aD) (x1:aD) (r:Int),a6 x0 x1=some r->aZ pp T ([.agg (Row.row x0),.agg (Row.row x1)]++W) 0 (.v (.int .i64 r))) (r:List aD),self G ao aj aq a6=some r->ba pp 96 [.osl 0 4 (0) (G.length),.v (.int .i64 ao),.v (.int .i64 aj),.v (.int .i64 aq),.clo T W] [(0,.arr 4 (enc G))] 1 (.tup []) [(0,.arr 4 (enc r))] 1)(G:List aD)(ao:Int)(aj:Int)(aq:Int)(a6:aD->aD->Option Int)(T:FuncId)(W:List AV)(I:q0j W=true)(ak:q02 pp T=true)(an:∀(x0:aD) (x1:aD) (r:Int),a6 x0 x1=some r->aZ pp T ([.agg (Row.row x0),.agg (Row.row x1)]++W) 0 (.v (.int .i64 r)))(r:List aD)(h:q2m self G ao aj aq a6=some r):ba pp 96 [.osl 0 4 (0) (G.length),.v (.int .i64 ao),.v (.int .i64 aj),.v (.int .i64 aq),.clo T W] [(0,.arr 4 (enc G))] 1 (.tup []) [(0,.arr 4 (enc r))] 1:=by
 refine dtI Tryz.func96 rfl ?_;rw[q2m]at h;have F:=trivial;refine q30 (fun (_:Unit)=>q3o G ao aj aq a6 self=some r) [0,1,2,3,4] (fun _=>([],[(0,.arr 4 (enc G))])) 1 ?_ ?_
 .
  intro _ ds;refine sM ?_;refine sB h (fun _ h=>?_) fun _ h=>?_
  .
   refine sM ?_;refine sM ?_;refine q30 (fun (b6:Int)=>q3f G ao b6=some r) [0,1] (fun b6=>([(10,.v (.int .i64 b6))],[(0,.arr 4 (enc G))])) 1 ?_ ?_
   .
    intro _ e0;refine z8 fun _ e1=>?_;refine q0e h [0,1,4] (fun x=>([(10,.v (.int .i64 x.1)),(11,.v (.int .i64 x.2))],[(0,.arr 4 (enc G))])) 1 ?_;rintro ek ⟨dI,en⟩ h _ c8;rw[q5i]at h;refine sg fun _ dJ=>?_;refine sM ?_;refine sB h (fun _ h=>?_) fun _ h=>?_
    .
     refine y7 (q8 dJ (z8 fun _ dK=>?_));refine sM ?_;refine sg fun _ e2=>?_;refine q07 ?_;refine k1d ?_;obtain⟨c9,F,h⟩:=bI F h;obtain⟨cb,F,h⟩:=bI F h;obtain⟨dL,cc,h⟩:=w9 h;simp only[go_sem,ak,F];refine ai ?_;refine ai ?_;refine qk7 (an c9 cb dL cc) (by rfl) (by simp[go_sem,q0j,q0q,I]) ?_;simp only[go_sem];refine q8 e2 (sB h (fun _ h=>?_) fun _ h=>?_)
     . simp only[go_sem];refine q08 dK (p8 c8 ?_);exact nxC _ h [] leA
     simp only[go_sem];refine q08 dK (p8 c8 ?_);exact nxC _ h [] leA
    refine q0n (q1f dJ (q0o c8 (q0h e1 (p8 e0 (⟨dI,[],?_,h⟩)))));exact leA
   rintro b6 h
   try dsimp only at h
   rw[q3f]at h;refine jg fun _ e3=>?_;refine sM ?_;refine z8 fun _ e4=>?_;refine q0e h [10] (fun x=>([(0,.osl 0 4 (0) (x.2.length)),(13,.v (.int .i64 x.1))],[(0,.arr 4 (enc x.2))])) 1 ?_;rintro eo ⟨bv,bi⟩ h _ dM;rw[q5j]at h;refine sg fun _ dN=>?_;refine sM ?_;refine sB h (fun _ h=>?_) fun _ h=>?_
   .
    refine y7 (q8 dN (sg fun _ e5=>?_));refine z8 fun _ e6=>?_;refine q07 ?_;refine q2g 16 0 0 [0,0,0,0,8,0,0,64,224,480,0,0,3072,7168,16355,32739,65535,131071] [0] [2,3,4] [] [15] [] mixed (by kernel_rfl) (of_decide_eq_true (by kernel_rfl)) (by kernel_rfl) (by kernel_rfl) (by rfl) ?_;obtain⟨ar,F,h⟩:=bI F h;obtain⟨b2,F,h⟩:=bI F h;have cd:(enc bi).set (bv.toNat) [.v (.int .i64 ar.Node),.v (.int .i64 ar.aQ),.v (.int .i64 ar.Rec.K),.v (.int .i64 ar.Rec.V)]=enc (Xb bi (bv.toNat) ar):=by exact q4y _ _ _
    obtain⟨e7,F,h⟩:=bI F h;have cl:(enc (Xb bi (bv.toNat) ar)).set (Xc (i64.wrap (bv+1))) [.v (.int .i64 b2.Node),.v (.int .i64 b2.aQ),.v (.int .i64 b2.Rec.K),.v (.int .i64 b2.Rec.V)]=enc (Xb (Xb bi (bv.toNat) ar) (Xc (i64.wrap (bv+1))) b2):=by exact q4y _ _ _
    simp only[go_sem,cd,cl,F];refine ai ?_;refine ai ?_;refine ai ?_;refine ai ?_;refine q08 e6 (q8 e5 ?_);simp only[go_sem];refine p8 dM ?_;exact nxC _ h [] leA
   refine q0n (q1f dN (q0o dM (q0h e4 (q8 e3 (q03 (q31 ds ?_))))));simp only[go_sem];obtain rfl:=Xa h;refine q2b [] ?_;exact leA
  refine y7 (p8 ds (⟨(),[],?_,h⟩));exact leA
 rintro⟨⟩ h
 try dsimp only at h
 rw[q3o]at h;refine q30 (fun (_:Unit)=>q3n G ao aj aq a6 self=some r) [0,1,2,3,4] (fun _=>([],[(0,.arr 4 (enc G))])) 1 ?_ ?_
 .
  intro _ dO;refine sM ?_;refine sB h (fun _ h=>?_) fun _ h=>?_
  .
   refine sM ?_;refine sM ?_;refine q30 (fun (bs:Int)=>q3m G aj bs=some r) [0,2] (fun bs=>([(14,.v (.int .i64 bs))],[(0,.arr 4 (enc G))])) 1 ?_ ?_
   .
    intro _ e8;refine z8 fun _ e9=>?_;refine q0e h [0,2,4] (fun x=>([(14,.v (.int .i64 x.1)),(15,.v (.int .i64 x.2))],[(0,.arr 4 (enc G))])) 1 ?_;rintro er ⟨dP,es⟩ h _ cp;rw[q5k]at h;refine sg fun _ dQ=>?_;refine sM ?_;refine sB h (fun _ h=>?_) fun _ h=>?_
    .
     refine y7 (q8 dQ (z8 fun _ dR=>?_));refine sM ?_;refine sg fun _ ea=>?_;refine q07 ?_;refine k1d ?_;obtain⟨d0,F,h⟩:=bI F h;obtain⟨d1,F,h⟩:=bI F h;obtain⟨dS,d2,h⟩:=w9 h;simp only[go_sem,ak,F];refine ai ?_;refine ai ?_;refine qk7 (an d0 d1 dS d2) (by rfl) (by simp[go_sem,q0j,q0q,I]) ?_;simp only[go_sem];refine q8 ea (sB h (fun _ h=>?_) fun _ h=>?_)
     . simp only[go_sem];refine q08 dR (p8 cp ?_);exact nxC _ h [] leA
     simp only[go_sem];refine q08 dR (p8 cp ?_);exact nxC _ h [] leA
    refine q0n (q1f dQ (q0o cp (q0h e9 (p8 e8 (⟨dP,[],?_,h⟩)))));exact leA
   rintro bs h
   try dsimp only at h
   rw[q3m]at h;refine jg fun _ eb=>?_;refine sM ?_;refine z8 fun _ ec=>?_;refine q0e h [14] (fun x=>([(0,.osl 0 4 (0) (x.2.length)),(17,.v (.int .i64 x.1))],[(0,.arr 4 (enc x.2))])) 1 ?_;rintro eu ⟨c0,c4⟩ h _ dT;rw[q60]at h;refine sg fun _ dU=>?_;refine sM ?_;refine sB h (fun _ h=>?_) fun _ h=>?_
   .
    refine y7 (q8 dU (sg fun _ ee=>?_));refine z8 fun _ ef=>?_;refine q07 ?_;refine q2g 16 0 0 [0,0,0,0,8,0,0,64,224,480,0,0,3072,7168,16355,32739,65535,131071] [0] [2,3,4] [] [15] [] mixed (by kernel_rfl) (of_decide_eq_true (by kernel_rfl)) (by kernel_rfl) (by kernel_rfl) (by rfl) ?_;obtain⟨b1,F,h⟩:=bI F h;obtain⟨b3,F,h⟩:=bI F h;have d3:(enc c4).set (c0.toNat) [.v (.int .i64 b1.Node),.v (.int .i64 b1.aQ),.v (.int .i64 b1.Rec.K),.v (.int .i64 b1.Rec.V)]=enc (Xb c4 (c0.toNat) b1):=by exact q4y _ _ _
    obtain⟨eg,F,h⟩:=bI F h;have d4:(enc (Xb c4 (c0.toNat) b1)).set (Xc (i64.wrap (c0-1))) [.v (.int .i64 b3.Node),.v (.int .i64 b3.aQ),.v (.int .i64 b3.Rec.K),.v (.int .i64 b3.Rec.V)]=enc (Xb (Xb c4 (c0.toNat) b1) (Xc (i64.wrap (c0-1))) b3):=by exact q4y _ _ _
    simp only[go_sem,d3,d4,F];refine ai ?_;refine ai ?_;refine ai ?_;refine ai ?_;refine q08 ef (q8 ee ?_);simp only[go_sem];refine p8 dT ?_;exact nxC _ h [] leA
   refine q0n (q1f dU (q0o dT (q0h ec (q8 eb (q03 (q31 dO ?_))))));simp only[go_sem];obtain rfl:=Xa h;refine q2b [] ?_;exact leA
  refine y7 (p8 dO (⟨(),[],?_,h⟩));exact leA
 rintro⟨⟩ h
 try dsimp only at h
 rw[q3n]at h;refine sM ?_;refine sM ?_;refine sM ?_;refine q30 (fun ((b4,c5):Int×Int)=>q1o G ao aj aq a6 self b4 c5=some r) [0,1,2,3,4,18,19] (fun x=>([(20,.v (.int .i64 x.1)),(21,.v (.int .i64 x.2))],[(0,.arr 4 (enc G))])) 1 ?_ ?_
 .
  intro _ dV;refine sM ?_;refine sB h (fun _ h=>?_) fun _ h=>?_
  . refine sM ?_;simp only[go_sem];refine p8 dV (⟨(i64.wrap ((i64.wrap ((i64.wrap (q2e .u64 (IntKind.u64.wrap (i64.wrap (ao+aq))) 1))+aj))-aq),i64.wrap (q2e .u64 (IntKind.u64.wrap (i64.wrap (ao+aq))) 1)),[],?_,h⟩);exact leA
  refine sM ?_;simp only[go_sem];refine p8 dV (⟨(ao,aj),[],?_,h⟩);exact leA
 rintro⟨b4,c5⟩ h
 try dsimp only at h
 rw[q1o]at h;refine sM ?_;refine q30 (fun (Z:Int)=>q2f G ao aj aq a6 self Z=some r) [0,1,2,3,4,18,19] (fun Z=>([(20,.v (.int .i64 Z))],[(0,.arr 4 (enc G))])) 1 ?_ ?_
 .
  intro _ eh;refine z8 fun _ ei=>?_;refine q0e h [0,1,2,3,4,18,19,22] (fun x=>([(20,.v (.int .i64 x.1)),(21,.v (.int .i64 x.2))],[(0,.arr 4 (enc G))])) 1 ?_;rintro ew ⟨c3,et⟩ h _ d5;rw[q61]at h;refine sg fun _ dW=>?_;refine sM ?_;refine sB h (fun _ h=>?_) fun _ h=>?_
  .
   refine y7 (q8 dW (z8 fun _ dX=>?_));refine sM ?_;refine sg fun _ ej=>?_;refine q07 ?_;refine k1d ?_;obtain⟨d6,F,h⟩:=bI F h;obtain⟨d7,F,h⟩:=bI F h;obtain⟨dY,d8,h⟩:=w9 h;simp only[go_sem,ak,F];refine ai ?_;refine ai ?_;refine qk7 (an d6 d7 dY d8) (by rfl) (by simp[go_sem,q0j,q0q,I]) ?_;simp only[go_sem];refine q8 ej (sB h (fun _ h=>?_) fun _ h=>?_)
   . simp only[go_sem];refine q08 dX (p8 d5 ?_);exact nxC _ h [] leA
   simp only[go_sem];refine q08 dX (p8 d5 ?_);exact nxC _ h [] leA
  refine q0n (q1f dW (q0o d5 (q0h ei (p8 eh (⟨c3,[],?_,h⟩)))));exact leA
 rintro Z h
 try dsimp only at h
 rw[q2f]at h;refine sM ?_;refine q30 (fun (b5:(List aD))=>q1n ao aj aq a6 self Z b5=some r) [1,3,4,18,20,24] (fun b5=>([(0,.osl 0 4 (0) (b5.length))],[(0,.arr 4 (enc b5))])) 1 ?_ ?_
 .
  intro _ Q9;refine sM ?_;refine sB h (fun _ h=>?_) fun _ h=>?_
  . obtain⟨c6,dc,h⟩:=w9 h;simp only[go_sem];refine q7h [0] (qw5 G Z aj (i64.wrap ((i64.wrap ((i64.wrap (q2e .u64 (IntKind.u64.wrap (i64.wrap (ao+aq))) 1))+aj))-Z)) a6 T W I ak an c6 dc) (by simp) (by simp only[q6n,q2j,q5x I]<;>rfl) ⟨rfl,trivial⟩ (by simp only[ltL,ltA,q7k I]<;>rfl) rfl rfl rfl ?_;obtain⟨F,h⟩:=bG F h;simp only[go_sem,F];refine p8 Q9 (⟨c6,[],?_,h⟩);exact leA
  refine y7 (p8 Q9 (⟨G,[],?_,h⟩));exact leA
 rintro b5 h
 try dsimp only at h
 rw[q1n]at h;refine q30 (fun (c1:(List aD))=>q1m ao aj aq a6 self Z c1=some r) [3,4,18,24] (fun c1=>([(0,.osl 0 4 (0) (c1.length))],[(0,.arr 4 (enc c1))])) 1 ?_ ?_
 .
  intro _ Q7;refine sM ?_;refine sB h (fun _ h=>?_) fun _ h=>?_
  . obtain⟨c7,dd,h⟩:=w9 h;simp only[go_sem];refine q7h [0] (c2 b5 ao Z (i64.wrap (q2e .u64 (IntKind.u64.wrap (i64.wrap (ao+aq))) 1)) a6 T W I ak an c7 dd) (by simp) (by simp only[q6n,q2j,q5x I]<;>rfl) ⟨rfl,trivial⟩ (by simp only[ltL,ltA,q7k I]<;>rfl) rfl rfl rfl ?_;obtain⟨F,h⟩:=bG F h;simp only[go_sem,F];refine p8 Q7 (⟨c7,[],?_,h⟩);exact leA
  refine y7 (p8 Q7 (⟨b5,[],?_,h⟩));exact leA
 rintro c1 h
 try dsimp only at h
 rw[q1m]at h;refine sM ?_;refine sB h (fun _ h=>?_) fun _ h=>?_
 . obtain⟨dZ,dk,h⟩:=w9 h;simp only[go_sem];refine q7h [0] (c2 c1 (i64.wrap (q2e .u64 (IntKind.u64.wrap (i64.wrap (ao+aq))) 1)) (i64.wrap ((i64.wrap ((i64.wrap (q2e .u64 (IntKind.u64.wrap (i64.wrap (ao+aq))) 1))+aj))-Z)) aq a6 T W I ak an dZ dk) (by simp) (by simp only[q6n,q2j,q5x I]<;>rfl) ⟨rfl,trivial⟩ (by simp only[ltL,ltA,q7k I]<;>rfl) rfl rfl rfl ?_;obtain⟨F,h⟩:=bG F h;simp only[go_sem,F];obtain rfl:=Xa h;refine q2b [] ?_;exact leA
 refine y7 ?_;simp only[go_sem];obtain rfl:=Xa h;refine q2b [] ?_;exact leA
theorem q8s:∀(n:Nat) (T:List aD) (an:Int) (ak:Int) (ao:Int) (W:aD->aD->Option Int) (G:FuncId) (I:List AV) (Z:q0j I=true) (a6:q02 pp G=true) (aj:∀(x0:aD) (x1:aD) (r:Int),W x0 x1=some r->aZ pp G ([.agg (Row.row x0),.agg (Row.row x1)]++I) 0 (.v (.int .i64 r))) (r:List aD),q0f n T an ak ao W=some r->ba pp 96 [.osl 0 4 (0) (T.length),.v (.int .i64 an),.v (.int .i64 ak),.v (.int .i64 ao),.clo G I] [(0,.arr 4 (enc T))] 1 (.tup []) [(0,.arr 4 (enc r))] 1
 |0,T,an,ak,ao,W,G,I,Z,a6,aj,r,h=>by simp[q0f]at h
 |n+1,T,an,ak,ao,W,G,I,Z,a6,aj,r,h=>qp3 (q0f n) (q8s n) T an ak ao W G I Z a6 aj r h
theorem q9h(T:List aD)(an:Int)(Z:Int)(ao:Int)(W:aD->aD->Option Int)(G:FuncId)(I:List AV)(a6:q0j I=true)(aj:q02 pp G=true)(ak:∀(x0:aD) (x1:aD) (r:Int),W x0 x1=some r->aZ pp G ([.agg (Row.row x0),.agg (Row.row x1)]++I) 0 (.v (.int .i64 r)))(r:List aD)(h:q48 T an Z ao W=some r):ba pp 96 [.osl 0 4 (0) (T.length),.v (.int .i64 an),.v (.int .i64 Z),.v (.int .i64 ao),.clo G I] [(0,.arr 4 (enc T))] 1 (.tup []) [(0,.arr 4 (enc r))] 1:=q8s rounds T an Z ao W G I a6 aj ak r h
def q3x(Z:Int)(aj:aD->aD->Option Int)(G:Int)(I:(Int×(List aD)->Option (List aD)))(T:Int)(W:List aD):Option (List aD):=
 (if (decide ((i64.wrap (T+G))<Z))=true then q9 (q48 W T (i64.wrap (T+G)) Z aj) (fun a6=>
 u7 (a6.length=W.length) (
 I (i64.wrap (G*2),a6)))
 else I (i64.wrap (G*2),W))
def q6q(a6:Int)(T:aD->aD->Option Int)(G:Int)(ak:(Int×(List aD)->Option (List aD)))(an:Int×Int×(List aD)->Option (List aD)):Int×Int×(List aD)->Option (List aD):=
 fun (W,I,Z)=>
 (if (decide (I<=a6))=true then q9 (q48 Z W (i64.wrap (W+G)) I T) (fun aj=>
 u7 (aj.length=Z.length) (
 an (I,i64.wrap (I+(i64.wrap (2*G))),aj)))
 else q3x a6 T G ak W Z)
def q40(I:Int)(W:aD->aD->Option Int)(Z:Int×(List aD)->Option (List aD)):Int×(List aD)->Option (List aD):=
 fun (G,T)=>
 (if (decide (G<I))=true then d9 (q6q I W G Z) rounds (0,i64.wrap (2*G),T)
 else some T)
def q3y(I:Int)(G:aD->aD->Option Int)(Z:Int)(T:List aD):Option (List aD):=
 q9 (q11 T Z I G) (fun W=>
 u7 (W.length=T.length) (
 d9 (q40 I G) rounds (20,W)))
def q6p(W:Int)(I:aD->aD->Option Int)(aj:Int×Int×(List aD)->Option (List aD)):Int×Int×(List aD)->Option (List aD):=
 fun (Z,G,T)=>
 (if (decide (G<=W))=true then q9 (q11 T Z G I) (fun a6=>
 u7 (a6.length=T.length) (
 aj (G,i64.wrap (G+20),a6)))
 else q3y W I Z T)
def q4u(G:List aD)(T:Int)(I:aD->aD->Option Int):Option (List aD):=
 d9 (q6p T I) rounds (0,20,G)
theorem qw4(an:List aD)(ak:Int)(W:aD->aD->Option Int)(I:FuncId)(T:List AV)(G:q0j T=true)(a6:q02 pp I=true)(aj:∀(x0:aD) (x1:aD) (r:Int),W x0 x1=some r->aZ pp I ([.agg (Row.row x0),.agg (Row.row x1)]++T) 0 (.v (.int .i64 r)))(r:List aD)(h:q4u an ak W=some r):ba pp 57 [.osl 0 4 (0) (an.length),.v (.int .i64 ak),.clo I T] [(0,.arr 4 (enc an))] 1 (.tup []) [(0,.arr 4 (enc r))] 1:=by
 refine dtI Tryz.func57 rfl ?_;rw[q4u]at h;have F:=trivial;refine sM ?_;refine sM ?_;refine q30 (fun ((b4,b5):Int×(List aD))=>q3y ak W b4 b5=some r) [1,2,6] (fun x=>([(0,.osl 0 4 (0) (x.2.length)),(7,.v (.int .i64 x.1))],[(0,.arr 4 (enc x.2))])) 1 ?_ ?_
 .
  intro _ cb;refine z8 fun _ cc=>?_;refine q0e h [1,2,6] (fun x=>([(0,.osl 0 4 (0) (x.2.2.length)),(7,.v (.int .i64 x.1)),(8,.v (.int .i64 x.2.1))],[(0,.arr 4 (enc x.2.2))])) 1 ?_;rintro d6 ⟨b1,bv,b2⟩ h _ c0;rw[q6p]at h;refine sg fun _ c1=>?_;refine sM ?_;refine sB h (fun _ h=>?_) fun _ h=>?_
  . refine y7 (q8 c1 (z8 fun _ cd=>?_));refine sg fun _ cl=>?_;obtain⟨c2,b6,h⟩:=w9 h;simp only[go_sem];refine q7h [0] (q7q b2 b1 bv W I T G a6 aj c2 b6) (by simp) (by simp only[q6n,q2j,q5x G]<;>rfl) ⟨rfl,trivial⟩ (by simp only[ltL,ltA,q7k G]<;>rfl) rfl rfl rfl ?_;obtain⟨F,h⟩:=bG F h;simp only[go_sem,F];refine q8 cl (sM ?_);simp only[go_sem];refine q08 cd (p8 c0 ?_);exact nxC _ h [] leA
  refine q0n (q1f c1 (q0o c0 (q0h cc (p8 cb (⟨(b1,b2),[],?_,h⟩)))));exact leA
 rintro⟨b4,b5⟩ h
 try dsimp only at h
 rw[q3y]at h;refine sg fun _ Q3=>?_;obtain⟨cp,c3,h⟩:=w9 h;simp only[go_sem];refine q7h [0] (q7q b5 b4 ak W I T G a6 aj cp c3) (by simp) (by simp only[q6n,q2j,q5x G]<;>rfl) ⟨rfl,trivial⟩ (by simp only[ltL,ltA,q7k G]<;>rfl) rfl rfl rfl ?_;obtain⟨F,h⟩:=bG F h;simp only[go_sem,F];refine q8 Q3 (z8 fun _ Q4=>?_);refine q0e h [1,2] (fun x=>([(0,.osl 0 4 (0) (x.2.length)),(6,.v (.int .i64 x.1))],[(0,.arr 4 (enc x.2))])) 1 ?_;rintro d0 ⟨Z,d5⟩ h _ Q5;rw[q40]at h;refine sg fun _ Q6=>?_;refine sM ?_;refine sB h (fun _ h=>?_) fun _ h=>?_
 .
  refine y7 (q8 Q6 (z8 fun _ Q8=>?_));refine sM ?_;refine q30 (fun ((ao,aq):Int×(List aD))=>q3x ak W Z (d9 (q40 ak W) d0) ao aq=some r) [1,2,6] (fun x=>([(0,.osl 0 4 (0) (x.2.length)),(7,.v (.int .i64 x.1))],[(0,.arr 4 (enc x.2))])) 1 ?_ ?_
  .
   intro _ d1;refine z8 fun _ d2=>?_;refine q0e h [1,2,6] (fun x=>([(0,.osl 0 4 (0) (x.2.2.length)),(7,.v (.int .i64 x.1)),(8,.v (.int .i64 x.2.1))],[(0,.arr 4 (enc x.2.2))])) 1 ?_;rintro d7 ⟨ar,c4,b3⟩ h _ c5;rw[q6q]at h;refine sg fun _ c6=>?_;refine sM ?_;refine sB h (fun _ h=>?_) fun _ h=>?_
   . refine y7 (q8 c6 (z8 fun _ d3=>?_));refine sg fun _ d4=>?_;obtain⟨c7,bi,h⟩:=w9 h;simp only[go_sem];refine q7h [0] (q9h b3 ar (i64.wrap (ar+Z)) c4 W I T G a6 aj c7 bi) (by simp) (by simp only[q6n,q2j,q5x G]<;>rfl) ⟨rfl,trivial⟩ (by simp only[ltL,ltA,q7k G]<;>rfl) rfl rfl rfl ?_;obtain⟨F,h⟩:=bG F h;simp only[go_sem,F];refine q8 d4 (sM ?_);simp only[go_sem];refine q08 d3 (p8 c5 ?_);exact nxC _ h [] leA
   refine q0n (q1f c6 (q0o c5 (q0h d2 (p8 d1 (⟨(ar,b3),[],?_,h⟩)))));exact leA
  rintro⟨ao,aq⟩ h
  try dsimp only at h
  rw[q3x]at h;refine jg fun _ c8=>?_;refine sM ?_;refine sM ?_;refine sB h (fun _ h=>?_) fun _ h=>?_
  . obtain⟨c9,bs,h⟩:=w9 h;simp only[go_sem];refine q7h [0] (q9h aq ao (i64.wrap (ao+Z)) ak W I T G a6 aj c9 bs) (by simp) (by simp only[q6n,q2j,q5x G]<;>rfl) ⟨rfl,trivial⟩ (by simp only[ltL,ltA,q7k G]<;>rfl) rfl rfl rfl ?_;obtain⟨F,h⟩:=bG F h;simp only[go_sem,F];refine q8 c8 ?_;simp only[go_sem];refine q08 Q8 (p8 Q5 ?_);exact nxC _ h [] leA
  refine y7 (q8 c8 ?_);simp only[go_sem];refine q08 Q8 (p8 Q5 ?_);exact nxC _ h [] leA
 refine q0n (q1f Q6 (q0o Q5 (q0h Q4 ?_)));simp only[go_sem];obtain rfl:=Xa h;refine q2b [] ?_;exact leA
def q15(G:List aD)(I:aD->aD->Option Int):Option (List aD):=
 q9 (q4u G (G.length:Int) I) (fun T=>
 u7 (T.length=G.length) (
 some T))
theorem qt6(W:List aD)(Z:aD->aD->Option Int)(G:FuncId)(I:List AV)(T:q0j I=true)(a6:q02 pp G=true)(aj:∀(x0:aD) (x1:aD) (r:Int),Z x0 x1=some r->aZ pp G ([.agg (Row.row x0),.agg (Row.row x1)]++I) 0 (.v (.int .i64 r)))(r:List aD)(h:q15 W Z=some r):ba pp 26 [.osl 0 4 (0) (W.length),.clo G I] [(0,.arr 4 (enc W))] 1 (.tup []) [(0,.arr 4 (enc r))] 1:=by
 refine dtI Tryz.func26 rfl ?_;rw[q15]at h;have F:=trivial;obtain⟨an,ak,h⟩:=w9 h;simp only[go_sem];refine q7h [0] (qw4 W (W.length:Int) Z G I T a6 aj an ak) (by simp) (by simp only[q6n,q2j,q5x T]<;>rfl) ⟨rfl,trivial⟩ (by simp only[ltL,ltA,q7k T]<;>rfl) rfl rfl rfl ?_;obtain⟨F,h⟩:=bG F h;simp only[go_sem,F];obtain rfl:=Xa h;refine q2b [] ?_;exact leA
def qp5(T:List aN)(Z:aN->Option Bool)(I:Int->Option Int):Int->Option Int:=
 fun G=>
 (if (decide (G<(T.length:Int)))=true then q9 (idx T G) (fun W=>
 q9 (Z W) (fun a6=>
 (if a6=true then some G
 else I (i64.wrap (G+1)))))
 else some (-1))
def qg5(G:List aN)(I:aN->Option Bool):Option Int:=
 d9 (qp5 G I) rounds 0
theorem z3f(aj:List aN)(ak:aN->Option Bool)(G:FuncId)(I:List AV)(W:q0j I=true)(Z:q02 pp G=true)(a6:∀(x0:aN) (r:Bool),ak x0=some r->aZ pp G ([.agg (Row.row x0)]++I) 0 (.v (.bool r)))(r:Int)(h:qg5 aj ak=some r):aZ pp 74 [.sl 4 (enc aj),.clo G I] 0 (.v (.int .i64 r)):=by
 refine ptI Tryz.func74 rfl ?_;rw[qg5]at h;have F:=trivial;refine sM ?_;refine jg fun _ Q2=>?_;refine sM ?_;refine z8 fun _ Q4=>?_;refine q0e h [0,1,7] (fun T=>([(8,.v (.int .i64 T))],[])) 0 ?_;rintro b1 T h _ Q5;rw[qp5]at h;refine sM ?_;refine sg fun _ Q7=>?_;refine sB h (fun _ h=>?_) fun _ h=>?_
 .
  refine y7 (q8 Q7 (sg fun _ Q8=>?_));refine z8 fun _ Q9=>?_;refine sM ?_;refine sg fun _ aq=>?_;obtain⟨an,F,h⟩:=bI F h;obtain⟨ar,ao,h⟩:=w9 h;simp only[go_sem,Z,F];refine ai ?_;refine qk7 (a6 an ar ao) (by rfl) (by simp[go_sem,q0j,q0q,W]) ?_;simp only[go_sem];refine q8 aq (sB h (fun _ h=>?_) fun _ h=>?_)
  . refine sM ?_;refine q03 (q0r Q9 (q0y Q8 (q31 Q5 (q0r Q4 (q0y Q2 ?_)))));simp only[go_sem];obtain rfl:=Xa h;refine q8q rfl ?_;exact leA
  refine y7 (q08 Q9 (q8 Q8 ?_));simp only[go_sem];refine p8 Q5 ?_;exact nxC _ h [] leA
 refine q0n (q1f Q7 (q0o Q5 (q0h Q4 (q8 Q2 (sM ?_)))));refine q03 ?_;simp only[go_sem];obtain rfl:=Xa h;refine q8q rfl ?_;exact leA
def q7d(G:List aN)(I:aN->Option Bool):Option Bool:=
 q9 (qg5 G I) (fun T=>
 some (decide (0<=T)))
theorem z1h(W:List aN)(Z:aN->Option Bool)(G:FuncId)(I:List AV)(T:q0j I=true)(a6:q02 pp G=true)(aj:∀(x0:aN) (r:Bool),Z x0=some r->aZ pp G ([.agg (Row.row x0)]++I) 0 (.v (.bool r)))(r:Bool)(h:q7d W Z=some r):aZ pp 48 [.sl 4 (enc W),.clo G I] 0 (.v (.bool r)):=by
 refine ptI Tryz.func48 rfl ?_;rw[q7d]at h;have F:=trivial;refine sM ?_;refine sg fun _ Q2=>?_;obtain⟨an,ak,h⟩:=w9 h;simp only[go_sem];refine qk7 (z3f W Z G I T a6 aj an ak) (by rfl) (by simp[go_sem,q0j,q0q,T]) ?_;simp only[go_sem];refine q8 Q2 (q03 ?_);simp only[go_sem];obtain rfl:=Xa h;refine q8q rfl ?_;exact leA
def ql3(G:aN)(I:aa):Option Bool:=
 (if ((decide (G.Node<0))||(decide ((I.ae.length:Int)<=G.Node)))=true then some true
 else q9 (idx I.ae G.Node) (fun T=>
 some (((!(T.Kind==1))||(decide (G.aQ<0)))||(decide (1048576<G.aQ)))))
instance zf3(I:aN)(G:aa):Ct pp 49 (ql3 I G) [.agg (Row.row I),.el 4 [(Row.row G)] 0 0] fun r=>(.v (.bool r)):=ctI Tryz.func49 rfl (by rw[ql3];exact au1)
def qu0(T:aa)(I:List aN)(G:Int):Option Bool:=
 q9 (q8r T) (fun W=>
 (if (((!(W.1==0))||(decide (G<0)))||(decide (1048576<G)))=true then some false
 else q9 (q7d I (fun Z=>ql3 Z T)) (fun a6=>
 some (!a6))))
instance zo7(T:aa)(G:List aN)(I:Int):Ct pp 21 (qu0 T G I) [.agg (Row.row T),.sl 4 (enc G),.v (.int .i64 I)] fun r=>(.v (.bool r)):=ctK Tryz.func21 rfl (by rw[qu0]) (by
 intro r h F;refine sM ?_;refine sg fun _ Q2=>?_;refine sg fun _ Q3=>?_;simp only[go_sem];refine q4n h fun aj h=>?_;simp only[go_sem];refine q8 Q3 (sM ?_);refine sB h (fun _ h=>?_) fun _ h=>?_
 . exact au
 refine y7 (q8 Q2 (sg fun _ Q6=>?_));obtain⟨Z,W,h⟩:=w9 h;simp only[go_sem];refine z1c (z1h G (fun a6=>ql3 a6 T) 49 [.el 4 [(Row.row T)] 0 0] (by rfl) (by kernel_rfl) (fun y0 r_ e_=>zf3 y0 T r_ e_) Z W) ?_;simp only[go_sem];exact au)
def j92:Go.Shelf.Ren:=⟨fun|189=>23|125=>52|257=>51|128=>85|129=>86|294=>76|295=>77|296=>78|297=>79|298=>80|299=>81|216=>82|300=>83|301=>84|328=>106|329=>107|330=>108|331=>109|332=>110|215=>58|343=>131|n=>n,fun|28=>22|3=>3|46=>109|0=>0|51=>135|53=>137|4=>4|183=>128|182=>127|131=>132|5=>5|9=>9|218=>159|222=>163|228=>183|229=>30|n=>n,fun|n=>n⟩
theorem jk7:Go.Proofs.Lays.n189 pp j92:={
 mixed:=by kernel_rfl
 f125:=Tryz.func52.trans (congrArg some (by kernel_rfl))
 f128:=Tryz.func85.trans (congrArg some (by kernel_rfl))
 f129:=Tryz.func86.trans (congrArg some (by kernel_rfl))
 f189:=Tryz.func23.trans (congrArg some (by kernel_rfl))
 f215:=Tryz.func58.trans (congrArg some (by kernel_rfl))
 f216:=Tryz.func82.trans (congrArg some (by kernel_rfl))
 f257:=Tryz.func51.trans (congrArg some (by kernel_rfl))
 f294:=Tryz.func76.trans (congrArg some (by kernel_rfl))
 f295:=Tryz.func77.trans (congrArg some (by kernel_rfl))
 f296:=Tryz.func78.trans (congrArg some (by kernel_rfl))
 f297:=Tryz.func79.trans (congrArg some (by kernel_rfl))
 f298:=Tryz.func80.trans (congrArg some (by kernel_rfl))
 f299:=Tryz.func81.trans (congrArg some (by kernel_rfl))
 f300:=Tryz.func83.trans (congrArg some (by kernel_rfl))
 f301:=Tryz.func84.trans (congrArg some (by kernel_rfl))
 f328:=Tryz.func106.trans (congrArg some (by kernel_rfl))
 f329:=Tryz.func107.trans (congrArg some (by kernel_rfl))
 f330:=Tryz.func108.trans (congrArg some (by kernel_rfl))
 f331:=Tryz.func109.trans (congrArg some (by kernel_rfl))
 f332:=Tryz.func110.trans (congrArg some (by kernel_rfl))
 f343:=Tryz.func131.trans (congrArg some (by kernel_rfl))
 t0:=Tryz.underlying0
 a0:=Tryz.isAgg0
 z0:=Tryz.sizeOf0
 v0:=Tryz.zeroValue0
 t3:=Tryz.underlying3
 a3:=Tryz.isAgg3
 z3:=Tryz.sizeOf3
 v3:=Tryz.zeroValue3
 t4:=Tryz.underlying4
 a4:=Tryz.isAgg4
 z4:=Tryz.sizeOf4
 v4:=Tryz.zeroValue4
 t5:=Tryz.underlying5
 a5:=Tryz.isAgg5
 z5:=Tryz.sizeOf5
 v5:=Tryz.zeroValue5
 t9:=Tryz.underlying9
 a9:=Tryz.isAgg9
 z9:=Tryz.sizeOf9
 v9:=Tryz.zeroValue9
 t28:=Tryz.underlying22
 a28:=Tryz.isAgg22
 z28:=Tryz.sizeOf22
 v28:=Tryz.zeroValue22
 t46:=Tryz.underlying109
 a46:=Tryz.isAgg109
 z46:=Tryz.sizeOf109
 v46:=Tryz.zeroValue109
 t51:=Tryz.underlying135
 a51:=Tryz.isAgg135
 z51:=Tryz.sizeOf135
 v51:=Tryz.zeroValue135
 t53:=Tryz.underlying137
 a53:=Tryz.isAgg137
 z53:=Tryz.sizeOf137
 v53:=Tryz.zeroValue137
 t131:=Tryz.underlying132
 a131:=Tryz.isAgg132
 z131:=Tryz.sizeOf132
 v131:=Tryz.zeroValue132
 t182:=Tryz.underlying127
 a182:=Tryz.isAgg127
 z182:=Tryz.sizeOf127
 v182:=Tryz.zeroValue127
 t183:=Tryz.underlying128
 a183:=Tryz.isAgg128
 z183:=Tryz.sizeOf128
 v183:=Tryz.zeroValue128
 t218:=Tryz.underlying159
 a218:=Tryz.isAgg159
 z218:=Tryz.sizeOf159
 v218:=Tryz.zeroValue159
 t222:=Tryz.underlying163
 a222:=Tryz.isAgg163
 z222:=Tryz.sizeOf163
 v222:=Tryz.zeroValue163
 t228:=Tryz.underlying183
 a228:=Tryz.isAgg183
 z228:=Tryz.sizeOf183
 v228:=Tryz.zeroValue183
 t229:=Tryz.underlying30
 a229:=Tryz.isAgg30
 z229:=Tryz.sizeOf30
 v229:=Tryz.zeroValue30}
def qj5(G:List Int):Option (List Int):=j5m G
theorem z3d(G:List Int)(r:List Int)(h:qj5 G=some r):ba pp 23 [.osl 0 1 0 (G.length)] [(0,.arr 1 (enc G))] 1 (.tup []) [(0,.arr 1 (enc r))] 1:=
 j0q jk7 (by kernel_rfl) (fun w=>Any.slices_Sort_int_none jk7 none 0 w) h
def j91:Go.Shelf.Ren:=⟨fun|20=>24|n=>n,fun|22=>22|3=>3|4=>4|0=>0|n=>n,fun|n=>n⟩
theorem k0w:Go.Proofs.Lays2.n20 pp j91:={
 mixed:=by kernel_rfl
 f20:=Tryz.func24.trans (congrArg some (by kernel_rfl))
 t0:=Tryz.underlying0
 a0:=Tryz.isAgg0
 z0:=Tryz.sizeOf0
 v0:=Tryz.zeroValue0
 t3:=Tryz.underlying3
 a3:=Tryz.isAgg3
 z3:=Tryz.sizeOf3
 v3:=Tryz.zeroValue3
 t4:=Tryz.underlying4
 a4:=Tryz.isAgg4
 z4:=Tryz.sizeOf4
 v4:=Tryz.zeroValue4
 t22:=Tryz.underlying22
 a22:=Tryz.isAgg22
 z22:=Tryz.sizeOf22
 v22:=Tryz.zeroValue22
 i3:=by kernel_rfl}
def qd0(G:List Int):Option (List Int):=zj6 G
theorem z1j(G:List Int)(r:List Int)(h:qd0 G=some r):ba pp 24 [.osl 0 1 0 (G.length)] [(0,.arr 1 (enc G))] 1 (.osl 0 1 0 (r.length)) [(0,.arr 1 (enc r))] 1:=
 zp6 k0w (by kernel_rfl) h
def qi5(G:Int):Option Bool:=
 some (!(G==G))
instance j9i(G:Int):Ct pp 58 (qi5 G) [.v (.int .i64 G)] fun r=>(.v (.bool r)):=ctI Tryz.func58 rfl (by rw[qi5];exact au1)
def qb9(G:Int)(I:Int):Option Int:=
 q9 (qi5 G) (fun W=>
 q9 (qi5 I) (fun T=>
 (if W=true then (if T=true then some 0
 else some (-1))
 else (if T=true then some 1
 else (if (decide (G<I))=true then some (-1)
 else (if (decide (I<G))=true then some 1
 else some 0))))))
instance j75(G:Int)(I:Int):Ct pp 28 (qb9 G I) [.v (.int .i64 G),.v (.int .i64 I)] fun r=>(.v (.int .i64 r)):=ctI Tryz.func28 rfl (by rw[qb9];exact au1)
def q78(G:aD)(I:aD):Option Int:=
 q9 (qb9 G.Node I.Node) (fun T=>
 some T)
instance zo8(G:aD)(I:aD):Ct pp 27 (q78 G I) [.agg (Row.row G),.agg (Row.row I)] fun r=>(.v (.int .i64 r)):=ctI Tryz.func27 rfl (by rw[q78];exact au1)
def qp9(G:a7):Option ((List aD)×Int):=
 (if (!(G.e==0))=true then some (([]:List aD),G.e)
 else q9 (q15 G.outs (fun T W=>q78 T W)) (fun I=>
 u7 (I.length=G.outs.length) (
 some (I,0))))
def qq1(aj:aa)(I:List Int)(T:Int×a7->Option ((List aD)×Int)):Int×a7->Option ((List aD)×Int):=
 fun (G,W)=>
 (if (decide (G<(I.length:Int)))=true then q9 (idx I G) (fun Z=>
 q9 (qm1 W 0 (aj.ae.length:Int) 0 (⟨1,(⟨Z,0,0,0⟩:cv Int)⟩:ay)) (fun a6=>
 T (i64.wrap (G+1),a6.2)))
 else qp9 W)
def qz3(W:aa)(Z:a7)(G:List Int):Option ((List aD)×Int):=
 q9 (qj5 G) (fun I=>
 u7 (I.length=G.length) (
 q9 (qd0 I) (fun T=>
 d9 (qq1 W T) rounds (0,Z))))
def qq0(ak:aa)(I:List aN)(W:Int×a7×(List Int)->Option ((List aD)×Int)):Int×a7×(List Int)->Option ((List aD)×Int):=
 fun (T,a6,Z)=>
 (if (decide (T<(I.length:Int)))=true then q9 (idx I T) (fun G=>
 u7 ((Z.length+Xh ([G.aQ]:List Int))*8<=140737488355328) (
 q9 (q3j a6 G.Node 0 (⟨1,(⟨G.aQ,0,0,0⟩:cv Int)⟩:ay) ([(⟨G.Rec,1⟩:a8)]:List a8)) (fun aj=>
 W (i64.wrap (T+1),aj,(Z++([G.aQ]:List Int))))))
 else qz3 ak a6 Z)
def qo0(T:aa)(G:List aN)(I:Int):Option ((List aD)×Int):=
 q9 (qu0 T G I) (fun W=>
 (if (!W)=true then some (([]:List aD),1)
 else d9 (qq0 T G) rounds (0,(⟨T,(Xj ([]:List ah) ([]:List (bA (List a8)))),(Xj ([]:List Int) ([]:List (List aF))),(Xj ([]:List ah) ([]:List (List a8))),0,I,([]:List aD),0⟩:a7),[])))
theorem z8c(ak:aa)(W:List aN)(aq:Int)(r:(List aD)×Int)(h:qo0 ak W aq=some r):ba pp 8 [.agg (Row.row ak),.sl 4 (enc W),.v (.int .i64 aq)] [] 0 (.tup [.osl 0 4 (0) (r.1.length),.v (.int .i64 r.2)]) [(0,.arr 4 (enc r.1))] 1:=by
 unfold ba;refine Spec.of_wp Tryz.func8 rfl (by kernel_rfl) (by kernel_rfl) ?_;rw[qo0]at h;refine sgW fun _ Q1=>?_;refine wv ?_;simp only[go_sem];refine y8 Q1 ?_;refine sgW fun _ Q2=>?_;refine sgW fun _ Q3=>?_;refine wv ?_;obtain⟨c5,c6,h⟩:=w9 h;simp only[go_sem];refine qk7 (zo7 ak W aq c5 c6) (by rfl) (by rfl) ?_;simp only[go_sem];refine y8 Q3 ?_;refine q4m (b:=(!c5)) (by (simp only[go_sem];done)) (fun b3=>?_) (fun b3=>?_)
 .
  replace h:=q1k h b3;simp only[bool_to_prop]at b3;refine sgW fun _ Q4=>?_;refine wv ?_;simp only[go_sem];refine y8 Q4 ?_;refine wv ?_;refine q03 (qz8 Q2 ?_);simp only[go_sem];obtain rfl:=Xa h;refine q2b [none] ?_;simp only[go_sem,Le]
 replace h:=q1l h b3;simp only[bool_to_prop]at b3;refine wv ?_;refine y7 (y8 Q2 ?_);refine sgW fun _ Q5=>?_;refine qc0 ?_;refine wv ?_;simp only[go_sem];refine z7d 0 ?_ rfl zq9;simp only[go_sem];refine z7d 1 ?_ rfl zq8;simp only[go_sem];refine z7d 2 ?_ rfl z7q;simp only[go_sem];refine q2y ?_;refine y8 Q5 ?_;refine sgW fun _ Q6=>?_;refine wv ?_;simp only[go_sem];refine y8 Q6 ?_;refine j2m (ι:=a7×(List Int)) (fun ((T,b5):a7×(List Int))=>(⟨0,[(3,.ptr 0 0),(8,.ptr 1 0),(9,.osl 2 1 (0) (b5.length))],[(0,.box (Row.row ak)),(1,.box [.sl 1 (enc T.g.af),.sl 1 (enc T.g.aG),.sl 4 (enc T.g.ae),.sl 4 (enc T.g.aw),.mp 3,.mp 4,.mp 5,.v (.int .i64 T.work),.v (.int .i64 T.aB),.osl 6 4 (0) (T.outs.length),.v (.int .i64 T.e)]),(2,.arr 1 (enc b5)),(3,.con (p9 pp 103 0 (q00 T.ins.1) (enc T.ins.2) none) []),(4,.con (p9 pp 3 1 (q00 T.aK.1) (enc T.aK.2) none) []),(5,.con (p9 pp 103 2 (q00 T.aJ.1) (enc T.aJ.2) none) []),(6,.arr 4 (enc T.outs))],7,86⟩:St)) (fun ((T,b5):a7×(List Int))=>qz3 ak T b5=some r) ?_ ?_
 .
  intro _ d4;refine sgW fun _ d5=>?_;refine wv ?_;simp only[go_sem];refine y8 d5 ?_;refine qq2 fun _ d6=>?_;refine ze1 (ι:=Nat×Int×a7×(List Int)) (fun ((_,aj,I,ao):Nat×Int×a7×(List Int))=>(⟨0,[(3,.ptr 0 0),(8,.ptr 1 0),(9,.osl 2 1 (0) (ao.length)),(26,.sl 4 (enc W)),(27,.v (.int .i64 (W.length:Int))),(28,.v (.int .i64 aj))],[(0,.box (Row.row ak)),(1,.box [.sl 1 (enc I.g.af),.sl 1 (enc I.g.aG),.sl 4 (enc I.g.ae),.sl 4 (enc I.g.aw),.mp 3,.mp 4,.mp 5,.v (.int .i64 I.work),.v (.int .i64 I.aB),.osl 6 4 (0) (I.outs.length),.v (.int .i64 I.e)]),(2,.arr 1 (enc ao)),(3,.con (p9 pp 103 0 (q00 I.ins.1) (enc I.ins.2) none) []),(4,.con (p9 pp 3 1 (q00 I.aK.1) (enc I.aK.2) none) []),(5,.con (p9 pp 103 2 (q00 I.aJ.1) (enc I.aJ.2) none) []),(6,.arr 4 (enc I.outs))],7,86⟩:St)) (fun ((n_,aj,I,ao):Nat×Int×a7×(List Int))=>d9 (qq0 ak W) n_ (aj,I,ao)=some r) (fun p=>p.1) (rounds,0,(⟨ak,(Xj ([]:List ah) ([]:List (bA (List a8)))),(Xj ([]:List Int) ([]:List (List aF))),(Xj ([]:List ah) ([]:List (List a8))),0,aq,([]:List aD),0⟩:a7),[]) [some 0,some 4,none,some 1,some 2,some 3,none] ?_ h ?_
  . simp only[go_sem,Le]<;>(repeat' apply Xd)<;>(try with_reducible refine q04 ?_)<;>first|omega|(simp[go_sem];done)|((try with_reducible refine q04 ?_);(simp[enc];rfl))
  rintro⟨e2,aj,I,ao⟩ h _ c7
  dsimp only at h;replace h:=qc8 h;obtain⟨d7,rfl,h⟩:=h;rw[qq0]at h;refine sgW fun _ d8=>?_;refine wv ?_;simp only[go_sem];refine y8 d8 ?_;refine sgW fun _ c8=>?_;refine q4m (b:=(decide (aj<(W.length:Int)))) (by (simp only[go_sem];done)) (fun ar=>?_) (fun ar=>?_)
  .
   replace h:=q1k h ar;simp only[bool_to_prop]at ar;refine wv ?_;refine y7 (y8 c8 ?_);refine sgW fun _ dc=>?_;refine qq2 fun _ dd=>?_;refine sgW fun _ dk=>?_;refine wv ?_;obtain⟨G,c9,h⟩:=w9 h;obtain⟨cb,cc,cd⟩:=q83 c9;simp only[go_sem,cb,cc,cd];refine Xd (by omega) ?_;refine y8 dk ?_;refine sgW fun _ ds=>?_;refine wv ?_;have bv:[[.v (.int .i64 G.aQ)]]=enc ([G.aQ]:List Int):=by rfl
   obtain⟨cl,h⟩:=q06 h;simp only[Xf,Xg,Xi,Xe]at cl;have c0:enc ao++[[.v (.int .i64 G.aQ)]]=enc (ao++([G.aQ]:List Int)):=by exact (q2x ao ([G.aQ]:List Int)).symm
   simp only[go_sem,cl,c0];simp only[bv];refine y8 ds ?_;refine wv ?_;have c1:[[.v (.int .i64 G.Rec.K),.v (.int .i64 G.Rec.V),.v (.int .i64 1)]]=enc ([(⟨G.Rec,1⟩:a8)]:List a8):=by rfl
   obtain⟨bi,c2,h⟩:=w9 h;simp only[go_sem];simp only[c1];refine qx3 (s':=(⟨0,[(3,.ptr 0 0),(8,.ptr 1 0),(9,.osl 8 1 (0) (Xh (ao++([G.aQ]:List Int)))),(26,.sl 4 (enc W)),(27,.v (.int .i64 (W.length:Int))),(28,.v (.int .i64 aj))],[(0,.box (Row.row ak)),(1,.box [.sl 1 (enc I.g.af),.sl 1 (enc I.g.aG),.sl 4 (enc I.g.ae),.sl 4 (enc I.g.aw),.mp 2,.mp 3,.mp 4,.v (.int .i64 I.work),.v (.int .i64 I.aB),.osl 5 4 (0) (I.outs.length),.v (.int .i64 I.e)]),(2,.con (p9 pp 103 0 (q00 I.ins.1) (enc I.ins.2) none) []),(3,.con (p9 pp 3 1 (q00 I.aK.1) (enc I.aK.2) none) []),(4,.con (p9 pp 103 2 (q00 I.aJ.1) (enc I.aJ.2) none) []),(5,.arr 4 (enc I.outs)),(6,.box (Row.row G)),(7,.arr 1 (enc ([G.aQ]:List Int))),(8,.arr 1 (enc (ao++([G.aQ]:List Int))))],9,86⟩:St)) (l:=[some 0,some 1,some 3,some 4,some 5,some 6,some 7,some 8,some 9]) (args':=[.ptr 1 0,.v (.int .i64 G.Node),.v (.int .i64 0),.agg [.v (.int .i64 1),.v (.int .i64 G.aQ),.v (.int .i64 0),.v (.int .i64 0),.v (.int .i64 0)],.sl 3 (enc ([(⟨G.Rec,1⟩:a8)]:List a8))]) ?_ ?_ ?_
   . simp only[go_sem,Le]<;>(repeat' apply Xd)<;>(try with_reducible refine q04 ?_)<;>first|omega|(simp[go_sem];done)
   . simp only[go_sem,Le]<;>(repeat' apply Xd)<;>((try with_reducible refine q04 ?_);(simp[go_sem];done))
   refine q7h [1,2,3,4,5] (qi4 I G.Node 0 (⟨1,(⟨G.aQ,0,0,0⟩:cv Int)⟩:ay) ([(⟨G.Rec,1⟩:a8)]:List a8) bi c2) (by simp) rfl ⟨rfl,⟨rfl,⟨rfl,⟨rfl,⟨rfl,trivial⟩⟩⟩⟩⟩ rfl rfl rfl rfl ?_;simp only[go_sem];refine q08 dd (y8 dc ?_);refine wv ?_;simp only[go_sem];refine p8 c7 (⟨(d7,i64.wrap (aj+1),bi,(ao++([G.aQ]:List Int))),[some 0,some 1,some 8,some 2,some 3,some 4,some 9],?_,h,Nat.lt_succ_self _⟩);simp only[go_sem,Le]<;>(repeat' apply Xd)<;>(try with_reducible refine q04 ?_)<;>first|omega|(simp[go_sem];done)
  replace h:=q1l h ar;simp only[bool_to_prop]at ar;refine wv ?_;refine q0n (z07 c8 ?_);refine q0o c7 (q0h d6 (p8 d4 (⟨(I,ao),[some 0,some 1,some 2,some 3,some 4,some 5,some 6],?_,h⟩)));simp only[go_sem,Le]<;>(repeat' apply Xd)<;>(try with_reducible refine q04 ?_)<;>first|omega|(simp[go_sem];done)
 rintro⟨T,b5⟩ h
 try dsimp only at h
 rw[qz3]at h;refine sgW fun _ Q7=>?_;refine wv ?_;obtain⟨b6,cp,h⟩:=w9 h;simp only[go_sem];refine q7h [2] (z3d b5 b6 cp) (by simp) rfl ⟨rfl,trivial⟩ rfl rfl rfl rfl ?_;obtain⟨dI,h⟩:=q06 h;simp only[go_sem,dI];refine y8 Q7 ?_;refine j2m (ι:=a7) (fun (Z:a7)=>(⟨0,[(8,.ptr 0 0)],[(0,.box [.sl 1 (enc Z.g.af),.sl 1 (enc Z.g.aG),.sl 4 (enc Z.g.ae),.sl 4 (enc Z.g.aw),.mp 1,.mp 2,.mp 3,.v (.int .i64 Z.work),.v (.int .i64 Z.aB),.osl 4 4 (0) (Z.outs.length),.v (.int .i64 Z.e)]),(1,.con (p9 pp 103 0 (q00 Z.ins.1) (enc Z.ins.2) none) []),(2,.con (p9 pp 3 1 (q00 Z.aK.1) (enc Z.aK.2) none) []),(3,.con (p9 pp 103 2 (q00 Z.aJ.1) (enc Z.aJ.2) none) []),(4,.arr 4 (enc Z.outs))],5,86⟩:St)) (fun (Z:a7)=>qp9 Z=some r) ?_ ?_
 .
  intro _ dJ;refine sgW fun _ dK=>?_;refine wv ?_;obtain⟨b2,c3,h⟩:=w9 h;simp only[go_sem];refine qx3 (s':=(⟨0,[(3,.ptr 0 0),(8,.ptr 1 0)],[(0,.box (Row.row ak)),(1,.box [.sl 1 (enc T.g.af),.sl 1 (enc T.g.aG),.sl 4 (enc T.g.ae),.sl 4 (enc T.g.aw),.mp 3,.mp 4,.mp 5,.v (.int .i64 T.work),.v (.int .i64 T.aB),.osl 6 4 (0) (T.outs.length),.v (.int .i64 T.e)]),(2,.arr 1 (enc b6)),(3,.con (p9 pp 103 0 (q00 T.ins.1) (enc T.ins.2) none) []),(4,.con (p9 pp 3 1 (q00 T.aK.1) (enc T.aK.2) none) []),(5,.con (p9 pp 103 2 (q00 T.aJ.1) (enc T.aJ.2) none) []),(6,.arr 4 (enc T.outs))],7,86⟩:St)) (l:=[some 0,some 1,some 2,some 3,some 4,some 5,some 6]) (args':=[.osl 2 1 (0) (b6.length)]) ?_ ?_ ?_
  . simp only[go_sem,Le]<;>(repeat' apply Xd)<;>(try with_reducible refine q04 ?_)<;>first|omega|(simp[go_sem];done)
  . simp only[go_sem,Le]<;>(repeat' apply Xd)<;>((try with_reducible refine q04 ?_);omega)
  refine q7h [2] (z1j b6 b2 c3) (by simp) rfl ⟨rfl,trivial⟩ rfl rfl rfl rfl ?_;simp only[go_sem];refine y8 dK ?_;refine qq2 fun _ dL=>?_;refine ze1 (ι:=Nat×Int×a7) (fun ((_,an,a6):Nat×Int×a7)=>(⟨0,[(3,.ptr 0 0),(8,.ptr 1 0),(53,.osl 2 1 (0) (b2.length)),(54,.v (.int .i64 (b2.length:Int))),(55,.v (.int .i64 an))],[(0,.box (Row.row ak)),(1,.box [.sl 1 (enc a6.g.af),.sl 1 (enc a6.g.aG),.sl 4 (enc a6.g.ae),.sl 4 (enc a6.g.aw),.mp 3,.mp 4,.mp 5,.v (.int .i64 a6.work),.v (.int .i64 a6.aB),.osl 6 4 (0) (a6.outs.length),.v (.int .i64 a6.e)]),(2,.arr 1 (enc b2)),(3,.con (p9 pp 103 0 (q00 a6.ins.1) (enc a6.ins.2) none) []),(4,.con (p9 pp 3 1 (q00 a6.aK.1) (enc a6.aK.2) none) []),(5,.con (p9 pp 103 2 (q00 a6.aJ.1) (enc a6.aJ.2) none) []),(6,.arr 4 (enc a6.outs))],7,86⟩:St)) (fun ((n_,an,a6):Nat×Int×a7)=>d9 (qq1 ak b2) n_ (an,a6)=some r) (fun p=>p.1) (rounds,0,T) [some 0,some 1,some 2,some 3,some 4,some 5,some 6] ?_ h ?_
  . simp only[go_sem,Le]<;>(repeat' apply Xd)<;>(try with_reducible refine q04 ?_)<;>first|omega|(simp[go_sem];done)
  rintro⟨e3,an,a6⟩ h _ d0
  dsimp only at h;replace h:=qc8 h;obtain⟨dM,rfl,h⟩:=h;rw[qq1]at h;refine sgW fun _ dN=>?_;refine wv ?_;simp only[go_sem];refine y8 dN ?_;refine sgW fun _ d1=>?_;refine q4m (b:=(decide (an<(b2.length:Int)))) (by (simp only[go_sem];done)) (fun b1=>?_) (fun b1=>?_)
  .
   replace h:=q1k h b1;simp only[bool_to_prop]at b1;refine wv ?_;refine y7 (y8 d1 ?_);refine sgW fun _ dO=>?_;refine qq2 fun _ dP=>?_;refine sgW fun _ dQ=>?_;refine wv ?_;obtain⟨d2,dR,h⟩:=w9 h;obtain⟨dS,dT,dU⟩:=q83 dR;simp only[go_sem,dS,dT,dU];refine Xd (by omega) ?_;refine y8 dQ ?_;refine wv ?_;obtain⟨bs,c4,h⟩:=w9 h;simp only[go_sem];refine q7h [1,3,4,5,6] (z0o a6 0 (ak.ae.length:Int) 0 (⟨1,(⟨d2,0,0,0⟩:cv Int)⟩:ay) bs c4) (by simp) rfl ⟨rfl,⟨rfl,⟨rfl,⟨rfl,⟨rfl,trivial⟩⟩⟩⟩⟩ rfl rfl rfl rfl ?_;simp only[go_sem];refine q08 dP (y8 dO ?_);refine wv ?_;simp only[go_sem];refine p8 d0 (⟨(dM,i64.wrap (an+1),bs.2),[some 0,some 1,some 2,some 3,some 4,some 5,some 7],?_,h,Nat.lt_succ_self _⟩);simp only[go_sem,Le]<;>(repeat' apply Xd)<;>(try with_reducible refine q04 ?_)<;>first|omega|(simp[go_sem];done)
  replace h:=q1l h b1;simp only[bool_to_prop]at b1;refine wv ?_;refine q0n (z07 d1 ?_);refine q0o d0 (q0h dL (p8 dJ (⟨a6,[some 1,some 3,some 4,some 5,some 6],?_,h⟩)));simp only[go_sem,Le]<;>(repeat' apply Xd)<;>(try with_reducible refine q04 ?_)<;>first|omega|(simp[go_sem];done)
 rintro Z h
 try dsimp only at h
 rw[qp9]at h;refine sgW fun _ Q8=>?_;refine sgW fun _ Q9=>?_;refine wv ?_;simp only[go_sem];refine y8 Q9 ?_;refine q4m (b:=(!(Z.e==0))) (by (simp only[go_sem];done)) (fun b4=>?_) (fun b4=>?_)
 .
  replace h:=q1k h b4;simp only[bool_to_prop]at b4;refine sgW fun _ dV=>?_;refine wv ?_;refine q07 ?_;refine k1d ?_;simp only[go_sem];refine y8 dV ?_;refine wv ?_;refine q03 (qz8 Q8 ?_);simp only[go_sem];obtain rfl:=Xa h;refine q2b [none] ?_;simp only[go_sem,Le]
 replace h:=q1l h b4;simp only[bool_to_prop]at b4;refine wv ?_;refine y7 (y8 Q8 ?_);refine sgW fun _ dW=>?_;refine wv ?_;obtain⟨dX,d3,h⟩:=w9 h;simp only[go_sem];refine q7h [4] (qt6 Z.outs (fun dY dZ=>q78 dY dZ) 27 [] (by rfl) (by kernel_rfl) (fun y0 y1 r_ e_=>zo8 y0 y1 r_ e_) dX d3) (by simp) rfl ⟨rfl,trivial⟩ rfl rfl rfl rfl ?_;obtain⟨e0,h⟩:=q06 h;simp only[go_sem,e0];refine y8 dW ?_;refine sgW fun _ e1=>?_;refine wv ?_;simp only[go_sem];refine y8 e1 ?_;refine wv ?_;refine q03 ?_;simp only[go_sem];obtain rfl:=Xa h;refine q2b [some 4] ?_;simp only[go_sem,Le]<;>(repeat' apply Xd)<;>((try with_reducible refine q04 ?_);omega)
instance zz6(T:aa)(G:List aN)(I:Int):Ct pp 8 (qo0 T G I) [.agg (Row.row T),.sl 4 (enc G),.v (.int .i64 I)] fun r=>(.tup [.sl 4 (enc r.1),.v (.int .i64 r.2)]):=⟨fun r h=>(z8c T G I r h).pure leA⟩
def q8z(Z:List aD)(a6:List aD)(W:Int->Option Bool):Int->Option Bool:=
 fun T=>
 (if (decide (T<(Z.length:Int)))=true then q9 (idx Z T) (fun G=>
 q9 (idx a6 T) (fun I=>
 (if (!((G.Node==I.Node)&&((G.aQ==I.aQ)&&((G.Rec.K==I.Rec.K)&&(G.Rec.V==I.Rec.V)))))=true then some false
 else W (i64.wrap (T+1)))))
 else some true)
def q8d(G:List aD)(I:List aD):Option Bool:=
 (if (!((G.length:Int)==(I.length:Int)))=true then some false
 else d9 (q8z G I) rounds 0)
instance z5x(G:List aD)(I:List aD):Ct pp 10 (q8d G I) [.sl 4 (enc G),.sl 4 (enc I)] fun r=>(.v (.bool r)):=ctK Tryz.func10 rfl (by rw[q8d]) (by
 intro r h F;refine sM ?_;refine sg fun _ W=>?_;refine sM ?_;refine sB h (fun _ h=>?_) fun _ h=>?_
 . exact au
 refine y7 (q8 W (jg fun _ Q5=>?_));refine sM ?_;refine z8 fun _ Q7=>?_;refine q0e h [0,1] (fun T=>([(5,.v (.int .i64 T))],[])) 0 ?_;rintro Z T h _ Q8;rw[q8z]at h;exact au)
def q8y(aj:b7)(a6:List aD)(T:Int×(List aD)->Option (List aD)):Int×(List aD)->Option (List aD):=
 fun (W,Z)=>
 (if (decide (W<(a6.length:Int)))=true then q9 (idx a6 W) (fun G=>
 q9 (idx aj.Now G.Node) (fun I=>
 u7 ((Z.length+Xh ([(⟨I,G.aQ,G.Rec⟩:aD)]:List aD))*32<=140737488355328) (
 T (i64.wrap (W+1),(Z++([(⟨I,G.aQ,G.Rec⟩:aD)]:List aD))))))
 else some Z)
def q8b(G:b7)(I:List aD):Option (List aD):=
 d9 (q8y G I) rounds (0,[])
theorem z5g(T:b7)(a6:List aD)(r:List aD)(h:q8b T a6=some r):ba pp 11 [.agg (Row.row T),.sl 4 (enc a6)] [] 0 (.osl 0 4 (0) (r.length)) [(0,.arr 4 (enc r))] 1:=by
 refine dtI Tryz.func11 rfl ?_;rw[q8b]at h;have F:=trivial;refine sM ?_;refine sM ?_;refine jg fun _ Q3=>?_;refine sM ?_;refine z8 fun _ Q5=>?_;refine q0e h [1,2] (fun x=>([(5,.osl 1 4 (0) (x.2.length)),(6,.v (.int .i64 x.1))],[(0,.box (Row.row T)),(1,.arr 4 (enc x.2))])) 2 ?_;rintro aq ⟨ar,W⟩ h _ Q6;rw[q8y]at h;refine sg fun _ Q7=>?_;refine sM ?_;refine sB h (fun _ h=>?_) fun _ h=>?_
 .
  refine y7 (q8 Q7 (sg fun _ Q9=>?_));refine z8 fun _ b1=>?_;refine sg fun _ an=>?_;obtain⟨G,F,h⟩:=bI F h;simp only[go_sem,F];refine ai ?_;refine q8 an (sg fun _ ao=>?_);obtain⟨I,F,h⟩:=bI F h;simp only[go_sem,F];refine ai ?_;refine q8 ao ?_;have aj:[[.v (.int .i64 I),.v (.int .i64 G.aQ),.v (.int .i64 G.Rec.K),.v (.int .i64 G.Rec.V)]]=enc ([(⟨I,G.aQ,G.Rec⟩:aD)]:List aD):=by rfl
  obtain⟨Z,h⟩:=q06 h;have F:=Xd F Z;simp only[Xf,Xg,Xi,Xe]at Z;have ak:enc W++[[.v (.int .i64 I),.v (.int .i64 G.aQ),.v (.int .i64 G.Rec.K),.v (.int .i64 G.Rec.V)]]=enc (W++([(⟨I,G.aQ,G.Rec⟩:aD)]:List aD)):=by exact (q2x W ([(⟨I,G.aQ,G.Rec⟩:aD)]:List aD)).symm
  simp only[go_sem,Z,ak];simp only[aj];exact au
 exact au
def q8c(a6:b7)(aj:List aN)(I:Int×(List aN)->Option (List aN)):Int×(List aN)->Option (List aN):=
 fun (W,T)=>
 (if (decide (W<(aj.length:Int)))=true then q9 (idx aj W) (fun G=>
 (if ((decide (0<=G.Node))&&(decide (G.Node<(a6.Now.length:Int))))=true then q9 (idx a6.Now G.Node) (fun Z=>
 u7 ((T.length+Xh ([(⟨Z,G.aQ,G.Rec⟩:aN)]:List aN))*32<=140737488355328) (
 I (i64.wrap (W+1),(T++([(⟨Z,G.aQ,G.Rec⟩:aN)]:List aN)))))
 else u7 ((T.length+Xh ([G]:List aN))*32<=140737488355328) (
 I (i64.wrap (W+1),(T++([G]:List aN))))))
 else some T)
def q5m(G:b7)(I:List aN):Option (List aN):=
 d9 (q8c G I) rounds (0,[])
theorem z3x(W:b7)(aj:List aN)(r:List aN)(h:q5m W aj=some r):ba pp 9 [.agg (Row.row W),.sl 4 (enc aj)] [] 0 (.osl 0 4 (0) (r.length)) [(0,.arr 4 (enc r))] 1:=by
 refine dtI Tryz.func9 rfl ?_;rw[q5m]at h;have F:=trivial;refine sM ?_;refine sM ?_;refine jg fun _ Q3=>?_;refine sM ?_;refine z8 fun _ Q5=>?_;refine q0e h [1,2] (fun x=>([(5,.osl 1 4 (0) (x.2.length)),(6,.v (.int .i64 x.1))],[(0,.box (Row.row W)),(1,.arr 4 (enc x.2))])) 2 ?_;rintro b2 ⟨b3,T⟩ h _ Q6;rw[q8c]at h;refine sg fun _ Q7=>?_;refine sM ?_;refine sB h (fun _ h=>?_) fun _ h=>?_
 .
  refine y7 (q8 Q7 (jg fun _ Q9=>?_));refine z8 fun _ b4=>?_;refine sg fun _ b1=>?_;obtain⟨G,F,h⟩:=bI F h;simp only[go_sem,F];refine ai ?_;refine q8 b1 (jg fun _ ak=>?_);refine sM ?_;refine sB h (fun _ h=>?_) fun _ h=>?_
  .
   obtain⟨I,F,h⟩:=bI F h;simp only[go_sem,F];refine ai ?_;refine q8 ak ?_;have an:[[.v (.int .i64 I),.v (.int .i64 G.aQ),.v (.int .i64 G.Rec.K),.v (.int .i64 G.Rec.V)]]=enc ([(⟨I,G.aQ,G.Rec⟩:aN)]:List aN):=by rfl
   obtain⟨Z,h⟩:=q06 h;have F:=Xd F Z;simp only[Xf,Xg,Xi,Xe]at Z;have ao:enc T++[[.v (.int .i64 I),.v (.int .i64 G.aQ),.v (.int .i64 G.Rec.K),.v (.int .i64 G.Rec.V)]]=enc (T++([(⟨I,G.aQ,G.Rec⟩:aN)]:List aN)):=by exact (q2x T ([(⟨I,G.aQ,G.Rec⟩:aN)]:List aN)).symm
   simp only[go_sem,Z,ao];simp only[an];exact au
  refine y7 (q8 ak ?_);have aq:[[.v (.int .i64 G.Node),.v (.int .i64 G.aQ),.v (.int .i64 G.Rec.K),.v (.int .i64 G.Rec.V)]]=enc ([G]:List aN):=by rfl
  obtain⟨a6,h⟩:=q06 h;have F:=Xd F a6;simp only[Xf,Xg,Xi,Xe]at a6;have ar:enc T++[[.v (.int .i64 G.Node),.v (.int .i64 G.aQ),.v (.int .i64 G.Rec.K),.v (.int .i64 G.Rec.V)]]=enc (T++([G]:List aN)):=by exact (q2x T ([G]:List aN)).symm
  simp only[go_sem,a6,ar];simp only[aq];exact au
 exact au
instance z5h(G:b7)(I:List aN):Ct pp 9 (q5m G I) [.agg (Row.row G),.sl 4 (enc I)] fun r=>(.sl 4 (enc r)):=⟨fun r h=>(z3x G I r h).pure leA⟩
def q5h(T:aa)(I:List aN)(G:Int):Option Bool:=
 q9 (qb1) (fun aj=>
 (if (!aj)=true then some false
 else q9 (q7t T) (fun ak=>
 (if ((((!ak)||(decide (40<(I.length:Int))))||(decide (G<0)))||(decide (2000<G)))=true then some true
 else q9 (q7s T) (fun an=>
 (if (!(an.1==0))=true then some true
 else q9 (qq7 T) (fun W=>
 q9 (qo0 T I G) (fun Z=>
 (if (!(Z.2==0))=true then some true
 else q9 (q5m W.1 I) (fun ao=>
 q9 (qo0 W.1.bh ao G) (fun a6=>
 (if (a6.2==0)=true then q9 (q8b W.1 Z.1) (fun aq=>
 q9 (q8d aq a6.1) (fun ar=>
 some ar))
 else some false))))))))))))
instance z1z(Z:aa)(G:List aN)(I:Int):Ct pp 3 (q5h Z G I) [.agg (Row.row Z),.sl 4 (enc G),.v (.int .i64 I)] fun r=>(.v (.bool r)):=ctK Tryz.func3 rfl (by rw[q5h]) (by
 intro r h F;refine sM ?_;refine sg fun _ Q2=>?_;refine sg fun _ Q3=>?_;simp only[go_sem];refine q4n h fun ao h=>?_;simp only[go_sem];refine q8 Q3 (sB h (fun _ h=>?_) fun _ h=>?_)
 . exact au
 refine y7 (q8 Q2 (sg fun _ Q5=>?_));refine sg fun _ Q6=>?_;simp only[go_sem];refine q4n h fun aj h=>?_;simp only[go_sem];refine q8 Q6 (sB h (fun _ h=>?_) fun _ h=>?_)
 . exact au
 refine y7 (q8 Q5 (sg fun _ Q8=>?_));refine sg fun _ Q9=>?_;simp only[go_sem];refine q4n h fun a6 h=>?_;simp only[go_sem];refine q8 Q9 (sM ?_);refine sB h (fun _ h=>?_) fun _ h=>?_
 . exact au
 refine y7 (q8 Q8 (sg fun _ bi=>?_));obtain⟨T,aq,h⟩:=w9 h;simp only[go_sem];refine q18 [] (z6o Z T aq) ?_;simp only[go_sem];refine q8 bi (sg fun _ bs=>?_);obtain⟨W,ar,h⟩:=w9 h;simp only[go_sem];refine q18 [] (z8c Z G I W ar) ?_;simp only[go_sem];refine q8 bs (sg fun _ bv=>?_);refine sM ?_;refine sB h (fun _ h=>?_) fun _ h=>?_
 . exact au
 refine y7 (q8 bv (sg fun _ c0=>?_));refine q07 ?_;refine zp4 (s':=(⟨0,[(0,.agg (Row.row Z)),(1,.sl 4 (enc G)),(2,.v (.int .i64 I)),(3,.ptr 0 0),(6,.v (.bool false)),(7,.v (.int .i64 a6.1)),(8,.v (.int .i64 a6.2)),(9,.ptr 1 0),(10,.v (.int .i64 T.2)),(11,.osl 2 4 (0) (W.1.length)),(12,.v (.int .i64 W.2)),(15,.v (.bool ao)),(16,.v (.bool (!ao))),(17,.agg (Row.row Z)),(18,.v (.bool aj)),(19,.v (.bool (!aj))),(20,.v (.bool (!aj))),(24,.v (.bool ((!aj)||(decide (40<(G.length:Int)))))),(25,.v (.bool ((!aj)||(decide (40<(G.length:Int)))))),(28,.v (.bool (((!aj)||(decide (40<(G.length:Int))))||(decide (I<0))))),(29,.v (.bool (((!aj)||(decide (40<(G.length:Int))))||(decide (I<0))))),(32,.v (.bool ((((!aj)||(decide (40<(G.length:Int))))||(decide (I<0)))||(decide (2000<I))))),(33,.tup [.v (.int .i64 a6.1),.v (.int .i64 a6.2)]),(34,.agg (Row.row Z)),(35,.tup [.v (.int .i64 a6.1),.v (.int .i64 a6.2)]),(36,.v (.int .i64 a6.1)),(37,.v (.int .i64 a6.2)),(38,.v (.int .i64 a6.1)),(39,.v (.bool (!(a6.1==0)))),(40,.tup [.agg (Row.row T.1),.v (.int .i64 T.2)]),(41,.agg (Row.row Z)),(42,.tup [.agg (Row.row T.1),.v (.int .i64 T.2)]),(43,.agg (Row.row T.1)),(44,.v (.int .i64 T.2)),(45,.tup [.osl 2 4 (0) (W.1.length),.v (.int .i64 W.2)]),(46,.agg (Row.row Z)),(47,.sl 4 (enc G)),(48,.v (.int .i64 I)),(49,.tup [.osl 2 4 (0) (W.1.length),.v (.int .i64 W.2)]),(50,.osl 2 4 (0) (W.1.length)),(51,.v (.int .i64 W.2)),(52,.v (.int .i64 W.2)),(53,.v (.bool (!(W.2==0))))],[(0,.box (Row.row Z)),(1,.box (Row.row T.1)),(2,.arr 4 (enc W.1))],3,73⟩:St)) (l:=[some 0,some 4,some 5]) ?_ ?_
 . exact leA
 refine k1d ?_;obtain⟨b1,b2,h⟩:=w9 h;simp only[go_sem];refine br (fun _=>(z5h T.1 G b1 b2)) (by rfl) (by rfl) ?_;obtain⟨an,b3,h⟩:=w9 h;simp only[go_sem];refine br (fun _=>(zz6 T.1.bh b1 I an b3)) (by rfl) (by rfl) ?_;simp only[go_sem];refine q8 c0 (sg fun _ c2=>?_);simp only[go_sem];rcases ak:(an.2==0)with _|_
 . replace h:=q1l h ak;simp only[go_sem,ak];exact au
 replace h:=q1k h ak;obtain⟨b4,b5,h⟩:=w9 h;simp only[go_sem,ak];refine qm5 [6,13,66] ([],[(0,.box (Row.row Z)),(1,.box (Row.row T.1))]) 2 [some 0,some 1] [.agg (Row.row T.1),.sl 4 (enc W.1)] ?_;refine q18 [] (z5g T.1 W.1 b4 b5) ?_;obtain⟨c1,b6,h⟩:=w9 h;simp only[go_sem];refine z1c (z5x b4 an.1 c1 b6) ?_;simp only[go_sem];exact au)
end Go.Proofs.YtomicnbiniapfaaGreat

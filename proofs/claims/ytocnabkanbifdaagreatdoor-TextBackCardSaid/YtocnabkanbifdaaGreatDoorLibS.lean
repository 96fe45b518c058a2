/-
  What the library of Go does to strings and to builders, told by the kit's contracts and by walks of our own; statements that list package variables. No condition beyond those that each theorem names.
-/
import Derived.Test.YtocnabkanbifdaaGreatDoorLibD
import Derived.Shelf.Strconv.Itoa4
import Derived.Shelf.Strconv.ErrVarParseInt
import Derived.Shelf.Strings.Split
import Derived.Shelf.Strings.FieldsFuncGrows
import Derived.Shelf.Strings.Builder1
import Derived.Lib.MakeNoZero
import Derived.Shelf.Strings.Fields
import Derived.Test.YtocnabkanbifdaaGreatDoorLibC
import Derived.LaidMore
import Derived.Lay
import Derived.Stop.LaidErr
import Derived.Lib.LaidTab
import Derived.MakeChecks
import Derived.ProofKit
import Derived.SizedLaws
set_option linter.unusedSimpArgs false
set_option linter.unusedVariables false
set_option linter.unusedSectionVars false
namespace Go.Proofs.YtocnabkanbifdaaGreatDoor
open Go Go.RowKit Go.Shelf Go.Lib Go.Sort
/-! What the library of Go does to strings, told by the kit's contracts. -/
theorem dk_no {p : Prop} (h : dkF = true) : p := by cases h
def strOf (b : ByteArray) : GStr := ⟨b.data.toList⟩
/-- A function of plain values that makes a value and leaves what there was. -/
theorem pure_of {P : Program} {f : FuncId} (ent : entB P f = true) {args : List AV} {r : AV}
  (h : ∀ (w : World) (us : List Value) (A : Nat → Prop), (∀ b, A b → b < w.heap.size) → repL w noG 0 A args us → GLW P w →
   Calls P f ⟨us⟩ w fun e w' => ∃ v, e = .returned v ∧ Below w.heap.size w w' ∧ ∀ β (ow : Nat → Prop), (∀ b, w.heap.size ≤ b → ¬ ow b) → rep w' β 0 ow r v) (hf : idFreeL args = true) : PureS P f args 0 r := by
 intro w β A us hA hargs hhp hgs
 rw [own_nil] at hargs
 refine CallsE.of ent ((h w us A hA (repL_free _ _ hf hargs) hgs.gl).mono ?_)
 rintro e w' ⟨v, rfl, hb, hr⟩
 refine ⟨v, r, [], 0, β, rfl, ⟨rfl, rfl, rfl⟩, ?_, HpRel.nil, { nx := Nat.le_refl _, gh := fun _ _ => rfl, gi := fun _ _ _ => rfl, ids := fun p hp => (by cases hp), blk := fun p hp => (by cases hp), os := hb.os, tape := hb.tape, output := ⟨hb.output, fun k => dk_no k⟩, size := hb.size, keep := fun b hlt _ => hb.block b hlt }⟩
 rw [own_nil]
 exact hr β A fun b hge hab => absurd (hA b hab) (by omega)
theorem repRows_strs {w : World} {β : Ghost} {ow : Nat → Prop} {b : Nat} : ∀ (l : List ByteArray) (o : Nat), (∀ j x, l[j]? = some x → w.cell? ⟨b, o + j, none⟩ = some (.string x)) → repRows w β ow 1 b (enc (l.map strOf)) o
 | [], _, _ => by simp only [List.map_nil, enc_nil, repRows]
 | x :: l, o, h => by
  have h0 := h 0 x rfl
  have := repRows_strs (β := β) (ow := ow) l (o + 1) fun j y hy => by
   have := h (j + 1) y hy
   rwa [show o + (j + 1) = o + 1 + j by omega] at this
  simp only [List.map_cons, enc, row_str, repRows, repRow, List.length_cons, List.length_nil, rep] at this ⊢
  exact ⟨trivial, ⟨⟨_, h0, rfl, rfl⟩, trivial⟩, this⟩
theorem glw_var {P : Program} {w : World} (h : GLW P w) {n : String} {p : List Value → Prop} (hm : (n, p) ∈ glTab) (hn : (P.globalNamed n).isSome = true) : ∃ cs, w.var? P n = some cs ∧ p cs.toList := by
 obtain ⟨g, hg⟩ := Option.isSome_iff_exists.1 hn
 obtain ⟨cs, e, z, h1, h2⟩ := h _ hm g hg
 exact ⟨cs, by simp only [World.var?, hg, Option.bind_some, h1], h2⟩
theorem glw_tab {P : Program} {w : World} (h : GLW P w) (hn : (P.globalNamed "internal/strconv.uint64pow10").isSome = true) : Lib.TabIs P w "internal/strconv.uint64pow10" .u64 Lib.pow10Tab := by
 obtain ⟨cs, h1, h2⟩ := glw_var h (.head _) hn
 unfold Lib.TabIs
 rw [h1, ← Array.toArray_toList (xs := cs), h2]
 rfl
theorem below_grow {w : World} (k : Nat) (os : Array Obj) : Below w.heap.size w (grow (w.drewN k) os) :=
 ⟨rfl, rfl, rfl, by simp [grow, World.drewN], fun b hb => by simp only [grow, World.drewN]; exact Array.getElem?_append_left hb⟩
/-- The digits of a number. -/
def itoaF (n : Int) : Option (List UInt8) := guardO (-9223372036854775808 ≤ n ∧ n ≤ 9223372036854775807) (some (Lib.itoa n))
def fmtF (n b : Int) : Option (List UInt8) := guardO (b = 10) (itoaF n)
variable {P : Program} {ρ : Ren}
theorem itoa_pure (L : LaysM.n171 P ρ) (ent : entB P (ρ.f 171) = true) (hn : (P.globalNamed "internal/strconv.uint64pow10").isSome = true) {n : Int} {r : List UInt8} (h : itoaF n = some r) :
  PureS P (ρ.f 171) [.v (.int .i64 n)] 0 (.v (.string ⟨⟨r⟩⟩)) := by
 unfold itoaF at h
 have h' := guardO_some h
 clear h
 obtain ⟨⟨h0, h1⟩, h⟩ := h'
 simp only [Option.some.injEq] at h
 subst h
 refine pure_of ent (fun w us A hA ha hg => ?_) rfl
 obtain rfl := repL_vs [_] us ha
 refine (Any.strconv_Itoa L n h0 h1 w (glw_tab hg hn)).mono ?_
 rintro e w' ⟨rfl, k, os, rfl⟩
 exact ⟨_, rfl, below_grow k os, fun _ _ _ => by simp only [rep]⟩
theorem fmt_pure (L : LaysM.n173 P ρ) (ent : entB P (ρ.f 173) = true) (hn : (P.globalNamed "internal/strconv.uint64pow10").isSome = true) {n b : Int} {r : List UInt8} (h : fmtF n b = some r) :
  PureS P (ρ.f 173) [.v (.int .i64 n), .v (.int .i64 b)] 0 (.v (.string ⟨⟨r⟩⟩)) := by
 unfold fmtF at h
 have h2 := guardO_some h
 clear h
 obtain ⟨rfl, h3⟩ := h2
 unfold itoaF at h3
 have h' := guardO_some h3
 clear h3
 obtain ⟨⟨h0, h1⟩, h⟩ := h'
 simp only [Option.some.injEq] at h
 subst h
 refine pure_of ent (fun w us A hA ha hg => ?_) rfl
 obtain rfl := repL_vs [_, _] us ha
 refine (Any.strconv_FormatInt_10 L n h0 h1 w (glw_tab hg hn)).mono ?_
 rintro e w' ⟨rfl, k, os, rfl⟩
 exact ⟨_, rfl, below_grow k os, fun _ _ _ => by simp only [rep]⟩
/-- A number of its digits; false: there is an error. -/
def parseF (s : List UInt8) (b k : Int) : Option (Int × Bool) := guardO (b = 10 ∧ k = 64 ∧ s.length ≤ 281474976710656) (some (match Lib.parseIntB 64 s with
 | .ok v => (v, true)
 | .range => (Lib.intSat 64 s, false)
 | _ => (0, false)))
theorem parse_pure (L : LaysC.n174 P ρ) (ent : entB P (ρ.f 174) = true) (h1 : (P.globalNamed "strconv.ErrSyntax").isSome = true) (h2 : (P.globalNamed "strconv.ErrRange").isSome = true) {s : List UInt8} {b k : Int} {r : Int × Bool} (h : parseF s b k = some r) :
  PureS P (ρ.f 174) [.v (.string ⟨⟨s⟩⟩), .v (.int .i64 b), .v (.int .i64 k)] 0 (.tup [.v (.int .i64 r.1), .erb r.2]) := by
 unfold parseF at h
 have h' := guardO_some h
 clear h
 obtain ⟨⟨rfl, rfl, hl⟩, h⟩ := h'
 simp only [Option.some.injEq] at h
 subst h
 refine pure_of ent (fun w us A hA ha hg => ?_) rfl
 obtain rfl := repL_vs [_, _, _] us ha
 obtain ⟨c1, v1, t1, p1, e1⟩ := glw_var hg (n := "strconv.ErrSyntax") (.tail _ (.head _)) h1
 obtain ⟨c2, v2, t2, p2, e2⟩ := glw_var hg (n := "strconv.ErrRange") (.tail _ (.tail _ (.head _))) h2
 have e1' : c1 = #[.iface t1 p1] := by rw [← Array.toArray_toList (xs := c1), e1]
 have e2' : c2 = #[.iface t2 p2] := by rw [← Array.toArray_toList (xs := c2), e2]
 subst e1' e2'
 have hs : ByteArray.size ⟨⟨s⟩⟩ = s.length := rfl
 rcases hp : Lib.parseIntB 64 s with v | _ | _
 ·
  refine (Any.strconv_ParseInt_10_at64_ok L ⟨⟨s⟩⟩ (by rw [hs]; omega) v hp w).mono ?_
  rintro e w' ⟨rfl, hw⟩
  refine ⟨_, rfl, ?_, fun _ _ _ => by simp only [rep]; exact ⟨_, rfl, by simp [repL, rep]⟩⟩
  rcases hw with rfl | ⟨t, rfl⟩
  · exact Below.refl _ _
  · exact bytesWorld_below w _ t
 ·
  refine (Any.strconv_ParseInt_10_at64_syntax_var L ⟨⟨s⟩⟩ (by rw [hs]; omega) hp t1 p1 w v1).mono ?_
  rintro e w' ⟨N, rfl, _, _, hb⟩
  exact ⟨_, rfl, hb, fun _ _ _ => by simp only [rep]; exact ⟨_, rfl, by simp [repL, rep]⟩⟩
 ·
  refine (Any.strconv_ParseInt_10_at64_range_var L ⟨⟨s⟩⟩ (by rw [hs]; omega) hp t2 p2 w v2).mono ?_
  rintro e w' ⟨N, rfl, _, _, hb⟩
  exact ⟨_, rfl, hb, fun _ _ _ => by simp only [rep]; exact ⟨_, rfl, by simp [repL, rep]⟩⟩
/-- A string in parts. -/
def splitF (s sep : List UInt8) : Option (List GStr) := guardO (s.length < 4294967281 ∧ 1 ≤ sep.length) (some ((Lib.splitB ⟨⟨sep⟩⟩ 0 (Lib.countB ⟨⟨s⟩⟩ ⟨⟨sep⟩⟩) ⟨⟨s⟩⟩).map strOf))
theorem split_pure (L : Lays.n146 P ρ) (hi9 : (P.info? (ρ.t 9)).map (fun i => (i.zero, i.size, i.bytes)) = some (some (.string ByteArray.empty), 1, 16)) (ent : entB P (ρ.f 146) = true) (hg1 : P.globalNamed "internal/bytealg.MaxLen" = some (ρ.g 1)) {s sep : List UInt8} {r : List GStr} (h : splitF s sep = some r) :
  PureS P (ρ.f 146) [.v (.string ⟨⟨s⟩⟩), .v (.string ⟨⟨sep⟩⟩)] 0 (.sl 1 (enc r)) := by
 unfold splitF at h
 have h' := guardO_some h
 clear h
 obtain ⟨⟨hs, h1⟩, h⟩ := h'
 simp only [Option.some.injEq] at h
 subst h
 refine pure_of ent (fun w us A hA ha hg => ?_) rfl
 obtain rfl := repL_vs [_, _] us ha
 obtain ⟨cs, v1, m, e1⟩ := glw_var hg (n := "internal/bytealg.MaxLen") (.tail _ (.tail _ (.tail _ (.head _)))) (by rw [hg1]; rfl)
 have e1' : cs = #[.int .i64 m] := by rw [← Array.toArray_toList (xs := cs), e1]
 subst e1'
 have hm := World.var?_cell hg1 v1 0
 refine (Any.strings_Split L hi9 ⟨⟨s⟩⟩ ⟨⟨sep⟩⟩ m w hs hm h1).mono ?_
 rintro e w' ⟨rfl, rfl⟩
 have hlen := Lib.splitB_all (⟨⟨sep⟩⟩ : ByteArray) h1 0 _ ⟨⟨s⟩⟩ rfl
 refine ⟨_, rfl, ?_, fun β ow how => ?_⟩
 · exact (Below.refl _ w).alloc (Nat.le_refl _) _
 ·
  simp only [rep]
  refine .inr ⟨w.heap.size, 0, _, by rw [enc_len, List.length_map, hlen], by rw [enc_len, List.length_map, hlen]; exact Nat.le_refl _, how _ (Nat.le_refl _), by show w.heap.size < (w.heap.push _).size; simp, repRows_strs _ _ fun j x hx => ?_⟩
  rw [Nat.zero_add]
  have : (w.alloc (.cells ((Lib.splitB ⟨⟨sep⟩⟩ 0 (Lib.countB ⟨⟨s⟩⟩ ⟨⟨sep⟩⟩) ⟨⟨s⟩⟩).map Value.string).toArray (ρ.t 9))).heap[w.heap.size]? = some (.cells ((Lib.splitB ⟨⟨sep⟩⟩ 0 (Lib.countB ⟨⟨s⟩⟩ ⟨⟨sep⟩⟩) ⟨⟨s⟩⟩).map Value.string).toArray (ρ.t 9)) := by
   show (w.heap.push _)[w.heap.size]? = _
   simp
  unfold World.cell?
  simp only [Option.isSome_none, Bool.false_eq_true, if_false, this]
  simp [hx]
/-- The fields of a string between what a test lets go. -/
noncomputable def fieldsF (s : List UInt8) (p : Int → Option Bool) : Option (List GStr) := by
 classical exact guardO (s.length ≤ 4294967296 ∧ ∀ x : Nat, x ≤ 1114111 → (p x).isSome = true) (some ((Lib.goFieldsP (fun x => (p x).getD false) ⟨⟨s⟩⟩).map strOf))
theorem fields_pure (L : Lays.n229 P ρ) (hi154 : (P.info? (ρ.t 154)).map (fun i => (i.zero, i.size, i.bytes)) = some (some (.agg #[.int .i64 0, .int .i64 0]), 2, 16))
  (hi9 : (P.info? (ρ.t 9)).map (fun i => (i.zero, i.size, i.bytes)) = some (some (.string ⟨#[]⟩), 1, 16)) (ent : entB P (ρ.f 229) = true) {g : FuncId} {c : List AV} (hc : idFreeL c = true) (eg : entB P g = true) {p : Int → Option Bool}
  (hp : ∀ x r, p x = some r → PureS P g ([.v (.int .i32 x)] ++ c) 0 (.v (.bool r))) {s : List UInt8} {r : List GStr} (h : fieldsF s p = some r) :
  PureS P (ρ.f 229) [.v (.string ⟨⟨s⟩⟩), .clo g c] 0 (.sl 1 (enc r)) := by
 unfold fieldsF at h
 have h' := guardO_some h
 clear h
 obtain ⟨⟨hs, hall⟩, h⟩ := h'
 simp only [Option.some.injEq] at h
 subst h
 refine pure_of ent (fun w us A hA ha hg => ?_) (by simp [idFreeL, idFree, hc])
 match us, ha with
 | [u1, u2], ha =>
 simp only [repL, rep, and_true] at ha
 obtain ⟨rfl, cs, rfl, hcs⟩ := ha
 have hpg : PredGrows P g ⟨cs⟩ (fun x => (p x).getD false) w := fun W x hx hb => by
  obtain ⟨v, hv⟩ := Option.isSome_iff_exists.1 (hall x hx)
  have hgW : GLW P W := fun q hq g' hg' => by
   obtain ⟨cs', e', z', h1', h2'⟩ := hg q hq g' hg'
   exact ⟨cs', e', z', (hb.block g' (hg.lt hq hg')).trans h1', h2'⟩
  have h1 := hp x v hv W noG A ([.int .i32 x] ++ cs) (fun b hb' => Nat.lt_of_lt_of_le (hA b hb') hb.size) (by
   rw [own_nil]
   simp only [List.cons_append, List.nil_append, repL, rep, true_and]
   exact repL_mono ⟨hb.size, fun b hn hlt => ⟨hb.block b hlt, hn⟩⟩ 0 0 (Nat.le_refl _) (fun _ h => absurd h (Nat.not_lt_zero _)) _ _ hcs) HpRel.nil ⟨hgW, fun _ _ _ _ ⟨_, h, _⟩ => by cases h⟩
  have he : (#[encR x] ++ (⟨cs⟩ : Array Value)) = ⟨[.int .i32 x] ++ cs⟩ := by simp [encR]
  rw [he]
  refine (h1.1 eg).mono ?_
  rintro e w' ⟨v', r, hp', nx', β', rfl, ⟨rfl, rfl, rfl⟩, hr, _, hext⟩
  simp only [rep] at hr
  exact ⟨by subst hr; simp [hv], hext.os, hext.tape, hext.output.1, hext.size, fun k hk => hext.keep k hk (by rintro ⟨q, hq, _⟩; cases hq)⟩
 refine (Any.strings_FieldsFunc_grows L g ⟨cs⟩ (fun args w => run_enter eg) (fun x => (p x).getD false) ⟨⟨s⟩⟩ w hs hpg hi154 hi9).mono ?_
 rintro e w' ⟨B, rfl, hB, hown, hb⟩
 refine ⟨_, rfl, hb, fun β ow how => ?_⟩
 simp only [rep]
 obtain ⟨hl, ⟨hv, h0⟩ | ⟨g', cap, cur, hv, hg', hheap, hcap, _, hcur, hcell⟩⟩ := hown
 · cases hv
 ·
  cases hv
  refine .inr ⟨_, 0, _, by rw [enc_len, List.length_map], by rw [enc_len, List.length_map]; exact hcap, how _ hg', (Array.getElem?_eq_some_iff.1 hheap).1, repRows_strs _ _ fun j x hx => ?_⟩
  rw [Nat.zero_add]
  unfold World.cell?
  simp only [Option.isSome_none, Bool.false_eq_true, if_false, hheap]
  have e1 := congrArg (·[j]?) hcell
  simp only [List.getElem?_map, hx, Option.map_some, List.getElem?_take] at e1
  split at e1
  · rw [← Array.getElem?_toList]; exact e1
  · cases e1
end Go.Proofs.YtocnabkanbifdaaGreatDoor

namespace Go.Proofs.YtocnabkanbifdaaGreatDoor
open Go Go.RowKit Go.Shelf Go.Lib
set_option linter.unusedVariables false
variable {P : Program} {ρ : Ren}
set_option maxHeartbeats 2000000 in
set_option maxRecDepth 100000 in
/-- What a builder's bytes are, with all that turns. -/
theorem bld_string (L : Lays.n169 P ρ) (X : Builder.Extra P ρ) (b g cap : Nat) (cur : Array Value) (l : List UInt8) (w : World) (h0 : l ≠ []) (hb : w.cell? ⟨b, 1, none⟩ = some (.slice (some ⟨g, 0, none⟩) l.length cap))
  (hg : w.heap[g]? = some (.cells cur (ρ.t 5) (0, 0))) (hl : l.length ≤ cap) (hc : cap ≤ cur.size) (hm : cap ≤ maxLen) (hcell : ∀ (j : Nat) x, l[j]? = some x → cur[j]? = some (.int .u8 x.toNat)) :
  Calls P (ρ.f 169) #[.pointer (some ⟨b, 0, none⟩)] w fun e w' => e = .returned (.string ⟨l.toArray⟩) ∧ w' = w.drew.freeze ⟨g, 0, none⟩ l.length := by
 have hl0 : l.length ≠ 0 := by simpa using h0
 have hg' : w.drew.heap[g]? = some (.cells cur (ρ.t 5) (0, 0)) := hg
 have c1 : w.drew.cell? ⟨b, 1, none⟩ = some (.slice (some ⟨g, 0, none⟩) l.length cap) := hb
 have hSD : (Builtin.unsafeSliceData_ #[(ρ.t 37)] (ρ.t 127) #[.slice (some ⟨g, 0, none⟩) l.length cap]).run P w.drew = .ok (.pointer (some ⟨g, 0, none⟩)) w.drew :=
  Lib.run_unsafeSliceData_row _ _ _ _ _ _ (by omega)
 have hUS : (Builtin.unsafeString_ #[(ρ.t 127), (ρ.t 3)] (ρ.t 9) #[.pointer (some ⟨g, 0, none⟩), .int .i64 l.length]).run P w.drew = .ok (.string ⟨l.toArray⟩) (w.drew.freeze ⟨g, 0, none⟩ l.length) := by
  refine Lib.run_unsafeString_row w.drew (ρ.t 127) (ρ.t 3) (ρ.t 9) (ρ.t 5) L.t127 X.cellsByte g cur.size (by simp [World.shape?, hg']) l h0 (by omega) (by unfold maxLen at hm; omega) ?_
  intro j x hx
  have : ((⟨g, 0, none⟩ : Addr).add j) = ⟨g, j, none⟩ := by
   unfold Addr.add
   split
   · rename_i h; subst h; rfl
   · simp
  rw [this, Lib.cell_of_heap hg']
  exact hcell j x hx
 have mixed := L.mixed
 have t72 := L.t72; have a72 := L.a72; have z72 := L.z72; have v72 := L.v72; have u72 := run_underlying L.t72
 have t70 := L.t70; have a70 := L.a70; have z70 := L.z70; have v70 := L.v70; have u70 := run_underlying L.t70
 have t37 := L.t37; have a37 := L.a37; have z37 := L.z37; have v37 := L.v37; have u37 := run_underlying L.t37
 have t127 := L.t127; have a127 := L.a127; have z127 := L.z127; have v127 := L.v127; have u127 := run_underlying L.t127
 have t3 := L.t3; have a3 := L.a3; have z3 := L.z3; have v3 := L.v3; have u3 := run_underlying L.t3
 have t9 := L.t9; have a9 := L.a9; have z9 := L.z9; have v9 := L.v9; have u9 := run_underlying L.t9
 go_enter L.f169, Body.n169_ntmps ρ
 go_wp2
 go_region_o
 all_goals (go_wp2; go_ret; exact ⟨rfl, rfl⟩)
theorem wpList_app1 {ops : Array Oper} {rest : List Oper} {o : Oper} {a : Act} {Q : Exit → Act → World → Prop} {w w' : World} (hgd : o.guard = none) (sl x : Operand) (t u : TypeId)
  (ho : o.op = .call { callee := .builtin .append, args := #[sl, x], argTypes := #[t, u] }) {v y v' : Value} (hs : a.eval sl = v) (hx : a.eval x = y)
  (hr : (Builtin.append_ #[t, u] o.type #[v, y]).run P w = .ok v' w') (h : wpList P ops Q rest (a.put o.dst v') w') : wpList P ops Q (o :: rest) a w := by
 refine wpList_plain hgd fun K hK => ?_
 unfold Oper.wp execOp
 simp only [ho, resolve, invoke, builtin, Sem.run_bind, Sem.run_pure, Result.andThen_ok, List.map_toArray, List.map_cons, List.map_nil, hs, hx, hr]
 exact hK _ _ h
set_option maxHeartbeats 2000000 in
set_option maxRecDepth 100000 in
theorem bld_string_nil (L : Lays.n169 P ρ) (X : Builder.Extra P ρ) (b : Nat) (w : World) (hb : w.cell? ⟨b, 1, none⟩ = some (.slice none 0 0)) :
  Calls P (ρ.f 169) #[.pointer (some ⟨b, 0, none⟩)] w fun e w' => e = .returned (.string ⟨#[]⟩) ∧ w' = w.drew := by
 have c1 : w.drew.cell? ⟨b, 1, none⟩ = some (.slice none 0 0) := hb
 have hSD : (Builtin.unsafeSliceData_ #[(ρ.t 37)] (ρ.t 127) #[.slice none 0 0]).run P w.drew = .ok (.pointer none) w.drew := rfl
 have hUS : (Builtin.unsafeString_ #[(ρ.t 127), (ρ.t 3)] (ρ.t 9) #[.pointer none, .int .i64 0]).run P w.drew = .ok (.string ⟨#[]⟩) w.drew := rfl
 have mixed := L.mixed
 have t72 := L.t72; have a72 := L.a72; have z72 := L.z72; have v72 := L.v72; have u72 := run_underlying L.t72
 have t70 := L.t70; have a70 := L.a70; have z70 := L.z70; have v70 := L.v70; have u70 := run_underlying L.t70
 have t37 := L.t37; have a37 := L.a37; have z37 := L.z37; have v37 := L.v37; have u37 := run_underlying L.t37
 have t127 := L.t127; have a127 := L.a127; have z127 := L.z127; have v127 := L.v127; have u127 := run_underlying L.t127
 have t3 := L.t3; have a3 := L.a3; have z3 := L.z3; have v3 := L.v3; have u3 := run_underlying L.t3
 have t9 := L.t9; have a9 := L.a9; have z9 := L.z9; have v9 := L.v9; have u9 := run_underlying L.t9
 go_enter L.f169, Body.n169_ntmps ρ
 go_wp2
 go_region_o
 all_goals (go_wp2; go_ret; exact ⟨rfl, rfl⟩)
set_option maxHeartbeats 2000000 in
set_option maxRecDepth 100000 in
theorem bld_string_zero (L : Lays.n169 P ρ) (X : Builder.Extra P ρ) (b g cap : Nat) (w : World) (hb : w.cell? ⟨b, 1, none⟩ = some (.slice (some ⟨g, 0, none⟩) 0 cap)) (h0 : 0 < cap) :
  Calls P (ρ.f 169) #[.pointer (some ⟨b, 0, none⟩)] w fun e w' => e = .returned (.string ⟨#[]⟩) ∧ w' = w.drew := by
 have c1 : w.drew.cell? ⟨b, 1, none⟩ = some (.slice (some ⟨g, 0, none⟩) 0 cap) := hb
 have hSD : (Builtin.unsafeSliceData_ #[(ρ.t 37)] (ρ.t 127) #[.slice (some ⟨g, 0, none⟩) 0 cap]).run P w.drew = .ok (.pointer (some ⟨g, 0, none⟩)) w.drew :=
  Lib.run_unsafeSliceData_row _ _ _ _ _ _ (by omega)
 have hUS : (Builtin.unsafeString_ #[(ρ.t 127), (ρ.t 3)] (ρ.t 9) #[.pointer (some ⟨g, 0, none⟩), .int .i64 0]).run P w.drew = .ok (.string ⟨#[]⟩) w.drew := rfl
 have mixed := L.mixed
 have t72 := L.t72; have a72 := L.a72; have z72 := L.z72; have v72 := L.v72; have u72 := run_underlying L.t72
 have t70 := L.t70; have a70 := L.a70; have z70 := L.z70; have v70 := L.v70; have u70 := run_underlying L.t70
 have t37 := L.t37; have a37 := L.a37; have z37 := L.z37; have v37 := L.v37; have u37 := run_underlying L.t37
 have t127 := L.t127; have a127 := L.a127; have z127 := L.z127; have v127 := L.v127; have u127 := run_underlying L.t127
 have t3 := L.t3; have a3 := L.a3; have z3 := L.z3; have v3 := L.v3; have u3 := run_underlying L.t3
 have t9 := L.t9; have a9 := L.a9; have z9 := L.z9; have v9 := L.v9; have u9 := run_underlying L.t9
 go_enter L.f169, Body.n169_ntmps ρ
 go_wp2
 go_region_o
 all_goals (go_wp2; go_ret; exact ⟨rfl, rfl⟩)
end Go.Proofs.YtocnabkanbifdaaGreatDoor

namespace Go.Proofs.YtocnabkanbifdaaGreatDoor
open Go Go.RowKit Go.Shelf Go.Lib
set_option linter.unusedVariables false
variable {P : Program}
/-- From the one world to the other only these blocks turned. -/
structure Kept (w w' : World) (S : Nat → Prop) : Prop where
 os : w'.os = w.os
 tape : w'.tape = w.tape
 output : w'.output = w.output
 drawn : w.drawn ≤ w'.drawn
 size : w.heap.size ≤ w'.heap.size
 keep : ∀ b, b < w.heap.size → ¬ S b → w'.heap[b]? = w.heap[b]?
theorem Kept.trans {w w1 w2 : World} {S T : Nat → Prop} (h : Kept w w1 S) (k : Kept w1 w2 T) (hs : ∀ b, T b → b < w.heap.size → S b) : Kept w w2 S :=
 ⟨k.os.trans h.os, k.tape.trans h.tape, k.output.trans h.output, Nat.le_trans h.drawn k.drawn, Nat.le_trans h.size k.size, fun b hb hn => (k.keep b (Nat.lt_of_lt_of_le hb h.size) fun ht => hn (hs b ht hb)).trans (h.keep b hb hn)⟩
theorem Kept.keep' {w w' : World} {S : Nat → Prop} (h : Kept w w' S) (b : Nat) {o : Obj} (_ : b < w.heap.size) (hb : w.heap[b]? = some o) (hs : ¬ S b := by simp) : w'.heap[b]? = some o := (h.keep b ‹_› hs).trans hb
theorem con_done {w w' : World} {ex : List AV} {us : List Value} (hex : plainL ex = true) {β : Ghost} {A : Nat → Prop} {K K' : Con} {b C : Nat} {L : List Nat} (hA : ∀ b, A b → b < w.heap.size) (hhp : HpRel w β 1 A [(0, .con K ex)]) (hru : repL w β 1 (own β [(0, .con K ex)] A) ex us) (hb : β 0 = some (b, C)) (hk : Kept w w' (fun x => x = b ∨ x ∈ β.inn 0))
  (hL : ∀ g ∈ L, g < w'.heap.size ∧ (g ∈ β.inn 0 ∨ w.heap.size ≤ g)) (hP : ∀ ow, K'.P w' b C L ow us) :
  ∃ β', HpRel w' β' 1 A [(0, .con K' ex)] ∧ Ext w β 1 [(0, .con K ex)] w' β' 1 [(0, .con K' ex)] := by
 have hm : ((0, AObj.con K ex) : Nat × AObj) ∈ ([(0, .con K ex)] : Hp) := .head _
 have hlt : b < w.heap.size := hhp.blt _ hm b C hb
 have hav := hhp.av _ hm b C hb
 let β' : Ghost := ⟨β.f, fun id => if id = 0 then L else β.inn id⟩
 have hi : β'.inn 0 = L := rfl
 have one : ∀ {x : Nat × AObj}, x ∈ ([(0, .con K' ex)] : Hp) → x = (0, .con K' ex) := fun h => by simpa using h
 refine ⟨β', ⟨?_, ?_, by simp, ?_, ?_, ?_, ?_⟩, { nx := Nat.le_refl _, gh := fun _ _ => rfl, gi := ?_, ids := ?_, blk := ?_, os := hk.os, tape := hk.tape, output := ⟨hk.output, fun _ => hk.drawn⟩, size := hk.size, keep := ?_ }⟩
 ·
  intro p hp
  rw [one hp]
  exact .inl ⟨b, C, us, hb, Nat.lt_of_lt_of_le hlt hk.size, by show K'.P w' b C (β'.inn 0) _ us; rw [hi]; exact hP _, repL_plain _ _ hex hru⟩
 · intro p hp; rw [one hp]; exact Nat.zero_lt_one
 · intro p hp q hq b1 c1 c2 _ _; rw [one hp, one hq]
 ·
  intro p hp b1 c1 h1
  rw [one hp] at h1
  exact hhp.av _ hm b1 c1 h1
 · intro p hp hc; rw [one hp] at hc; cases hc
 ·
  intro p hp g hg
  rw [one hp] at hg
  have hg : g ∈ L := hg
  obtain ⟨h1, h2⟩ := hL g hg
  refine ⟨h1, ?_, fun q hq c hc => ?_, fun q hq _ => by rw [one hq, one hp]⟩
  ·
   rcases h2 with h2 | h2
   · exact (hhp.ib _ hm g h2).2.1
   · exact fun ha => absurd (hA g ha) (Nat.not_lt.2 h2)
  ·
   rw [one hq] at hc
   rcases h2 with h2 | h2
   · exact (hhp.ib _ hm g h2).2.2.1 _ hm c hc
   ·
    have hc : β 0 = some (g, c) := hc
    rw [hb] at hc
    simp only [Option.some.injEq, Prod.mk.injEq] at hc
    omega
 ·
  intro id h1 h2
  exact absurd (by simp; omega) h2
 · intro p hp; rw [one hp]; exact .inl (by simp)
 ·
  intro p hp g hg
  rw [one hp] at hg
  rcases hg with ⟨c, hc⟩ | hg
  · exact .inl ⟨_, hm, .inl ⟨c, hc⟩⟩
  ·
   obtain ⟨h1, h2⟩ := hL g hg
   rcases h2 with h2 | h2
   · exact .inl ⟨_, hm, .inr h2⟩
   · exact .inr h2
 ·
  intro b1 h1 h2
  refine hk.keep b1 h1 ?_
  rintro (rfl | h3)
  · exact h2 ⟨_, hm, .inl ⟨C, hb⟩⟩
  · exact h2 ⟨_, hm, .inr h3⟩
/-- What a builder's slice is of these bytes. -/
def bldR (E : TypeId) (L : List Nat) (w : World) (v : Value) (l : List UInt8) : Prop :=
 (v = .slice none 0 0 ∧ l = []) ∨ ∃ g cap cur, 0 < cap ∧ g ∈ L ∧ v = .slice (some ⟨g, 0, none⟩) l.length cap ∧ w.heap[g]? = some (.cells cur E (0, 0)) ∧ l.length ≤ cap ∧ cap ≤ maxLen ∧ cur.size = cap ∧ ∀ (j : Nat) x, l[j]? = some x → cur[j]? = some (.int .u8 x.toNat)
theorem strCells_get (s : List UInt8) (j : Nat) (x : UInt8) (h : s[j]? = some x) : (strCells ⟨⟨s⟩⟩)[j]? = some (.int .u8 x.toNat) := by
 simp [strCells, h]
theorem alloc_kept (w : World) (o : Obj) (S : Nat → Prop) : Kept w (w.drew.alloc o) S :=
 ⟨rfl, rfl, rfl, Nat.le_succ _, by show _ ≤ (w.heap.push o).size; simp, fun b hb _ => by show (w.heap.push o)[b]? = _; rw [Array.getElem?_push_lt hb]; exact (Array.getElem?_eq_getElem hb).symm⟩
set_option maxHeartbeats 1000000 in
theorem bld_app {tS tT E : TypeId} (u1 : P.underlying tS = some (.slice E)) (u2 : P.underlying tT = some .string) (u3 : (P.info? E).map (fun i => (i.zero, i.size, i.bytes)) = some (some (.int .u8 0), 1, 1)) (W : World) (v : Value) (l s : List UInt8) (Ls : List Nat) (h : bldR E Ls W v l) (hlt : ∀ g ∈ Ls, g < W.heap.size) (hlen : l.length + s.length ≤ 140737488355328) :
  ∃ ao n cap W2, (∀ ty, (Builtin.append_ #[tS, tT] ty #[v, .string ⟨⟨s⟩⟩]).run P W = .ok (.slice ao n cap) W2) ∧ Kept W W2 (fun x => x ∈ Ls) ∧ ∃ Ls', (∀ g ∈ Ls', g < W2.heap.size ∧ (g ∈ Ls ∨ W.heap.size ≤ g)) ∧ bldR E Ls' W2 (.slice ao n cap) (l ++ s) := by
 obtain ⟨i0, hi, hz0, hz1, hz2⟩ := info_parts u3
 have hss : ByteArray.size ⟨⟨s⟩⟩ = s.length := rfl
 have hml : 140737488355328 ≤ maxLen := by unfold maxLen; omega
 have fresh : ∀ (olds : List Value) (k old : Nat), olds.length = l.length → (∀ (j : Nat) x, l[j]? = some x → olds[j]? = some (.int .u8 x.toNat)) → l ++ s ≠ [] → 
   bldR E [W.heap.size] (W.drew.alloc (.cells (olds.toArray ++ (strCells ⟨⟨s⟩⟩).toArray ++ Builtin.zeroCells (Value.int .u8 0).cells (grownCap W (l.length + s.length) old E - (l.length + s.length))) E)) (.slice (some ⟨W.heap.size, 0, none⟩) (l.length + s.length) (grownCap W (l.length + s.length) old E)) (l ++ s) := by
  intro olds k old h1 h2 h3
  have g1 := grownCap_ge W (l.length + s.length) old E
  have g2 := grownCap_le_maxLen W (l.length + s.length) old E (by omega)
  have hsz : (Builtin.zeroCells (Value.int .u8 0).cells (grownCap W (l.length + s.length) old E - (l.length + s.length))).size = grownCap W (l.length + s.length) old E - (l.length + s.length) := by
   rw [size_zeroCells]; simp [Value.cells]
  refine .inr ⟨_, _, _, by have := List.length_pos_iff.2 h3; rw [List.length_append] at this; omega, List.mem_singleton.2 rfl, by rw [List.length_append], Array.getElem?_push_size, by rw [List.length_append]; exact g1, g2, ?_, ?_⟩
  · simp only [Array.size_append, List.size_toArray, h1, strCells_length, hss, hsz]; omega
  ·
   intro j x hj
   rcases Nat.lt_or_ge j l.length with hlt | hge
   ·
    rw [List.getElem?_append_left hlt] at hj
    rw [Array.getElem?_append_left (by simp only [Array.size_append, List.size_toArray, h1, strCells_length, hss]; omega), Array.getElem?_append_left (by simp only [List.size_toArray, h1]; exact hlt), List.getElem?_toArray]
    exact h2 j x hj
   ·
    rw [List.getElem?_append_right hge] at hj
    have hj2 := (List.getElem?_eq_some_iff.1 hj).1
    rw [Array.getElem?_append_left (by simp only [Array.size_append, List.size_toArray, h1, strCells_length, hss]; omega), Array.getElem?_append_right (by simp only [List.size_toArray, h1]; exact hge), List.getElem?_toArray, List.size_toArray, h1]
    exact strCells_get s _ x hj
 have fresh2 : ∀ o : Obj, ∀ g ∈ [W.heap.size], g < (W.drew.alloc o).heap.size ∧ (g ∈ Ls ∨ W.heap.size ≤ g) := fun o g hg => by
  rw [List.mem_singleton.1 hg]
  exact ⟨by show _ < (W.heap.push o).size; simp, .inr (Nat.le_refl _)⟩
 rcases h with ⟨rfl, rfl⟩ | ⟨g, cap, cur, h0, h1, rfl, h2, h3, h4, h5, h6⟩
 ·
  by_cases hs : s = []
  ·
   subst hs
   refine ⟨none, 0, 0, W, fun ty => ?_, ⟨rfl, rfl, rfl, Nat.le_refl _, Nat.le_refl _, fun _ _ _ => rfl⟩, [], by simp, .inl ⟨rfl, rfl⟩⟩
   have hf := run_firstCells_string (P := P) W 1 (⟨⟨[]⟩⟩ : ByteArray)
   have h00 : ByteArray.size ⟨⟨([] : List UInt8)⟩⟩ = 0 := rfl
   rw [h00] at hf
   simp [Builtin.append_, run_underlying u1, run_underlying u2, sizeOf, typeInfo, hi, hz1, Builtin.lenOf, h00, hf]
  ·
   have hs0 : 0 < s.length := by
    cases s with
    | nil => exact absurd rfl hs
    | cons _ _ => simp
   have hr := fun ty => run_append_nil_string (P := P) W tS tT ty E i0 (.int .u8 0) u1 u2 hi hz0 ⟨⟨s⟩⟩ hs0 (by rw [hss]; omega) (by rw [hss, hz2]; simp at hlen; omega)
   have hF := fresh [] 0 0 rfl (fun j x hx => by simp at hx) (by simpa using hs)
   have e1 : (ByteArray.data ⟨⟨s⟩⟩).map (fun b => Value.int .u8 b.toNat) = (strCells ⟨⟨s⟩⟩).toArray := by
    apply Array.ext'
    simp [strCells]
   simp only [e1] at hr
   simp only [List.length_nil, Nat.zero_add, List.nil_append, Array.empty_append] at hF ⊢
   exact ⟨_, _, _, _, hr, alloc_kept _ _ _, [W.heap.size], fresh2 _, hF⟩
 ·
  by_cases hroom : l.length + s.length ≤ cap
  ·
   have hr := fun ty => run_append_room_string (P := P) W tS tT ty E i0 u1 u2 hi hz1 g l.length cap cur h2 ⟨⟨s⟩⟩ hroom (by rw [hss]; omega)
   simp only [hss] at hr
   refine ⟨_, _, _, _, hr, ⟨rfl, rfl, rfl, Nat.le_refl _, by simp, fun k _ hk => setRow_other W g k _ (fun e => hk (by rw [e]; exact h1))⟩, Ls, fun g' hg' => ⟨by simp; exact hlt g' hg', .inl hg'⟩, .inr ⟨g, cap, _, h0, h1, by rw [List.length_append], setRow_heap W g cur _ _ _ h2, by rw [List.length_append]; exact hroom, h4, ?_, ?_⟩⟩
   ·
    simp only [List.size_toArray, List.length_append, List.length_take, List.length_drop, Array.length_toList, strCells_length, hss]
    omega
   ·
    intro j x hj
    have ht : (cur.toList.take l.length).length = l.length := by rw [List.length_take, Array.length_toList (xs := cur)]; omega
    rw [List.getElem?_toArray]
    rcases Nat.lt_or_ge j l.length with hlt | hge
    ·
     rw [List.getElem?_append_left hlt] at hj
     rw [List.getElem?_append_left (by rw [List.length_append, ht]; omega), List.getElem?_append_left (by rw [ht]; exact hlt), List.getElem?_take, if_pos hlt, Array.getElem?_toList]
     exact h6 j x hj
    ·
     rw [List.getElem?_append_right hge] at hj
     have hj2 := (List.getElem?_eq_some_iff.1 hj).1
     rw [List.getElem?_append_left (by rw [List.length_append, ht, strCells_length, hss]; omega), List.getElem?_append_right (by rw [ht]; exact hge), ht]
     exact strCells_get s _ x hj
  ·
   have holds : ∀ (j : Nat) u, (cur.toList.take l.length)[j]? = some u → W.cell? ((⟨g, 0, none⟩ : Addr).add j) = some u := by
    intro j u hj
    rw [List.getElem?_take] at hj
    split at hj
    ·
     have ha : ((⟨g, 0, none⟩ : Addr).add j) = ⟨g, j, none⟩ := by
      unfold Addr.add
      split
      · rename_i h; subst h; rfl
      · simp
     rw [ha, Lib.cell_of_heap h2, ← Array.getElem?_toList]; exact hj
    · cases hj
   have ht : (cur.toList.take l.length).length = l.length := by rw [List.length_take, Array.length_toList (xs := cur)]; omega
   have hr := fun ty => run_append_grow_string (P := P) W tS tT ty E i0 (.int .u8 0) u1 u2 hi hz0 ⟨g, 0, none⟩ l.length cap (cur.toList.take l.length) (by rw [hz1, ht, Nat.mul_one]) holds ⟨⟨s⟩⟩ (by rw [hss]; omega) (by rw [hss]; omega) (by rw [hz2, hss]; exact growslice_fits (by omega) (by omega))
   simp only [hss] at hr
   have hF := fresh (cur.toList.take l.length) 0 cap ht (fun j x hj => by
    have hj2 := (List.getElem?_eq_some_iff.1 hj).1
    rw [List.getElem?_take, if_pos hj2, Array.getElem?_toList]
    exact h6 j x hj) (fun e => by rw [List.append_eq_nil_iff] at e; rw [e.1, e.2] at hroom; simp at hroom)
   exact ⟨_, _, _, _, hr, alloc_kept _ _ _, [W.heap.size], fresh2 _, hF⟩
end Go.Proofs.YtocnabkanbifdaaGreatDoor

namespace Go.Proofs.YtocnabkanbifdaaGreatDoor
open Go Go.RowKit Go.Shelf Go.Lib
set_option linter.unusedVariables false
variable {P : Program} {ρ : Ren}
theorem setCell_kept (w : World) (b i : Nat) (v : Value) : Kept w (w.setCell ⟨b, i, none⟩ v) (fun x => x = b) :=
 ⟨rfl, rfl, rfl, Nat.le_refl _, by simp [World.setCell], fun k _ hk => Below.heap_setCell _ _ _ _ (fun e => hk (by simpa using e))⟩
theorem Kept.mono {w w' : World} {S T : Nat → Prop} (h : Kept w w' S) (hs : ∀ b, S b → T b) : Kept w w' T := ⟨h.os, h.tape, h.output, h.drawn, h.size, fun b hb hn => h.keep b hb fun x => hn (hs b x)⟩
/-- Bytes put behind a builder's. -/
def bwriteF (l s : List UInt8) : Option (Int × Bool × List UInt8) := guardO (l.length + s.length ≤ 140737488355328) (some ((s.length : Int), true, l ++ s))
def bstringF (l : List UInt8) : Option (List UInt8) := some l
theorem bwrite_det {f fc : FuncId} {T E tS tT : TypeId} {m : Nat} {ex : List AV} (hex : plainL ex = true) (hm2 : ex.length = m) (ent : entB P f = true) (u1 : P.underlying tS = some (.slice E)) (u2 : P.underlying tT = some .string) (u3 : (P.info? E).map (fun i => (i.zero, i.size, i.bytes)) = some (some (.int .u8 0), 1, 1))
  (hfresh : ∀ (b : Nat) (w : World), w.cell? ⟨b, 0, none⟩ = some (.pointer none) → w.shape? b = some (T, m + 2) → w.frozen? ⟨b, 0, none⟩ = false → Calls P fc #[.pointer (some ⟨b, 0, none⟩)] w fun e w' => e = .returned (.tuple #[]) ∧ w' = w.setCell ⟨b, 0, none⟩ (.pointer (some ⟨b, 0, none⟩)))
  (hused : ∀ (b : Nat) (w : World), w.cell? ⟨b, 0, none⟩ = some (.pointer (some ⟨b, 0, none⟩)) → Calls P fc #[.pointer (some ⟨b, 0, none⟩)] w fun e w' => e = .returned (.tuple #[]) ∧ w' = w)
  (hwrite : ∀ (b : Nat) (us : List Value) (v : Value) (ao : Option Addr) (n cap : Nat) (s : ByteArray) (w W w2 : World), (Calls P fc #[.pointer (some ⟨b, 0, none⟩)] w fun e w' => e = .returned (.tuple #[]) ∧ w' = W) → W.heap[b]? = some (.cells ⟨.pointer (some ⟨b, 0, none⟩) :: v :: us⟩ T (0, 0)) →
   (∀ ty, (Builtin.append_ #[tS, tT] ty #[v, .string s]).run P W = .ok (.slice ao n cap) w2) → w2.heap[b]? = some (.cells ⟨.pointer (some ⟨b, 0, none⟩) :: v :: us⟩ T (0, 0)) →
   Calls P f #[.pointer (some ⟨b, 0, none⟩), .string s] w fun e w' => e = .returned (.tuple #[.int .i64 s.size, .nilIface]) ∧ w' = w2.setCell ⟨b, 1, none⟩ (.slice ao n cap)) {l s : List UInt8} {r : Int × Bool × List UInt8} (h : bwriteF l s = some r) :
  DetS P f [.ptr 0 0, .v (.string ⟨⟨s⟩⟩)] [(0, .con (bldK T E l) ex)] 1 (.tup [.v (.int .i64 r.1), .erb r.2.1]) [(0, .con (bldK T E r.2.2) ex)] 1 := by
 unfold bwriteF at h
 have h' := guardO_some h
 clear h
 obtain ⟨hlen, h⟩ := h'
 simp only [Option.some.injEq] at h
 subst h
 intro w β A vs hA hargs hhp hgs
 match vs, hargs with
 | [u1, u2], hargs =>
 simp only [repL, rep, and_true] at hargs
 obtain ⟨⟨_, b1, C1, hb1, rfl⟩, rfl⟩ := hargs
 have hm : ((0, AObj.con (bldK T E l) ex) : Nat × AObj) ∈ ([(0, .con (bldK T E l) ex)] : Hp) := .head _
 rcases hhp.obj _ hm with ⟨b, C, us, hb, hbs, hP, hru⟩ | ⟨_, hN, _⟩
 rotate_left
 · exact hN.elim
 obtain ⟨p, v, hw, hp, hv⟩ := hP
 have hul : us.length = m := (repL_len hru).symm.trans hm2
 have hb2 : β 0 = some (b, C) := hb
 rw [hb2] at hb1
 simp only [Option.some.injEq, Prod.mk.injEq] at hb1
 obtain ⟨rfl, rfl⟩ := hb1
 have hbi : ∀ g ∈ β.inn 0, g < w.heap.size ∧ g ≠ b := fun g hg => by
  obtain ⟨i1, _, i3, _⟩ := hhp.ib _ hm g hg
  exact ⟨i1, fun e => i3 _ hm C (by rw [e]; exact hb)⟩
 have h0 : w.cell? ⟨b, 0, none⟩ = some p := by rw [Lib.cell_of_heap hw]; rfl
 obtain ⟨W, hcc, hkW, hWb⟩ : ∃ W, (Calls P fc #[.pointer (some ⟨b, 0, none⟩)] w fun e w' => e = .returned (.tuple #[]) ∧ w' = W) ∧ Kept w W (fun x => x = b) ∧ W.heap[b]? = some (.cells ⟨.pointer (some ⟨b, 0, none⟩) :: v :: us⟩ T (0, 0)) := by
  rcases hp with rfl | rfl
  · exact ⟨_, hfresh b w h0 (by simp [World.shape?, hw, hul]) (Lib.frozen_of_heap hw 0), setCell_kept _ _ _ _, by simp [World.setCell, Array.getElem?_modify, hw]⟩
  · exact ⟨_, hused b w h0, ⟨rfl, rfl, rfl, Nat.le_refl _, Nat.le_refl _, fun _ _ _ => rfl⟩, hw⟩
 have hvW : bldR E (β.inn 0) W v l := by
  rcases hv with hv | ⟨g, cap, cur, g0, g1, g2, g3, g4, g5⟩
  · exact .inl hv
  · exact .inr ⟨g, cap, cur, g0, g1, g3, (hkW.keep g (hbi g g1).1 g2).trans g4, g5⟩
 obtain ⟨ao, n, cap, W2, happ, hk2, Ls', hL', hR'⟩ := bld_app u1 u2 u3 W v l s (β.inn 0) hvW (fun g hg => Nat.lt_of_lt_of_le (hbi g hg).1 hkW.size) hlen
 have hbW : b < W.heap.size := (Array.getElem?_eq_some_iff.1 hWb).1
 have hW2b : W2.heap[b]? = some (.cells ⟨.pointer (some ⟨b, 0, none⟩) :: v :: us⟩ T (0, 0)) := (hk2.keep b hbW fun hx => (hbi b hx).2 rfl).trans hWb
 refine CallsE.of ent ((hwrite b us v ao n cap ⟨⟨s⟩⟩ w W W2 hcc hWb happ hW2b).mono ?_)
 rintro e w' ⟨rfl, rfl⟩
 have hk3 := setCell_kept W2 b 1 (.slice ao n cap)
 have hbL : ∀ g ∈ Ls', g ≠ b := fun g hg e => by
  rcases (hL' g hg).2 with h1 | h1
  · exact (hbi g h1).2 e
  · omega
 obtain ⟨β', q1, q2⟩ := con_done (K' := bldK T E (l ++ s)) (w' := W2.setCell ⟨b, 1, none⟩ (.slice ao n cap)) (L := Ls') hex hA hhp hru hb
  (((hkW.mono fun x hx => .inl hx).trans (hk2.mono fun x hx => .inr hx) fun x hx _ => hx).trans (hk3.mono fun x hx => .inl hx) fun x hx _ => hx)
  (fun g hg => ⟨Nat.lt_of_lt_of_le (hL' g hg).1 hk3.size, (hL' g hg).2.imp id fun h1 => Nat.le_trans hkW.size h1⟩)
  (fun ow => ⟨.pointer (some ⟨b, 0, none⟩), .slice ao n cap, by simp [World.setCell, Array.getElem?_modify, hW2b], .inr rfl, hR'.imp id fun ⟨g, cap', cur, g0, g1, g3, g4, g5⟩ => ⟨g, cap', cur, g0, g1, hbL g g1, g3, (hk3.keep g (Array.getElem?_eq_some_iff.1 g4).1 (hbL g g1)).trans g4, g5⟩⟩)
 exact ⟨_, _, _, _, β', rfl, ⟨rfl, rfl, rfl⟩, by simp only [rep]; exact ⟨_, rfl, by simp [repL, rep]; rfl⟩, q1, q2⟩
theorem freeze_kept (w : World) (g n : Nat) : Kept w (w.drew.freeze ⟨g, 0, none⟩ n) (fun x => x = g) := by
 unfold World.freeze
 split
 · exact ⟨rfl, rfl, rfl, Nat.le_succ w.drawn, Nat.le_refl _, fun _ _ _ => rfl⟩
 ·
  exact ⟨rfl, rfl, rfl, Nat.le_succ w.drawn, by show _ ≤ (w.heap.modify g _).size; simp, fun k _ hk => by
   show (w.heap.modify g _)[k]? = _
   rw [Array.getElem?_modify, if_neg (fun e => hk e.symm)]⟩
theorem bstring_det (L : Lays.n169 P ρ) (X : Builder.Extra P ρ) (ent : entB P (ρ.f 169) = true) {T : TypeId} {ex : List AV} {l r : List UInt8} (h : bstringF l = some r) :
  DetS P (ρ.f 169) [.ptr 0 0] [(0, .con (bldK T (ρ.t 5) l) ex)] 1 (.v (.string ⟨⟨r⟩⟩)) [] 1 := by
 unfold bstringF at h
 simp only [Option.some.injEq] at h
 subst h
 intro w β A vs hA hargs hhp hgs
 match vs, hargs with
 | [u1], hargs =>
 simp only [repL, rep, and_true] at hargs
 obtain ⟨_, b1, C1, hb1, rfl⟩ := hargs
 have hm : ((0, AObj.con (bldK T (ρ.t 5) l) ex) : Nat × AObj) ∈ ([(0, .con (bldK T (ρ.t 5) l) ex)] : Hp) := .head _
 rcases hhp.obj _ hm with ⟨b, C, us, hb, hbs, hP, _⟩ | ⟨_, hN, _⟩
 rotate_left
 · exact hN.elim
 obtain ⟨p, v, hw, hp, hv⟩ := hP
 have hc1 : w.cell? ⟨b, 1, none⟩ = some v := by rw [Lib.cell_of_heap hw]; rfl
 have hb2 : β 0 = some (b, C) := hb
 rw [hb2] at hb1
 simp only [Option.some.injEq, Prod.mk.injEq] at hb1
 obtain ⟨rfl, rfl⟩ := hb1
 have fin : ∀ w', Kept w w' (fun x => x ∈ β.inn 0) → HpRel w' β 1 A [] ∧ Ext w β 1 [(0, .con (bldK T (ρ.t 5) l) ex)] w' β 1 [] := fun w' hk =>
  ⟨HpRel.nil, { nx := Nat.le_refl _, gh := fun _ _ => rfl, gi := fun _ _ _ => rfl, ids := fun p hp => (by cases hp), blk := fun p hp => (by cases hp), os := hk.os, tape := hk.tape, output := ⟨hk.output, fun _ => hk.drawn⟩, size := hk.size, keep := fun b' h1 h2 => hk.keep b' h1 fun h3 => h2 ⟨_, hm, .inr h3⟩ }⟩
 rcases hv with ⟨rfl, rfl⟩ | ⟨g, cap, cur, g0, g1, g2, rfl, g4, g5, g6, g7, g8⟩
 ·
  refine CallsE.of ent ((bld_string_nil L X b w hc1).mono ?_)
  rintro e w' ⟨rfl, rfl⟩
  obtain ⟨q1, q2⟩ := fin w.drew ⟨rfl, rfl, rfl, Nat.le_succ _, Nat.le_refl _, fun _ _ _ => rfl⟩
  exact ⟨_, _, _, _, β, rfl, ⟨rfl, rfl, rfl⟩, by simp only [rep], q1, q2⟩
 ·
  by_cases hl : l = []
  ·
   subst hl
   refine CallsE.of ent ((bld_string_zero L X b g cap w hc1 g0).mono ?_)
   rintro e w' ⟨rfl, rfl⟩
   obtain ⟨q1, q2⟩ := fin w.drew ⟨rfl, rfl, rfl, Nat.le_succ _, Nat.le_refl _, fun _ _ _ => rfl⟩
   exact ⟨_, _, _, _, β, rfl, ⟨rfl, rfl, rfl⟩, by simp only [rep], q1, q2⟩
  ·
   refine CallsE.of ent ((bld_string L X b g cap cur l w hl hc1 g4 g5 (by omega) g6 g8).mono ?_)
   rintro e w' ⟨rfl, rfl⟩
   obtain ⟨q1, q2⟩ := fin _ ((freeze_kept w g l.length).mono fun x hx => by rw [hx]; exact g1)
   exact ⟨_, _, _, _, β, rfl, ⟨rfl, rfl, rfl⟩, by simp only [rep], q1, q2⟩
end Go.Proofs.YtocnabkanbifdaaGreatDoor

namespace Go.Proofs.YtocnabkanbifdaaGreatDoor
open Go Go.RowKit Go.Shelf Go.Lib
variable {P : Program} {ρ : Ren}
theorem setCell_alloc {w : World} {b j : Nat} {v : Value} {o : Obj} (h : b < w.heap.size) : (w.setCell ⟨b, j, none⟩ v).alloc o = (w.alloc o).setCell ⟨b, j, none⟩ v := by
 unfold World.setCell World.alloc
 simp only [World.mk.injEq, true_and, and_true]
 apply Array.ext_getElem?
 intro i
 simp only [Array.getElem?_modify, Array.getElem?_push, Array.size_modify]
 split <;> split <;> simp_all <;> omega
/-- A new builder that was given room: what there was stays, its row is the first of the new blocks. -/
structure GrownW (T E : TypeId) (w : World) (b n : Nat) (w' : World) : Prop where
 k : Kept w w' (fun x => x = b)
 lt : w.heap.size < w'.heap.size
 ex : ∃ cs : Array Value, n ≤ cs.size ∧ cs.size ≤ maxLen ∧ w'.heap[w.heap.size]? = some (.cells cs E (0, 0)) ∧ w'.heap[b]? = some (.cells #[.pointer (some ⟨b, 0, none⟩), .slice (some ⟨w.heap.size, 0, none⟩) 0 cs.size] T (0, 0))
theorem GrownW.of {T E : TypeId} {w : World} {b n : Nat} (hbk : w.heap[b]? = some (.cells #[.pointer none, .slice none 0 0] T (0, 0))) (hn : n ≤ 281474976710656) (cs : Array Value) (h1 : n ≤ cs.size) (h2 : n ≤ maxLen → cs.size ≤ maxLen) {w1 : World} (h3 : w1 = w.setCell ⟨b, 0, none⟩ (.pointer (some ⟨b, 0, none⟩))) :
  GrownW T E w b n ((w1.drew.alloc (.cells cs E)).setCell ⟨b, 1, none⟩ (.slice (some ⟨w1.drew.heap.size, 0, none⟩) 0 cs.size)).drew.drew.drew := by
 subst h3
 have hlt : b < w.heap.size := (Array.getElem?_eq_some_iff.1 hbk).1
 have hs : (w.setCell ⟨b, 0, none⟩ (.pointer (some ⟨b, 0, none⟩))).heap.size = w.heap.size := by simp [World.setCell]
 have hb1 : (w.setCell ⟨b, 0, none⟩ (.pointer (some ⟨b, 0, none⟩))).heap[b]? = some (.cells #[.pointer (some ⟨b, 0, none⟩), .slice none 0 0] T (0, 0)) := by simp [World.setCell, Array.getElem?_modify, hbk]
 generalize hw1 : w.setCell ⟨b, 0, none⟩ (.pointer (some ⟨b, 0, none⟩)) = w1 at hs hb1
 have hk1 : Kept w w1 (fun x => x = b) := by rw [← hw1]; exact setCell_kept _ _ _ _
 have hsz : (w1.drew.alloc (.cells cs E)).heap.size = w.heap.size + 1 := by show (w1.heap.push _).size = _; simp [hs]
 have hk2 : Kept w1 (w1.drew.alloc (.cells cs E)) (fun _ => False) := alloc_kept _ _ _
 have hk3 := setCell_kept (w1.drew.alloc (.cells cs E)) b 1 (.slice (some ⟨w1.drew.heap.size, 0, none⟩) 0 cs.size)
 have hnew : (w1.drew.alloc (.cells cs E)).heap[w.heap.size]? = some (.cells cs E (0, 0)) := by
  show (w1.heap.push _)[w.heap.size]? = _
  rw [← hs]; exact Array.getElem?_push_size
 have hold : (w1.drew.alloc (.cells cs E)).heap[b]? = some (.cells #[.pointer (some ⟨b, 0, none⟩), .slice none 0 0] T (0, 0)) := (hk2.keep' b (by omega) hb1)
 have hkk := (hk1.trans hk2 fun x hx _ => hx.elim).trans hk3 fun x hx _ => hx
 refine ⟨⟨hkk.os, hkk.tape, hkk.output, Nat.le_trans hkk.drawn (Nat.le_add_right _ 3), hkk.size, hkk.keep⟩, ?_, cs, h1, h2 (by unfold maxLen; omega), ?_, ?_⟩
 · exact Nat.lt_of_lt_of_le (by rw [hsz]; omega) hk3.size
 · exact (hk3.keep _ (by omega) (by omega)).trans hnew
 ·
  show ((w1.drew.alloc (.cells cs E)).setCell ⟨b, 1, none⟩ _).heap[b]? = _
  have : w1.drew.heap.size = w.heap.size := hs
  rw [this]
  simp [World.setCell, Array.getElem?_modify, hold]
theorem GrownW.of2 {T E : TypeId} {w : World} {b n : Nat} (hbk : w.heap[b]? = some (.cells #[.pointer none, .slice none 0 0] T (0, 0))) (hn : n ≤ 281474976710656) (cs : Array Value) (h1 : n ≤ cs.size) (h2 : n ≤ maxLen → cs.size ≤ maxLen) :
  GrownW T E w b n (((w.setCell ⟨b, 0, none⟩ (.pointer (some ⟨b, 0, none⟩))).alloc (.cells cs E)).setCell ⟨b, 1, none⟩ (.slice (some ⟨w.heap.size, 0, none⟩) 0 cs.size)).drew.drew.drew.drew := by
 have h := GrownW.of (E := E) hbk hn cs h1 h2 rfl
 have e : w.heap.size = (w.setCell ⟨b, 0, none⟩ (.pointer (some ⟨b, 0, none⟩))).drew.heap.size := by simp [World.setCell]
 rw [e]
 exact h
def bgrowF (l : List UInt8) (n : Int) : Option (List UInt8) := guardO (l = [] ∧ 1 ≤ n ∧ n ≤ 281474976710656) (some [])
theorem bgrow_det {f : FuncId} {T E : TypeId} (ent : entB P f = true)
  (hgrow : ∀ (b n : Nat) (w : World), w.heap[b]? = some (.cells #[.pointer none, .slice none 0 0] T (0, 0)) → 1 ≤ n → n ≤ 281474976710656 → Calls P f #[.pointer (some ⟨b, 0, none⟩), .int .i64 n] w fun e w' => e = .returned (.tuple #[]) ∧ GrownW T E w b n w')
  {l r : List UInt8} {n : Int} (h : bgrowF l n = some r) :
  DetS P f [.ptr 0 0, .v (.int .i64 n)] [(0, .con (boxK T) [.v (.pointer none), .v (.slice none 0 0)])] 1 (.tup []) [(0, .con (bldK T E r) [])] 1 := by
 unfold bgrowF at h
 have h' := guardO_some h
 clear h
 obtain ⟨⟨_, h1, h2⟩, h⟩ := h'
 simp only [Option.some.injEq] at h
 subst h
 intro w β A vs hA hargs hhp hgs
 match vs, hargs with
 | [u1, u2], hargs =>
 simp only [repL, rep, and_true] at hargs
 obtain ⟨⟨_, b1, C1, hb1, rfl⟩, rfl⟩ := hargs
 have hm : ((0, AObj.con (boxK T) [.v (.pointer none), .v (.slice none 0 0)]) : Nat × AObj) ∈ ([(0, .con (boxK T) [.v (.pointer none), .v (.slice none 0 0)])] : Hp) := .head _
 rcases hhp.obj _ hm with ⟨b, C, us, hb, hbs, hP, hru⟩ | ⟨_, hN, _⟩
 rotate_left
 · exact hN.elim
 have hb2 : β 0 = some (b, C) := hb
 rw [hb2] at hb1
 simp only [Option.some.injEq, Prod.mk.injEq] at hb1
 obtain ⟨rfl, rfl⟩ := hb1
 match us, hP, hru with
 | [v1, v2], hP, hru =>
 simp only [repL, rep, and_true] at hru
 obtain ⟨rfl, rfl⟩ := hru
 have hw : w.heap[b]? = some (.cells #[.pointer none, .slice none 0 0] T (0, 0)) := hP
 obtain ⟨k, rfl⟩ : ∃ k : Nat, n = k := ⟨n.toNat, by omega⟩
 refine CallsE.of ent ((hgrow b k w hw (by omega) (by omega)).mono ?_)
 rintro e w' ⟨rfl, hG⟩
 obtain ⟨cs, g1, g2, g3, g4⟩ := hG.ex
 have hne : w.heap.size ≠ b := by omega
 have hlt : b < w.heap.size := hbs
 let β' : Ghost := ⟨β.f, fun id => if id = 0 then [w.heap.size] else β.inn id⟩
 have one : ∀ {x : Nat × AObj}, x ∈ ([(0, .con (bldK T E []) [])] : Hp) → x = (0, .con (bldK T E []) []) := fun h => by simpa using h
 refine ⟨_, _, _, _, β', rfl, ⟨rfl, rfl, rfl⟩, by simp only [rep]; exact ⟨_, rfl, by simp [repL]⟩, ⟨?_, ?_, by simp, ?_, ?_, ?_, ?_⟩, { nx := Nat.le_refl _, gh := fun _ _ => rfl, gi := ?_, ids := ?_, blk := ?_, os := hG.k.os, tape := hG.k.tape, output := ⟨hG.k.output, fun _ => hG.k.drawn⟩, size := hG.k.size, keep := ?_ }⟩
 ·
  intro p hp
  rw [one hp]
  exact .inl ⟨b, C, [], hb, Nat.lt_of_lt_of_le hlt hG.k.size, ⟨_, _, g4, .inr rfl, .inr ⟨w.heap.size, cs.size, cs, by omega, List.mem_singleton.2 rfl, hne, rfl, g3, Nat.zero_le _, g2, rfl, fun j x hx => by simp at hx⟩⟩, by simp only [repL]⟩
 · intro p hp; rw [one hp]; exact Nat.zero_lt_one
 · intro p hp q hq b1 c1 c2 _ _; rw [one hp, one hq]
 ·
  intro p hp b1 c1 h1
  rw [one hp] at h1
  exact hhp.av _ hm b1 c1 h1
 · intro p hp hc; rw [one hp] at hc; cases hc
 ·
  intro p hp g hg
  rw [one hp] at hg
  have hg : g ∈ [w.heap.size] := hg
  rw [List.mem_singleton.1 hg]
  refine ⟨hG.lt, fun ha => absurd (hA _ ha) (Nat.lt_irrefl _), fun q hq c hc => ?_, fun q hq _ => by rw [one hq, one hp]⟩
  rw [one hq] at hc
  have hc : β 0 = some (w.heap.size, c) := hc
  rw [hb2] at hc
  simp only [Option.some.injEq, Prod.mk.injEq] at hc
  omega
 ·
  intro id h1 h2
  exact absurd (by simp; omega) h2
 · intro p hp; rw [one hp]; exact .inl (by simp)
 ·
  intro p hp g hg
  rw [one hp] at hg
  rcases hg with ⟨c, hc⟩ | hg
  · exact .inl ⟨_, hm, .inl ⟨c, hc⟩⟩
  ·
   have hg : g ∈ [w.heap.size] := hg
   rw [List.mem_singleton.1 hg]; exact .inr (Nat.le_refl _)
 ·
  intro b1 h1 h2
  refine hG.k.keep b1 h1 ?_
  rintro rfl
  exact h2 ⟨_, hm, .inl ⟨C, hb⟩⟩
/-- The words of a text of small letters. -/
def wordsF (s : List UInt8) : Option (List GStr) := guardO (s.length < 4294967281 ∧ s.all (fun c => decide (c.toNat < 128)) = true) (some ((Lib.fields s).map GStr.mk))
theorem words_pure (L : Lays.n157 P ρ) (hi9 : (P.info? (ρ.t 9)).map (fun i => (i.zero, i.size, i.bytes)) = some (some (.string ByteArray.empty), 1, 16)) (ent : entB P (ρ.f 157) = true) (hg0 : P.globalNamed "strings.asciiSpace" = some (ρ.g 0)) {s : List UInt8} {r : List GStr} (h : wordsF s = some r) :
  PureS P (ρ.f 157) [.v (.string ⟨⟨s⟩⟩)] 0 (.sl 1 (enc r)) := by
 unfold wordsF at h
 have h' := guardO_some h
 clear h
 obtain ⟨⟨hs, ha⟩, h⟩ := h'
 simp only [Option.some.injEq] at h
 subst h
 refine pure_of ent (fun w us A hA hag hg => ?_) rfl
 obtain rfl := repL_vs [_] us hag
 obtain ⟨cs, v1, e1⟩ := glw_var hg (n := "strings.asciiSpace") (.tail _ (.tail _ (.tail _ (.tail _ (.head _))))) (by rw [hg0]; rfl)
 have htab : Lib.TabIs P w "strings.asciiSpace" .u8 Lib.asciiSpaceTab := by
  unfold Lib.TabIs
  rw [v1, ← Array.toArray_toList (xs := cs), e1]
  have hmm : ∀ (L : List Nat) (f : Nat → Value) (g : Nat → Int) (h : ∀ k ∈ L, f k = .int .u8 (g k)), some (L.map f).toArray = some ((L.map g).map fun z => Value.int .u8 z).toArray := fun L f g h => by
   rw [List.map_map]; exact congrArg (fun l : List Value => some l.toArray) (List.map_congr_left h)
  refine hmm _ _ _ fun k hk => ?_
  have : ∀ k : Fin 256, (if k.val = 9 ∨ k.val = 10 ∨ k.val = 11 ∨ k.val = 12 ∨ k.val = 13 ∨ k.val = 32 then (1 : Int) else 0) = if Lib.isSp (UInt8.ofNat k.val) then 1 else 0 := by decide +kernel
  have := this ⟨k, List.mem_range.1 hk⟩
  exact congrArg _ this
 refine (Any.strings_Fields L hi9 hg0 ⟨⟨s⟩⟩ w hs (fun j b hb => ?_) htab).mono ?_
 ·
  have := List.all_eq_true.1 ha b (List.mem_of_getElem? hb)
  simpa using this
 rintro e w' ⟨rfl, rfl⟩
 refine ⟨_, rfl, (Below.refl _ w).alloc (Nat.le_refl _) _, fun β ow how => ?_⟩
 simp only [rep]
 refine .inr ⟨w.heap.size, 0, _, by rw [enc_len, List.length_map], by rw [enc_len, List.length_map]; exact Nat.le_refl _, how _ (Nat.le_refl _), by show w.heap.size < (w.heap.push _).size; simp, ?_⟩
 have hx := repRows_strs (w := w.alloc (.cells ((Lib.fields s).map fun l => Value.string ⟨l.toArray⟩).toArray (ρ.t 9))) (β := β) (ow := ow) (b := w.heap.size) ((Lib.fields s).map fun l => (⟨⟨l⟩⟩ : ByteArray)) 0 fun j x hx => by
  have : (w.alloc (.cells ((Lib.fields s).map fun l => Value.string ⟨l.toArray⟩).toArray (ρ.t 9))).heap[w.heap.size]? = some (.cells ((Lib.fields s).map fun l => Value.string ⟨l.toArray⟩).toArray (ρ.t 9)) := by
   show (w.heap.push _)[w.heap.size]? = _
   simp
  rw [Nat.zero_add, Lib.cell_of_heap this]
  simp only [List.getElem?_map, Option.map_eq_some_iff] at hx
  obtain ⟨l, hl, rfl⟩ := hx
  simp [hl]
 rw [List.map_map] at hx
 exact hx
end Go.Proofs.YtocnabkanbifdaaGreatDoor

namespace Go.Proofs.YtocnabkanbifdaaGreatDoor
open Go Go.RowKit
/-! Of a statement that lists package variables: the listed hold what is listed, the others what their types allow. -/
theorem handed_both {H : Type} {enc : TypeId × Value → H} {C : Checked} {os : Os} {f : FuncId} {fn : Func} {s : ChangeSpec} {conds : List PathCond} {apart fresh handsOn again : Bool} {X : World → Array Value → Prop}
  (hX : ∀ (w w' : World) (args : Array Value), w.heap = w'.heap → X w args → X w' args) (own : ownKnob C.prog.godebug = none) (started : os.Started) (noInit : C.prog.inits.idxOf? f = none) (hfn : C.prog.funcs[f]? = some fn)
  (wit : ∃ (w : World) (tape : Tape) (i : Input), w.os = os ∧ (w.forCall tape i).Shaped C.prog ∧ i.vars = [] ∧ Input.okWide C.prog (w.forCall tape i) .any w.heap.size f i ∧
   ((s.pre enc C.prog fn conds apart (w.forCall tape i).memory i.args ∧ X (w.forCall tape i).memory i.args) ∧ sizedMet enc C.prog fn (OpenSpec.ofChange s) apart (w.forCall tape i).memory i.args) ∧ Assume.holds {} C.prog (lone (Frame.enter C.prog f i.args .normal) [] (w.forCall tape i)))
  (walk : ∀ (W : World) (base : Nat) (args : Array Value) (ds gs : List (DataW H)) (before : List MemPlace),
   (∀ (j : Nat) t v, fn.params[j]? = some t → args[j]? = some v → Value.okWide C.prog W .any base t v) → DataW.Whole enc C.prog fn.params.toList s.vars apart W args.toList ds gs before → X W args → W.ShapedOpen C.prog →
   Calls C.prog f args W fun e W' => ∃ v, e = .returned v ∧ s.post enc C.prog fn apart fresh handsOn again W args v W') :
  ReturnsInHanded {} C os f .any (fun w args => (s.pre enc C.prog fn conds apart w args ∧ X w args) ∧ sizedMet enc C.prog fn (OpenSpec.ofChange s) apart w args) (s.post enc C.prog fn apart fresh handsOn again) := by
 refine returnsInHanded_of_calls own started noInit wit fun w tape i _ hsh _ hok hpre _ => ?_
 obtain ⟨_, _, _, fn2, hfn2, _, _, _, _, hval⟩ := hok
 obtain rfl : fn2 = fn := Option.some.inj (hfn2.symm.trans hfn)
 obtain ⟨⟨⟨ds, gs, before, hw, _⟩, hx⟩, _⟩ := hpre
 refine (walk (w.forCall tape i) w.heap.size i.args ds gs before hval (DataW.Whole.of_heap (w' := w.forCall tape i) (by rfl) hw) (hX _ _ _ (by rfl) hx) hsh).mono fun e W' h => ?_
 obtain ⟨v, rfl, hp⟩ := h
 exact ChangeSpec.post_blind hp
theorem gl_row {P : Program} {w : World} {n : String} {cs : Array Value} (h : w.var? P n = some cs) {g : Nat} (hg : P.globalNamed n = some g) : ∃ e z, w.heap[g]? = some (.cells cs e z) := by
 unfold World.var? at h
 rw [hg] at h
 simp only [Option.bind_some] at h
 split at h
 ·
  rename_i c e z hh
  simp only [Option.some.injEq] at h
  exact ⟨e, z, by rw [hh, h]⟩
 · cases h
/-- A number that is not listed. -/
theorem gl_int {P : Program} {w : World} {g : Nat} {t : TypeId} {zero : Array Value} {k : IntKind} (h : w.ShapedOpen P) (hg : g < P.globals.size) (h0 : ((begin P (fun _ _ => 0) default).world.heap[g]?).bind Obj.row? = some (zero, t)) (hz : zero.size = 1)
  (hb : P.buildable t = true) (hc : P.cellTypes P.depth t = some [t]) (hu : P.underlying t = some (.int k)) : ∃ cs e z, w.heap[g]? = some (.cells cs e z) ∧ ∃ m, cs.toList = [.int k m] := by
 obtain ⟨m, hm⟩ := Go.Proofs.cell_of_shapedOpen_int h hg h0 hz hb hc hu
 obtain ⟨cs, hh, hs, _⟩ := h.1 g zero t hg h0
 refine ⟨cs, _, _, hh, m, ?_⟩
 have h1 : cs.toList.length = 1 := by rw [Array.length_toList]; omega
 obtain ⟨x, hx⟩ := List.length_eq_one_iff.1 h1
 rw [hx]
 have : w.cell? ⟨g, 0, none⟩ = some x := by
  rw [Lib.cell_of_heap hh, ← Array.getElem?_toList, hx]; rfl
 rw [hm] at this
 injection this with this
 rw [this]
/-- What the four variables hold. -/
theorem GLW.of {P : Program} {w : World} (h1 : ∀ g, P.globalNamed "internal/strconv.uint64pow10" = some g → ∃ cs e z, w.heap[g]? = some (.cells cs e z) ∧ cs.toList = (List.range 20).map fun k => .int .u64 ((10 ^ k : Nat) : Int))
  (h2 : ∀ g, P.globalNamed "strconv.ErrSyntax" = some g → ∃ cs e z, w.heap[g]? = some (.cells cs e z) ∧ ∃ t p, cs.toList = [.iface t p])
  (h3 : ∀ g, P.globalNamed "strconv.ErrRange" = some g → ∃ cs e z, w.heap[g]? = some (.cells cs e z) ∧ ∃ t p, cs.toList = [.iface t p])
  (h4 : ∀ g, P.globalNamed "internal/bytealg.MaxLen" = some g → ∃ cs e z, w.heap[g]? = some (.cells cs e z) ∧ ∃ m, cs.toList = [.int .i64 m])
  (h5 : ∀ g, P.globalNamed "strings.asciiSpace" = some g → ∃ cs e z, w.heap[g]? = some (.cells cs e z) ∧ cs.toList = (List.range 256).map fun k => .int .u8 (if k = 9 ∨ k = 10 ∨ k = 11 ∨ k = 12 ∨ k = 13 ∨ k = 32 then 1 else 0)) : GLW P w := by
 intro q hq g hg
 simp only [glTab, List.mem_cons, List.not_mem_nil, or_false] at hq
 rcases hq with rfl | rfl | rfl | rfl | rfl
 · exact h1 g hg
 · exact h2 g hg
 · exact h3 g hg
 · exact h4 g hg
 · exact h5 g hg
end Go.Proofs.YtocnabkanbifdaaGreatDoor

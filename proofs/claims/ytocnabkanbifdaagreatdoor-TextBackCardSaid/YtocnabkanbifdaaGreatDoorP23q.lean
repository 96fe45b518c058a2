/-
  The law in plain words: what its plain function gives is true. No condition beyond those that each theorem names.
-/
import Derived.Test.YtocnabkanbifdaaGreatDoorWalkTB1
import Derived.Test.YtocnabkanbifdaaGreatDoorP23n
set_option linter.unusedSimpArgs false
set_option linter.unusedVariables false
set_option linter.unusedSectionVars false
namespace Go.Proofs.YtocnabkanbifdaaGreatDoor
open Go Go.RowKit Go.Lib
set_option maxRecDepth 100000
set_option linter.unusedVariables false
/-! Lines that were shown, read one by one. -/
def StepL (G : GGraph) (ws : List (List UInt8)) (G' : GGraph) : Prop := f_text_reader_line_p0_s0_0_s0_1_s0_2_s0_3 ⟨G, 0⟩ (ws.map GStr.mk) = some ⟨G', 0⟩
def RunL : GGraph → List (List (List UInt8)) → GGraph → Prop
 | G, [], G' => G = G'
 | G, ws :: r, G' => ∃ G1, StepL G ws G1 ∧ RunL G1 r G'
theorem RunL.app : ∀ {l1 l2 : List (List (List UInt8))} {G G1 G' : GGraph}, RunL G l1 G1 → RunL G1 l2 G' → RunL G (l1 ++ l2) G'
 | [], _, _, _, _, h, h' => by cases h; exact h'
 | ws :: r, _, _, _, _, ⟨G2, h1, h2⟩, h' => ⟨G2, h1, RunL.app h2 h'⟩
/-- Words of a line as it is shown. -/
def okW (ws : List (List UInt8)) : Prop := ws ≠ [] ∧ ws.length ≤ 5 ∧ (∀ w ∈ ws, Wd w ∧ w ≠ [] ∧ w.length ≤ 21) ∧ ∃ c r t, ws = (c :: r) :: t ∧ c ≠ 35
theorem joinW_wd : ∀ {ws : List (List UInt8)}, (∀ w ∈ ws, Wd w) → ∀ c ∈ joinW ws, c ≠ 10 := by
 intro ws
 cases ws with
 | nil => intro _ c hc; simp [joinW] at hc
 | cons w r =>
  intro h c hc
  rw [joinW_cons, List.mem_append, List.mem_flatMap] at hc
  rcases hc with hc | ⟨v, hv, hc⟩
  ·
   have := h w (by simp) c hc
   intro e; rw [e] at this; simp at this
  ·
   rcases List.mem_cons.1 hc with rfl | hc
   · decide
   ·
    have := h v (by simp [hv]) c hc
    intro e; rw [e] at this; simp at this
theorem sp_body : ∀ (ls : List (List (List UInt8))), (∀ ws ∈ ls, okW ws) → sp (bodyL ls) = ls.map joinW ++ [[]]
 | [], _ => by simp [bodyL, sp]
 | ws :: r, h => by
  have h1 := sp_body r fun x hx => h x (by simp [hx])
  have e : bodyL (ws :: r) = joinW ws ++ 10 :: bodyL r := by simp [bodyL, lineW]
  rw [e, sp_app _ _ (joinW_wd fun w hw => ((h ws (by simp)).2.2.1 w hw).1), h1]
  rfl
theorem joinW_len21 {ws : List (List UInt8)} (h : okW ws) : (joinW ws).length ≤ 256 := by
 obtain ⟨_, h5, hw, _⟩ := h
 have key : ∀ (l : List (List UInt8)), (∀ w ∈ l, w.length ≤ 21) → lensW l ≤ 21 * l.length := by
  intro l
  induction l with
  | nil => intro _; simp [lensW]
  | cons w l ih =>
   intro h
   have h1 := ih fun x hx => h x (by simp [hx])
   have h2 := h w (by simp)
   simp only [lensW, List.map_cons, List.sum_cons, List.length_cons] at h1 ⊢
   omega
 cases ws with
 | nil => simp [joinW]
 | cons w r =>
  have h1 := key r fun x hx => (hw x (by simp [hx])).2.2
  have h2 := (hw w (by simp)).2.2
  rw [joinW_cons, List.length_append, sepsW_len]
  simp only [List.length_cons] at h5
  omega
theorem RunL.at : ∀ {ls : List (List (List UInt8))} {G g : GGraph}, RunL G ls g → ∀ i (h : i < ls.length) G1, RunL G (ls.take i) G1 → RunL G1 (ls.drop i) g → ∃ G2, StepL G1 ls[i] G2 ∧ RunL G (ls.take (i + 1)) G2 ∧ RunL G2 (ls.drop (i + 1)) g := by
 intro ls G g _ i h G1 h1 h2
 rw [List.drop_eq_getElem_cons h] at h2
 obtain ⟨G2, h3, h4⟩ := h2
 refine ⟨G2, h3, ?_, h4⟩
 rw [List.take_succ_eq_append_getElem h]
 exact h1.app ⟨G2, h3, rfl⟩
theorem Parse_run {ls : List (List (List UInt8))} {g : GGraph} (h : RunL ⟨[-1], [0], [], []⟩ ls g) (hok : ∀ ws ∈ ls, okW ws) (hl : ls.length ≤ 3000) (hb : (bodyL ls).length ≤ 100000000) : f_text_Parse (bodyL ls) = some (g, 0, 0) := by
 refine Ok.eq ?_
 unfold f_text_Parse
 refine Ok.bind (Ok.of_eq (split_eq (by omega)) ?_)
 rw [sp_body ls hok]
 have hlen : ((ls.map joinW ++ [[]]).map GStr.mk).length = ls.length + 1 := by simp
 refine Ok.each (l := (ls.map joinW ++ [[]]).map GStr.mk) (by rw [hlen]; omega) (fun i q => q.1 = 0 ∧ RunL ⟨[-1], [0], [], []⟩ (ls.take i) ⟨q.2.1, q.2.2.1, q.2.2.2.1, q.2.2.2.2⟩ ∧ RunL ⟨q.2.1, q.2.2.1, q.2.2.2.1, q.2.2.2.2⟩ (ls.drop i) g) 0 (fun rec i hi q _ hI hr => ?_) (fun rec q hI => ?_) ⟨rfl, by simp [RunL], by simpa using h⟩ (by omega)
 ·
  obtain ⟨b, a4, a5, a6, a7⟩ := q
  obtain ⟨h1, h2, h3⟩ := hI
  simp only at h1 h2 h3
  subst h1
  have hi0 := hi
  rw [hlen] at hi
  unfold f_text_Parse_B1
  simp only [hlen]
  rw [if_pos (by simp only [decide_eq_true_eq]; omega)]
  refine Ok.bind (Ok.idxN hi0 ?_)
  rcases Nat.lt_or_ge i ls.length with hlt | hge
  ·
   have hx : ((ls.map joinW ++ [[]]).map GStr.mk)[i]'hi0 = ⟨joinW ls[i]⟩ := by
    simp only [List.getElem_map]
    rw [List.getElem_append_left (by simpa using hlt)]
    simp
   rw [hx]
   have hw := hok _ (List.getElem_mem hlt)
   have hj := joinW_len21 hw
   refine Ok.iteB (fun hc => absurd hc (by simp; omega)) (fun _ => ?_)
   refine Ok.bind (Ok.of_eq (fieldsT_eq (by show (joinW ls[i]).length ≤ _; omega)) ?_)
   have hf : flds (joinW ls[i]) = ls[i].map GStr.mk := flds_join hw.1 fun w hx => ⟨(hw.2.2.1 w hx).1, (hw.2.2.1 w hx).2.1⟩
   rw [hf, wrap_succ (by omega)]
   obtain ⟨c, r, t, he, hc35⟩ := hw.2.2.2
   obtain ⟨G2, s1, s2, s3⟩ := h.at i hlt _ h2 h3
   refine Ok.iteB (fun hc => absurd hc (by rw [he]; simp; omega)) (fun _ => ?_)
   refine Ok.bind (Ok.idxN (i := 0) (by rw [he]; simp) ?_)
   have hg0 : (ls[i].map GStr.mk)[0]'(by rw [he]; simp) = ⟨c :: r⟩ := by simp [he]
   rw [hg0]
   refine Ok.bind (Ok.idxN (i := 0) (by simp) ?_)
   refine Ok.iteB (fun hc => absurd hc ?_) (fun _ => ?_)
   ·
    simp only [List.getElem_cons_zero, beq_iff_eq]
    intro e
    exact hc35 (UInt8.toNat_inj.1 (by show c.toNat = 35; omega))
   refine Ok.bind (Ok.of_eq s1 ?_)
   refine Ok.iteB (fun hc => absurd hc (by simp)) (fun _ => ?_)
   exact hr (0, G2.Parent, G2.Bound, G2.Nodes, G2.Edges) ⟨rfl, s2, s3⟩
  ·
   obtain rfl : i = ls.length := by omega
   have hx : ((ls.map joinW ++ [[]]).map GStr.mk)[ls.length]'hi0 = ⟨[]⟩ := by
    simp only [List.getElem_map]
    rw [List.getElem_append_right (by simp)]
    simp
   rw [hx]
   refine Ok.iteB (fun hc => absurd hc (by simp; omega)) (fun _ => ?_)
   refine Ok.bind (Ok.of_eq (fieldsT_eq (by simp)) ?_)
   rw [wrap_succ (by omega)]
   refine Ok.iteB (fun _ => hr _ ⟨rfl, ?_, ?_⟩) (fun hc => absurd hc (by decide +kernel))
   ·
    rw [List.take_of_length_le (by omega)]
    rw [List.take_length] at h2; exact h2
   ·
    rw [List.drop_of_length_le (by omega)]
    rw [List.drop_length] at h3; exact h3
 ·
  obtain ⟨b, a4, a5, a6, a7⟩ := q
  obtain ⟨h1, h2, h3⟩ := hI
  unfold f_text_Parse_B1
  simp only
  rw [if_neg (by simp)]
  rw [List.drop_of_length_le (by rw [hlen]; omega)] at h3
  have h3 : (⟨a4, a5, a6, a7⟩ : GGraph) = g := h3
  exact Ok.some (by rw [h3])
end Go.Proofs.YtocnabkanbifdaaGreatDoor

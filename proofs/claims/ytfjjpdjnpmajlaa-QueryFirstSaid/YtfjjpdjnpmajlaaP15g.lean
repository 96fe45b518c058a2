/-
  The law in plain words: what its plain function gives is true. No condition beyond those that each theorem names.
-/
import Derived.Test.YtfjjpdjnpmajlaaP15f
import Derived.Test.YtfjjpdjnpmajlaaWalkQF0
set_option linter.unusedSimpArgs false
set_option linter.unusedVariables false
namespace Go.Proofs.Ytfjjpdjnpmajlaa
open Go Go.RowKit Go.Sort
namespace QY
variable {lt : GRow → GRow → Bool} {cmp : GRow → GRow → Option Int}
def Low (X Y : TS) : Prop := ∀ x ∈ X, ∀ y ∈ Y, x.2 < y.2
theorem low_sub {X X' Y Y' : TS} (h : Low X Y) (hx : ∀ x ∈ X', x ∈ X) (hy : ∀ y ∈ Y', y ∈ Y) : Low X' Y' := fun x a y b => h x (hx x a) y (hy y b)
theorem lows_merge {E R : List TS} {X Y Z : TS} (h : (E ++ X :: Y :: R).Pairwise Low) (hz : ∀ z ∈ Z, z ∈ X ∨ z ∈ Y) : (E ++ Z :: R).Pairwise Low ∧ Low X Y := by
  rw [List.pairwise_append] at h ⊢
  obtain ⟨h1, h2, h3⟩ := h
  rw [List.pairwise_cons] at h2
  obtain ⟨h4, h5⟩ := h2
  rw [List.pairwise_cons] at h5
  obtain ⟨h6, h7⟩ := h5
  refine ⟨⟨h1, List.pairwise_cons.2 ⟨fun r hr z hzz y hy => ?_, h7⟩, fun e he q hq => ?_⟩, h4 Y (by simp)⟩
  · rcases hz z hzz with hz | hz
    · exact h4 r (by simp [hr]) z hz y hy
    · exact h6 r hr z hz y hy
  · rcases List.mem_cons.1 hq with rfl | hq
    · intro x hx y hy
      rcases hz y hy with hz | hz
      · exact h3 e he X (by simp) x hx y hz
      · exact h3 e he Y (by simp) x hx y hz
    · exact h3 e he q (by simp [hq])
theorem lows_repl {E R : List TS} {X Z : TS} (h : (E ++ X :: R).Pairwise Low) (hz : ∀ z ∈ Z, z ∈ X) : (E ++ Z :: R).Pairwise Low := by
  rw [List.pairwise_append] at h ⊢
  obtain ⟨h1, h2, h3⟩ := h
  rw [List.pairwise_cons] at h2
  refine ⟨h1, List.pairwise_cons.2 ⟨fun r hr z hzz y hy => h2.1 r hr z (hz z hzz) y hy, h2.2⟩, fun e he q hq => ?_⟩
  rcases List.mem_cons.1 hq with rfl | hq
  · exact fun x hx y hy => h3 e he X (by simp) x hx y (hz y hy)
  · exact h3 e he q (by simp [hq])
theorem flat_len {w : Nat} : ∀ {Ds : List TS}, (∀ X ∈ Ds, X.length = w ∧ Srt lt X) → Ds.flatten.length = Ds.length * w
  | [], _ => by simp
  | X :: Ds, h => by
    rw [List.flatten_cons, List.length_append, (h X (by simp)).1, flat_len (fun Y hY => h Y (by simp [hY])), List.length_cons, Nat.add_mul]; omega
/-- Blocks of w, each sorted, the last one shorter; each block's places ahead of the next one's. -/
structure BL (lt : GRow → GRow → Bool) (w : Nat) (T0 : TS) (Ds : List TS) (L : TS) : Prop where
  full : ∀ X ∈ Ds, X.length = w ∧ Srt lt X
  srt : Srt lt L
  len : L.length ≤ w
  low : (Ds ++ [L]).Pairwise Low
  perm : (Ds.flatten ++ L).Perm T0
def Done (lt : GRow → GRow → Bool) (T0 : TS) (r : List GRow) : Prop := ∃ T : TS, r = T.map Prod.fst ∧ T.Perm T0 ∧ Srt lt T
theorem merge_ok (hc : ∀ x y, ∃ n, cmp x y = some n ∧ (n < 0 ↔ lt x y = true)) (hO : SWO lt) {A X Y B : TS} {a m b : Int} (ha : a = A.length) (hm : m = ((A.length + X.length : Nat) : Int)) (hb : b = ((A.length + X.length + Y.length : Nat) : Int)) (hx : X ≠ []) (hy : Y ≠ []) (hlen : A.length + X.length + Y.length + B.length < 1000000) (hX : Srt lt X) (hY : Srt lt Y) (hl : Low X Y) :
    Ok (f_slices_symMergeCmpFunc_Row_s0_0 ((A ++ X ++ Y ++ B).map Prod.fst) a m b cmp) (SymPost lt A X Y B) := by
  subst ha hm hb
  unfold f_slices_symMergeCmpFunc_Row_s0_0
  exact symMerge_ok hc hO rounds hx hy (by simp only [rounds]; omega) hlen hX hY hl
theorem stage (hc : ∀ x y, ∃ n, cmp x y = some n ∧ (n < 0 ↔ lt x y = true)) (hO : SWO lt) {T0 : TS} (hn : T0.length < 100000) {w : Nat} (hw : 20 ≤ w) (hw2 : w < T0.length) {R : List GRow → Prop} {rec : Int × List GRow → Option (List GRow)} {Ds : List TS} {L : TS} (h : BL lt w T0 Ds L)
    (hnext : ∀ Ds' L', BL lt (w * 2) T0 Ds' L' → Ok (rec (((w * 2 : Nat) : Int), (Ds'.flatten ++ L').map Prod.fst)) R) :
    Ok (loopK (f_slices_stableCmpFunc_Row_s0_0_B4 (T0.length : Int) cmp (w : Int) rec) rounds (0, IntKind.i64.wrap (2 * (w : Int)), (Ds.flatten ++ L).map Prod.fst)) R := by
  rw [wrap_i64 _ (by omega)]
  refine Ok.loop0 (fun s => ∃ (Es Ds : List TS) (L : TS), s.1 = ((Es.length * (2 * w) : Nat) : Int) ∧ s.2.1 = ((Es.length * (2 * w) + 2 * w : Nat) : Int) ∧ s.2.2 = (Es.flatten ++ (Ds.flatten ++ L)).map Prod.fst ∧ (∀ X ∈ Es, X.length = 2 * w ∧ Srt lt X) ∧ (∀ X ∈ Ds, X.length = w ∧ Srt lt X) ∧ Srt lt L ∧ L.length ≤ w ∧ (Es ++ (Ds ++ [L])).Pairwise Low ∧ (Es.flatten ++ (Ds.flatten ++ L)).Perm T0)
    (fun s => T0.length - s.1.toNat) ?_ ⟨[], Ds, L, by simp, by simp, by simp, by simp, h.full, h.srt, h.len, by simpa using h.low, by simpa using h.perm⟩ (by simp only [rounds]; omega)
  rintro rec4 ⟨a, b, q⟩ ⟨Es, Ds, L, ha, hb, hq, hE, hD, hsL, hL, hlow, hperm⟩ hr
  simp only at ha hb hq
  subst ha hb hq
  have hEl : Es.flatten.length = Es.length * (2 * w) := flat_len hE
  have hDl : Ds.flatten.length = Ds.length * w := flat_len hD
  have htot := hperm.length_eq
  simp only [List.length_append, hEl, hDl] at htot
  generalize hea : Es.length * (2 * w) = ea at *
  have hdl : ((Es.flatten ++ (Ds.flatten ++ L)).map Prod.fst).length = T0.length := by rw [List.length_map, hperm.length_eq]
  -- one merge
  have one : ∀ (X Y : TS) (Ds' : List TS) (L' : TS), X.length = w → Y.length = w → Srt lt X → Srt lt Y → Ds.flatten ++ L = X ++ Y ++ (Ds'.flatten ++ L') → (Es ++ (X :: Y :: (Ds' ++ [L']))).Pairwise Low → (∀ X ∈ Ds', X.length = w ∧ Srt lt X) → Srt lt L' → L'.length ≤ w →
      Ok (bindO (f_slices_symMergeCmpFunc_Row_s0_0 ((Es.flatten ++ (Ds.flatten ++ L)).map Prod.fst) (ea : Int) (IntKind.i64.wrap ((ea : Int) + (w : Int))) ((ea + 2 * w : Nat) : Int) cmp) fun v => guardO (List.length v = List.length ((Es.flatten ++ (Ds.flatten ++ L)).map Prod.fst)) (rec4 (((ea + 2 * w : Nat) : Int), IntKind.i64.wrap (((ea + 2 * w : Nat) : Int) + IntKind.i64.wrap (2 * (w : Int))), v))) R := fun X Y Ds' L' hX hY sX sY he hlow' hD' sL' hL' => by
    have hlen' : Es.flatten.length + X.length + Y.length + (Ds'.flatten ++ L').length = T0.length := by
      have := congrArg List.length he
      simp only [List.length_append, hDl] at this
      simp only [List.length_append, hEl]; omega
    have eT : Es.flatten ++ (X ++ Y ++ (Ds'.flatten ++ L')) = Es.flatten ++ X ++ Y ++ (Ds'.flatten ++ L') := by simp
    rw [he, eT] at hperm hdl ⊢
    have hmg := lows_merge (Z := X ++ Y) hlow' (fun z hz => List.mem_append.1 hz)
    refine Ok.bind ((merge_ok hc hO (A := Es.flatten) (X := X) (Y := Y) (B := Ds'.flatten ++ L') (by omega) (by rw [wrap_i64 _ (by omega)]; omega) (by omega) (by rintro rfl; simp at hX; omega) (by rintro rfl; simp at hY; omega) (by omega) sX sY hmg.2).mono fun r hr' => ?_)
    obtain ⟨Z, rfl, pZ, sZ⟩ := hr'
    have hZl := pZ.length_eq
    rw [List.length_append] at hZl
    have hmem : ∀ z ∈ Z, z ∈ X ∨ z ∈ Y := fun z hz => List.mem_append.1 (pZ.mem_iff.1 hz)
    refine Ok.guard (by rw [hdl, List.length_map]; simp only [List.length_append] at hlen' ⊢; omega) ?_
    rw [wrap_i64 (2 * (w : Int)) (by omega), wrap_i64 _ (by omega)]
    refine hr _ ⟨Es ++ [Z], Ds', L', ?_, ?_, ?_, ?_, hD', sL', hL', ?_, ?_⟩ ?_
    · simp only [List.length_append, List.length_singleton, Nat.add_mul, hea]; omega
    · simp only [List.length_append, List.length_singleton, Nat.add_mul, hea]; omega
    · simp
    · intro W hW
      rcases List.mem_append.1 hW with hW | hW
      · exact hE W hW
      · rw [List.mem_singleton] at hW; subst hW; exact ⟨by omega, sZ⟩
    · have := (lows_merge hlow' hmem).1
      rw [List.append_assoc, List.singleton_append]
      exact this
    · refine List.Perm.trans ?_ hperm
      simp only [List.flatten_append, List.flatten_cons, List.flatten_nil, List.append_nil, List.append_assoc]
      exact List.Perm.append_left _ (by rw [← List.append_assoc X]; exact List.Perm.append_right _ pZ)
    · simp only [Int.toNat_natCast]; omega
  unfold f_slices_stableCmpFunc_Row_s0_0_B4
  simp only
  refine Ok.iteB (fun hx => ?_) (fun hx => ?_)
  · simp only [decide_eq_true_eq] at hx
    match Ds, hD, hDl, hlow, one with
    | [], _, hDl, _, _ => simp at htot; omega
    | [X], hD, _, hlow, one =>
      simp at htot
      have := one X L [] [] (hD X (by simp)).1 (by omega) (hD X (by simp)).2 hsL (by simp) ?_ (by simp) List.Pairwise.nil (by simp)
      · exact this
      · rw [List.pairwise_append] at hlow ⊢
        obtain ⟨h1, h2, h3⟩ := hlow
        simp only [List.cons_append, List.nil_append] at h2 h3
        refine ⟨h1, ?_, ?_⟩
        · simp only [List.nil_append]
          rw [List.pairwise_cons] at h2 ⊢
          refine ⟨fun q hq => ?_, ?_⟩
          · simp only [List.mem_cons, List.not_mem_nil, or_false] at hq
            rcases hq with rfl | rfl
            · exact h2.1 _ (by simp)
            · intro x _ y hy; cases hy
          · rw [List.pairwise_cons]
            refine ⟨fun q hq => ?_, List.pairwise_singleton _ _⟩
            simp only [List.mem_cons, List.not_mem_nil, or_false] at hq
            subst hq; intro x _ y hy; cases hy
        · intro e he q hq
          simp only [List.nil_append, List.mem_cons, List.not_mem_nil, or_false] at hq
          rcases hq with rfl | rfl | rfl
          · exact h3 e he _ (by simp)
          · exact h3 e he _ (by simp)
          · intro x _ y hy; cases hy
    | X :: Y :: Ds', hD, _, hlow, one =>
      exact one X Y Ds' L (hD X (by simp)).1 (hD Y (by simp)).1 (hD X (by simp)).2 (hD Y (by simp)).2 (by simp) (by simpa using hlow) (fun W hW => hD W (by simp [hW])) hsL hL
  · simp only [decide_eq_false_iff_not] at hx
    unfold f_slices_stableCmpFunc_Row_s0_0_J3
    rw [wrap_i64 ((ea : Int) + (w : Int)) (by omega), wrap_i64 ((w : Int) * 2) (by omega), show (w : Int) * 2 = ((w * 2 : Nat) : Int) by omega]
    have hw22 : 2 * w = w * 2 := by omega
    match Ds, hD, hDl, hlow, hperm with
    | [], _, hDl, hlow, hperm =>
      simp at htot
      refine Ok.iteB (fun hy => by simp only [decide_eq_true_eq] at hy; omega) (fun hy => ?_)
      have := hnext Es L ⟨by rw [← hw22]; exact hE, hsL, by omega, by simpa using hlow, by simpa using hperm⟩
      simpa using this
    | [X], hD, _, hlow, hperm =>
      simp at htot
      have hX := hD X (by simp)
      refine Ok.iteB (fun hy => ?_) (fun hy => ?_)
      · simp only [decide_eq_true_eq] at hy
        have hlow' : (Es ++ X :: L :: []).Pairwise Low := by simpa using hlow
        have hmg := lows_merge (Z := X ++ L) hlow' (fun z hz => List.mem_append.1 hz)
        have e1 : Es.flatten ++ (List.flatten [X] ++ L) = Es.flatten ++ X ++ L ++ [] := by simp
        rw [e1]
        refine Ok.bind ((merge_ok hc hO (A := Es.flatten) (X := X) (Y := L) (B := []) (by omega) (by omega) (by omega) (by rintro rfl; simp at hX; omega) (by rintro rfl; simp at htot; omega) (by simp only [List.length_nil]; omega) hX.2 hsL hmg.2).mono fun r hr' => ?_)
        obtain ⟨Z, rfl, pZ, sZ⟩ := hr'
        have hZl := pZ.length_eq
        rw [List.length_append] at hZl
        refine Ok.guard (by simp only [List.length_map, List.length_append, List.length_nil]; omega) ?_
        have := hnext Es Z ⟨by rw [← hw22]; exact hE, sZ, by omega, (lows_merge hlow' (fun z hz => List.mem_append.1 (pZ.mem_iff.1 hz))).1, by
          refine List.Perm.trans ?_ hperm
          exact List.Perm.append_left _ (by simpa using pZ)⟩
        simpa using this
      · simp only [decide_eq_false_iff_not] at hy
        have hL0 : L = [] := List.eq_nil_of_length_eq_zero (by omega)
        subst hL0
        have := hnext Es X ⟨by rw [← hw22]; exact hE, hX.2, by omega, by
          rw [List.pairwise_append] at hlow ⊢
          exact ⟨hlow.1, List.pairwise_singleton _ _, fun e he q hq => hlow.2.2 e he q (by simp at hq ⊢; exact .inl hq)⟩, by simpa using hperm⟩
        simpa using this
    | X :: Y :: Ds', hD, hDl, _, _ =>
      simp only [List.length_cons] at htot
      have : (Ds'.length + 1 + 1) * w = Ds'.length * w + w + w := by rw [Nat.add_mul, Nat.add_mul]; omega
      rw [this] at htot
      omega
end QY
end Go.Proofs.Ytfjjpdjnpmajlaa


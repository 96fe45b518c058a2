/-
  The law in plain words: what its plain function gives is true. No condition beyond those that each theorem names.
-/
import Derived.Test.YtocnabkanbifdaaGreatDoorWalkTB0
import Derived.Test.YtocnabkanbifdaaGreatDoorP23a
set_option linter.unusedSimpArgs false
set_option linter.unusedVariables false
set_option linter.unusedSectionVars false
namespace Go.Proofs.YtocnabkanbifdaaGreatDoor
open Go Go.RowKit Go.Lib
set_option maxRecDepth 100000
/-! Words put together with a space between each two. -/
theorem joinW_cons (w : List UInt8) : ∀ (r : List (List UInt8)), joinW (w :: r) = w ++ r.flatMap (fun v => 32 :: v)
 | [] => by simp [joinW]
 | v :: r => by simp only [joinW, List.flatMap_cons, joinW_cons v r, List.cons_append]
def lensW (ws : List (List UInt8)) : Nat := (ws.map List.length).sum
theorem lensW_take {ws : List (List UInt8)} {i : Nat} (h : i < ws.length) : lensW (ws.take (i + 1)) = lensW (ws.take i) + ws[i].length := by
 unfold lensW
 rw [List.take_succ_eq_append_getElem h, List.map_append, List.sum_append]; simp
theorem lensW_le {ws : List (List UInt8)} : ∀ (_ : ∀ w ∈ ws, w.length ≤ 64), lensW ws ≤ 64 * ws.length := by
 induction ws with
 | nil => intro _; simp [lensW]
 | cons w ws ih =>
  intro h
  have h1 := ih fun x hx => h x (by simp [hx])
  have h2 := h w (by simp)
  simp only [lensW, List.map_cons, List.sum_cons, List.length_cons] at h1 ⊢
  omega
theorem sepsW_len : ∀ (r : List (List UInt8)), (r.flatMap (fun v => (32 : UInt8) :: v)).length = lensW r + r.length
 | [] => rfl
 | v :: r => by
  simp only [List.flatMap_cons, List.length_append, List.length_cons, sepsW_len r, lensW, List.map_cons, List.sum_cons]
  omega
theorem joinW_len {ws : List (List UInt8)} (h : ∀ w ∈ ws, w.length ≤ 64) : (joinW ws).length ≤ 65 * ws.length := by
 cases ws with
 | nil => simp [joinW]
 | cons w r =>
  have h1 := lensW_le (ws := r) fun x hx => h x (by simp [hx])
  have h2 := h w (by simp)
  rw [joinW_cons, List.length_append, sepsW_len, List.length_cons]
  omega
theorem writeJ {l s : List UInt8} (h : l.length + s.length ≤ 140737488355328) : f_strings_Builder_WriteString_T49_p0 l s = some ((s.length : Int), true, l ++ s) := by
 unfold f_strings_Builder_WriteString_T49_p0 bwriteF
 rw [show guardO (l.length + s.length ≤ 140737488355328) (some ((s.length : Int), true, l ++ s)) = some ((s.length : Int), true, l ++ s) by unfold guardO; rw [if_pos h]]
 rfl
theorem Join_eq {ws : List (List UInt8)} (h2 : 2 ≤ ws.length) (h5 : ws.length ≤ 5) (hw : ∀ w ∈ ws, w.length ≤ 64) : f_strings_Join (ws.map GStr.mk) [32] = some (joinW ws) := by
 have hll := lensW_le hw
 have hn : ws.length = 2 ∨ ws.length = 3 ∨ ws.length = 4 ∨ ws.length = 5 := by omega
 refine Ok.eq ?_
 unfold f_strings_Join
 refine Ok.iteB (fun hc => absurd hc (by simp; intro e; rw [e] at h2; simp at h2)) (fun _ => Ok.iteB (fun hc => absurd hc (by simp; omega)) (fun _ => Ok.iteB (fun _ => ?_) (fun hc => absurd hc (by simp))))
 have e1 : IntKind.i64.wrap (((ws.map GStr.mk).length : Int) - 1) = ((ws.length - 1 : Nat) : Int) := by rw [List.length_map, wrap_i64 _ (by omega)]; omega
 rw [e1]
 refine Ok.guard (by omega) (Ok.iteB (fun hc => absurd hc ?_) (fun _ => ?_))
 · rcases hn with h | h | h | h <;> rw [h] <;> decide
 unfold f_strings_Join_J6
 rw [e1, show IntKind.i64.wrap ((([32] : List UInt8).length : Int) * ((ws.length - 1 : Nat) : Int)) = ((ws.length - 1 : Nat) : Int) by rw [show ((([32] : List UInt8).length : Int)) = 1 from rfl, Int.one_mul, wrap_i64 _ (by omega)],
  show IntKind.i64.wrap (0 + ((ws.length - 1 : Nat) : Int)) = ((ws.length - 1 : Nat) : Int) by rw [Int.zero_add, wrap_i64 _ (by omega)]]
 unfold f_strings_Join_J1
 refine Ok.loop0 (fun s => ∃ i : Nat, s.2 = (i : Int) ∧ i ≤ ws.length ∧ s.1 = ((ws.length - 1 + lensW (ws.take i) : Nat) : Int)) (fun s => ws.length - s.2.toNat) ?_ ⟨0, rfl, Nat.zero_le _, by simp [lensW]⟩ (by simp only [rounds]; omega)
 rintro rec ⟨nv, t⟩ ⟨i, rfl, hi, rfl⟩ hr
 unfold f_strings_Join_B5
 simp only
 refine Ok.iteB (fun hc => ?_) (fun hc => ?_)
 ·
  simp only [List.length_map, decide_eq_true_eq] at hc
  have hi' : i < ws.length := by omega
  refine Ok.bind (Ok.idxN (by simpa using hi') ?_)
  have hwi := hw _ (List.getElem_mem hi')
  have ht := lensW_take hi'
  have hle : lensW (ws.take (i + 1)) ≤ 64 * 5 := by
   have := lensW_le (ws := ws.take (i + 1)) fun w hw' => hw w (List.mem_of_mem_take hw')
   rw [List.length_take] at this
   omega
  simp only [List.getElem_map]
  refine Ok.iteB (fun hc2 => absurd hc2 ?_) (fun _ => ?_)
  ·
   simp only [decide_eq_true_eq]
   rw [wrap_i64 _ (by omega)]
   omega
  ·
   refine hr _ ⟨i + 1, wrapS (by omega), by omega, ?_⟩ ?_
   ·
    show IntKind.i64.wrap _ = _
    rw [ht, wrap_i64 _ (by omega)]; omega
   ·
    show ws.length - (IntKind.i64.wrap ((i : Int) + 1)).toNat < _
    rw [wrapS (by omega)]; simp only [Int.toNat_natCast]; omega
 ·
  simp only [List.length_map, decide_eq_false_iff_not] at hc
  obtain rfl : i = ws.length := by omega
  rw [List.take_length]
  unfold f_strings_Join_J2 f_strings_Builder_Grow_T49_p0 bgrowF
  refine Ok.bind (Ok.guard ⟨rfl, by omega, by omega⟩ (Ok.some ?_))
  refine Ok.bind (Ok.idxN (l := ws.map GStr.mk) (i := 0) (by simp; omega) ?_)
  obtain ⟨w, r, rfl⟩ : ∃ w r, ws = w :: r := by
   cases ws with
   | nil => simp at h2
   | cons w r => exact ⟨w, r, rfl⟩
  have hw0 := hw w (by simp)
  simp only [List.map_cons, List.getElem_cons_zero]
  refine Ok.bind (Ok.of_eq (writeJ (by simp; omega)) ?_)
  refine Ok.guard (by simp only [List.length_cons, List.length_map]; omega) ?_
  have hd : List.drop (Int.toNat 1) (List.take ((GStr.mk w :: r.map GStr.mk).length) (GStr.mk w :: r.map GStr.mk)) = r.map GStr.mk := by
   rw [List.take_length]; rfl
  have hb4 : ∀ rec, f_strings_Join_B4 (GStr.mk w :: r.map GStr.mk) [32] rec = fun (q : Int × List UInt8) => (if (decide (q.1 < ((r.map GStr.mk).length : Int))) = true then bindO (idx (r.map GStr.mk) q.1) (fun (xv_10 : GStr) =>
    bindO (f_strings_Builder_WriteString_T49_p0 (q.2 : List UInt8) [32]) (fun (v_13 : Int × Bool × (List UInt8)) =>
    bindO (f_strings_Builder_WriteString_T49_p0 (v_13.2.2 : List UInt8) xv_10.s) (fun (v_14 : Int × Bool × (List UInt8)) =>
    rec (IntKind.i64.wrap (q.1 + 1), v_14.2.2))))
    else f_strings_Join_J3 q.2) := fun rec => by
   funext q
   unfold f_strings_Join_B4
   simp only [hd]
  have hlr := lensW_le (ws := r) fun x hx => hw x (by simp [hx])
  simp only [List.length_cons] at h5
  refine Ok.each (l := r) (by omega) (fun i b => b = w ++ (r.take i).flatMap (fun v => 32 :: v)) 0 ?_ ?_ (by simp) (Nat.zero_le _)
  ·
   rintro rec i hi s _ rfl hr
   rw [hb4]
   have hwi := hw _ (List.mem_cons_of_mem _ (List.getElem_mem hi))
   have hl2 : ((r.take i).flatMap (fun v => (32 : UInt8) :: v)).length ≤ 65 * 5 := by
    rw [sepsW_len]
    have h3 := lensW_le (ws := r.take i) fun w hw' => hw w (List.mem_cons_of_mem _ (List.mem_of_mem_take hw'))
    rw [List.length_take] at h3 ⊢
    omega
   refine Ok.iteB (fun _ => ?_) (fun hc => absurd hc (by simp; omega))
   refine Ok.bind (Ok.idxN (by simpa using hi) ?_)
   simp only [List.getElem_map]
   refine Ok.bind (Ok.of_eq (writeJ (by simp only [List.length_append, List.length_cons, List.length_nil]; omega)) ?_)
   refine Ok.bind (Ok.of_eq (writeJ (by simp only [List.length_append, List.length_cons, List.length_nil]; omega)) ?_)
   simp only [wrapS (show i < 9223372036854775807 by omega)]
   refine hr _ ?_
   rw [flatMap_take hi]
   simp
  ·
   rintro rec s rfl
   rw [hb4]
   refine Ok.iteB (fun hc => absurd hc (by simp)) (fun _ => ?_)
   unfold f_strings_Join_J3 f_strings_Builder_String_T49_p0 bstringF
   rw [List.take_length]
   refine Ok.bind (Ok.some (Ok.some ?_))
   rw [joinW_cons]
end Go.Proofs.YtocnabkanbifdaaGreatDoor

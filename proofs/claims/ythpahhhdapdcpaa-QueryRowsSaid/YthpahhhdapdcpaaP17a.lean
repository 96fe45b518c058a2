/-
  The law in plain words: what its plain function gives is true. No condition beyond those that each theorem names.
-/
import Derived.Test.YthpahhhdapdcpaaP14a
set_option linter.unusedSimpArgs false
set_option linter.unusedVariables false
namespace Go.Proofs.Ythpahhhdapdcpaa
open Go Go.RowKit
namespace QY
/-! Rows told by what they are: each key once, in order, with what its values are. -/
def vals (R : List GRec) (k : Int) : List Int := (R.filter (fun x => x.K == k)).map (·.V)
def fits (n : Int) : Prop := -9223372036854775808 ≤ n ∧ n < 9223372036854775808
instance (n : Int) : Decidable (fits n) := by unfold fits; infer_instance
structure RowOf (L : List Int) (r : GRow) : Prop where
  ne : L ≠ []
  many : r.Many = (L.length : Int)
  lm : r.Least ∈ L
  ll : ∀ v ∈ L, r.Least ≤ v
  tm : r.Top ∈ L
  tt : ∀ v ∈ L, v ≤ r.Top
  sure : r.Sure = decide (fits L.sum)
  sum : r.Sum = if fits L.sum then L.sum else 0
theorem RowOf.unique {L : List Int} {r r' : GRow} (h : RowOf L r) (h' : RowOf L r') (hk : r.K = r'.K) : r = r' := by
  obtain ⟨k, m, l, t, s, u⟩ := r
  obtain ⟨k', m', l', t', s', u'⟩ := r'
  have e1 := h.ll _ h'.lm
  have e2 := h'.ll _ h.lm
  have e3 := h.tt _ h'.tm
  have e4 := h'.tt _ h.tm
  have e5 := h.many.trans h'.many.symm
  have e6 := h.sure.trans h'.sure.symm
  have e7 := h.sum.trans h'.sum.symm
  simp only at hk e1 e2 e3 e4 e5 e6 e7
  have e8 : l = l' := by omega
  have e9 : t = t' := by omega
  rw [hk, e5, e6, e7, e8, e9]
theorem sum_perm {a b : List Int} (h : a.Perm b) : a.sum = b.sum := by
  induction h with
  | nil => rfl
  | cons x _ ih => simp [ih]
  | swap x y l => simp only [List.sum_cons]; omega
  | trans _ _ h1 h2 => exact h1.trans h2
theorem RowOf.perm {L L' : List Int} {r : GRow} (p : L.Perm L') (h : RowOf L r) : RowOf L' r := by
  have hs := sum_perm p
  exact ⟨fun e => h.ne (by rw [e] at p; exact List.Perm.eq_nil p), by rw [h.many, p.length_eq], p.mem_iff.1 h.lm, fun v hv => h.ll v (p.mem_iff.2 hv), p.mem_iff.1 h.tm, fun v hv => h.tt v (p.mem_iff.2 hv), by rw [← hs]; exact h.sure, by rw [← hs]; exact h.sum⟩
theorem vals_perm {R R' : List GRec} (p : R.Perm R') (k : Int) : (vals R k).Perm (vals R' k) := (p.filter _).map _
theorem vals_append (A B : List GRec) (k : Int) : vals (A ++ B) k = vals A k ++ vals B k := by simp [vals]
theorem vals_nil {R : List GRec} {k : Int} (h : ∀ x ∈ R, x.K ≠ k) : vals R k = [] := by
  unfold vals
  rw [List.filter_eq_nil_iff.2 (fun x hx => by simpa using h x hx)]; rfl
theorem vals_one (x : GRec) : vals [x] x.K = [x.V] := by simp [vals]
theorem vals_other {x : GRec} {k : Int} (h : x.K ≠ k) : vals [x] k = [] := vals_nil (by simpa using h)
structure Right (R : List GRec) (rs : List GRow) : Prop where
  inc : rs.Pairwise (fun a b => a.K < b.K)
  row : ∀ r ∈ rs, RowOf (vals R r.K) r
  all : ∀ x ∈ R, ∃ r ∈ rs, r.K = x.K
theorem vals_ne {R : List GRec} {k : Int} (h : vals R k ≠ []) : ∃ x ∈ R, x.K = k := by
  unfold vals at h
  cases hf : R.filter (fun x => x.K == k) with
  | nil => rw [hf] at h; simp at h
  | cons x l =>
    have : x ∈ R.filter (fun x => x.K == k) := by rw [hf]; simp
    rw [List.mem_filter] at this
    exact ⟨x, this.1, by simpa using this.2⟩
theorem Right.sub {R : List GRec} {rs rs' : List GRow} (h : Right R rs) (h' : Right R rs') : ∀ r ∈ rs, r ∈ rs' := by
  intro r hr
  obtain ⟨x, hx, hk⟩ := vals_ne (h.row r hr).ne
  obtain ⟨r', hr', hk'⟩ := h'.all x hx
  have e : r.K = r'.K := by rw [hk', hk]
  have := h'.row r' hr'
  rw [← e] at this
  rw [(h.row r hr).unique this e]; exact hr'
theorem inc_nodup {rs : List GRow} (h : rs.Pairwise (fun a b => a.K < b.K)) : rs.Nodup := h.imp fun hab e => by rw [e] at hab; omega
theorem Right.unique {R : List GRec} {rs rs' : List GRow} (h : Right R rs) (h' : Right R rs') : rs = rs' := by
  have p : rs.Perm rs' := (List.perm_ext_iff_of_nodup (inc_nodup h.inc) (inc_nodup h'.inc)).2 fun r => ⟨h.sub h' r, h'.sub h r⟩
  exact List.Perm.eq_of_pairwise (le := fun (a b : GRow) => a.K < b.K) (fun x y _ _ h1 h2 => by omega) h.inc h'.inc p
theorem Right.perm {R R' : List GRec} {rs : List GRow} (p : R.Perm R') (h : Right R rs) : Right R' rs :=
  ⟨h.inc, fun r hr => (h.row r hr).perm (vals_perm p _), fun x hx => h.all x (p.mem_iff.2 hx)⟩
/-- Each number once, in order. -/
structure Once (L : List Int) (es : List Int) : Prop where
  inc : es.Pairwise (· < ·)
  mem : ∀ x, x ∈ es ↔ x ∈ L
theorem Once.unique {L es es' : List Int} (h : Once L es) (h' : Once L es') : es = es' := by
  have nd : ∀ {l : List Int}, l.Pairwise (· < ·) → l.Nodup := fun h => h.imp fun hab e => by omega
  have p : es.Perm es' := (List.perm_ext_iff_of_nodup (nd h.inc) (nd h'.inc)).2 fun r => (h.mem r).trans (h'.mem r).symm
  exact List.Perm.eq_of_pairwise (le := (· < ·)) (fun x y _ _ h1 h2 => by omega) h.inc h'.inc p
end QY
end Go.Proofs.Ythpahhhdapdcpaa


/-
  Verification conditions for regions, calls, loops and draws, sound for the model; numbers. No condition beyond those that each theorem names.
-/
import Derived.Test.YteibkihbdgphnaaGreatLibA
import Derived.Room.Entries
import Derived.Lib.SliceRun
set_option linter.unusedSimpArgs false
set_option linter.unusedVariables false
set_option linter.unusedSectionVars false
open Option renaming some.injEq -> Xa, map_eq_some_iff -> Xg, bind_eq_some_iff -> Xq, isSome_iff_exists -> Xw, bind_some -> Zc
open List renaming replicate -> Xb, mem_append -> Xe, length_take -> Xh, mem_map_of_mem -> Xj, map_congr_left -> Xk, eq_of_mem_replicate -> Xl, eq_nil_of_length_eq_zero -> Xp, length_append -> Xr, mem_map -> Xs, getElem?_append_right -> Xt, flatten_cons -> Xu, mem_of_mem_take -> Xv, length_map -> Xy, size_toArray -> X1, all_eq_true -> X5, map_replicate -> X7, length_drop -> X9, length_nil -> Ya, mem_cons_of_mem -> Yb, cons.injEq -> Yc, flatten_append -> Yf, mem_cons_self -> Yg, getElem?_take -> Yh, map_cons -> Yj, getD_eq_getElem?_getD -> Yk, getElem?_append_left -> Ym, mem_flatten -> Yn, append_nil -> Yp, map_append -> Yq, take_zero -> Ys, length_replicate -> Yu, take_append_drop -> Yv, mem_append_right -> Yx, mem_of_mem_drop -> Yy, mem_append_left -> Y0, mem_cons -> Y1, replicate_succ -> Y3, take_succ_cons -> Y5, getElem?_drop -> Y6, nodup_append -> Y8, length_cons -> Zb, range -> Ze
open Nat renaming le_refl -> Xc, mul_le_mul_right -> Xi, add_zero -> Xm, add_mul -> Xo, min_eq_right -> Xx, not_lt_zero -> Xz, min_eq_left -> X0, zero_add -> X2, lt_succ_self -> X4, lt_of_lt_of_le -> Yi, lt_trichotomy -> Yl, lt_or_ge -> Yo, le_succ -> Yr, le_total -> Y7, one_mul -> Za
open Bool renaming and_eq_true -> Xd
open Prod renaming mk.injEq -> Xf
open Array renaming ext' -> Xn, getD_eq_getD_getElem? -> X3, getElem?_eq_some_iff -> X6, empty_append -> X8, mem_toList_iff -> Yd, getElem?_modify -> Yt, toArray_toList -> Yz, length_toList -> Y2, range -> Y9, mem_append -> Zd
open Int renaming mul_le_mul_of_nonneg_left -> Ye, toNat_of_nonneg -> Y4
open Classical renaming choose_spec -> Yw
namespace Go.Proofs.YteibkihbdgphnaaGreat
section
open Go Go.RowKit
def qq4 : List AV -> Option (List (List AV))
 | [] => some []
 | x :: xs => match q9b x, qq4 xs with
  | some r, some rs => some (r :: rs)
  | _, _ => none
def q8t : List (Nat × Operand) -> Nat -> Bool
 | [], _ => true
 | (i, _) :: r, k => i == k && q8t r (k + 1)
def qj8 (n : Nat) : List (List AV) -> Bool
 | [] => true
 | r :: rs => r.length == n && qj8 n rs
theorem qz1 {n : Nat} : ∀ {rs : List (List AV)}, qj8 n rs = true -> ∀ r ∈ rs, r.length = n
 | [], _, _, h => by simp at h
 | r :: rs, h, x, hx => by
  simp only [qj8, Xd, beq_iff_eq] at h; rcases Y1.1 hx with rfl | hx
  . exact h.1
  . exact qz1 h.2 x hx
section
variable {P : Program} {C : Ctx P} {s : St} {a : Act} {w : World} {β : Ghost} {nx : Nat} {ow : Nat -> Prop}
theorem zm8 (size : Nat) {ρ : Operand -> Value} : ∀ (ps : List (Nat × Operand)) (k : Nat) (cells : Array Value), q8t ps k = true -> (∀ p ∈ ps, (ρ p.2).cells.size = size) -> (k + ps.length) * size = cells.size ->
  Instr.fill (fun i => some (i * size, size)) cells (ps.map fun p => (p.1, ρ p.2)) = some ⟨cells.toList.take (k * size) ++ (ps.map fun p => (ρ p.2).cells.toList).flatten⟩
 | [], k, cells, _, _, h => by
  simp only [Ya, Xm] at h; simp only [List.map_nil, Instr.fill, List.flatten_nil, Yp]; rw [h]
  congr 1
  apply Xn; rw [List.take_of_length_le (by simp)]
 | (i, x) :: ps, k, cells, ho, hs, h => by
  simp only [q8t, Xd, beq_iff_eq] at ho; obtain ⟨rfl, ho⟩ := ho; have h1 := hs _ Yg; simp only at h1; simp only [Zb] at h; have h2 : i * size + size <= cells.size := by
   rw [<- h, show i + (ps.length + 1) = (i + 1) + ps.length by omega, Xo, Xo]; omega
  simp only [Yj]; rw [ze7 rfl h1 (by rw [h1]; exact h2)]; have hT : (cells.toList.take (i * size)).length = i * size := by rw [Xh]; simp; omega
  have hc : (ρ x).cells.toList.length = size := by simpa using h1
  rw [zm8 size ps (i + 1) _ ho (fun p hp => hs p (Yb _ hp)) (by
   simp only [X1, Xr, hT, hc, X9, Y2, h1]; rw [show i + 1 + ps.length = i + (ps.length + 1) by omega]; omega)]
  congr 2
  rw [show (i + 1) * size = (cells.toList.take (i * size) ++ (ρ x).cells.toList).length by rw [Xr, hT, hc, Xo]; omega]; rw [List.take_left']
  . simp
  . simp
theorem qu7 {ρ : Operand -> Value} {ev : Operand -> AV} (hev : ∀ x, rep w β nx ow (ev x) (ρ x)) : ∀ {ps : List (Nat × Operand)} {rs : List (List AV)}, needs (ps.map fun p => ev p.2) -> qq4 (ps.map fun p => (ev p.2).st) = some rs ->
  rs.length = ps.length /\ x9 w β nx ow rs.flatten ((ps.map fun p => (ρ p.2).cells.toList).flatten) /\ ∀ n, qj8 n rs = true -> ∀ p ∈ ps, (ρ p.2).cells.size = n
 | [], rs, _, h => by
  simp only [List.map_nil, qq4, Xa] at h; subst h; simp [x9]
 | p :: ps, rs, hn, h => by
  simp only [Yj, needs] at hn; simp only [Yj, qq4] at h
  split at h
  .
   rename_i r rs' h1 h2
   simp only [Xa] at h; subst h; obtain ⟨i1, i2, i3⟩ := qu7 hev hn.2 h2; have h3 := q8f h1 (q1b (hev p.2) hn.1); refine ⟨by simp [i1], by simp only [Xu, Yj]; exact q5g h3 i2, ?_⟩; intro n hl q hq; simp only [qj8, Xd, beq_iff_eq] at hl; rcases Y1.1 hq with rfl | hq
   . have := q1f h3; simp only [Y2] at this; omega
   . exact i3 n hl.2 q hq
  . cases h
theorem zj3 {o : Oper} {t e : TypeId} {n : Nat} {parts : Array (Nat × Operand)} {zs : List Value} (ho : o.op = .buildSlice t n parts)
  (he : sliceT P t = some e) (hT : q12 P e = true) (hz : q1i P e = some zs) (hpos : 0 < szT P e) (hb : n * szT P e <= 16777216) (hin : q8t parts.toList 0 = true) (hpl : parts.toList.length = n)
  (hsz : ∀ p ∈ parts.toList, (a.eval p.2).cells.size = szT P e) : (execOp a.eval o).run P w = .ok (.value (.slice (some ⟨w.heap.size, 0, none⟩) n n)) (w.alloc (.cells ⟨(parts.toList.map fun p => (a.eval p.2).cells.toList).flatten⟩ e)) := by
 obtain ⟨i, hi, hisz, hib⟩ := q7y hT; unfold q1i at hz; simp only [Xg, Xq] at hz; obtain ⟨z, ⟨i', hi', hz⟩, rfl⟩ := hz; rw [hi] at hi'; simp only [Xa] at hi'; subst hi'; have hfill := zm8 (ρ := a.eval) (szT P e) parts.toList 0 ((Y9 (n * szT P e)).map (z.cells[· % z.cells.size]!)) hin hsz (by simp [<- hpl]); simp only [Nat.zero_mul, Ys, List.nil_append] at hfill; unfold execOp; simp only [ho]; have hnb : ¬ (16777216 < n * i.size) := by rw [hisz]; omega
 have hparts : (parts.map fun (i, x) => (i, a.eval x)).toList = parts.toList.map fun p => (p.1, a.eval p.2) := by simp
 by_cases h0 : n = 0
 . subst h0; have hpn : parts.toList = [] := Xp hpl; have hr0 : (Y9 0 : Array Nat) = #[] := rfl; simp [Instr.buildSlice, run_underlying (q0h he), sizeOf, typeInfo, hi, hpn, Instr.fill, newRow, hr0]
 .
  have hne : ¬ (n = 0 \/ i.size = 0) := by omega
  simp only [Instr.buildSlice, Sem.run_bind, run_underlying (q0h he), Result.andThen_ok, sizeOf, typeInfo, run_program, hi, Sem.run_pure, Sem.run_ite, hparts]; rw [if_neg (by omega)]; have hne' : ¬ (n * i.size = 0) := by simpa [Nat.mul_eq_zero] using hne
  rw [if_neg hne']; simp only [zeroValue, typeInfo, Sem.run_bind, run_program, hi, Result.andThen_ok, hz, Sem.run_pure]; rw [hisz, hfill]; simp [newRow]
theorem zf2 (h : Rel C s a w β) {o : Oper} {t e : TypeId} {n : Nat} {parts : Array (Nat × Operand)} {rs : List (List AV)} {ns : List (Option Nat)} {zs : List Value} {K : St -> Prop} {Q : Exit -> Act -> World -> Prop} (ho : o.op = .buildSlice t n parts)
  (he : sliceT P t = some e) (hT : q12 P e = true) (hz : q1i P e = some zs) (hzl : zs.length = szT P e) (hpos : 0 < szT P e) (hb : n * szT P e <= 16777216) (hin : q8t parts.toList 0 = true) (hpl : parts.toList.length = n)
  (hn : needs (parts.toList.map fun p => u6 s.env p.2)) (hr : qq4 (parts.toList.map fun p => (u6 s.env p.2).st) = some rs) (hl : qj8 (szT P e) rs = true) (h1 : rs.flatten.all q8n = true) (hf : qq9 s.hp rs.flatten)
  (hp : (rs.flatten.map (frz s.hp)).all q8j = true) (hd : dok s.nt o.dst = true)
  (hK : K (({ s with hp := (s.nx, .arr (szT P e) ((rs.map (·.map (frz s.hp))).map (q1l ns))) :: q5u (q75 rs.flatten) s.hp, nx := s.nx + 1 } : St).put o.dst (.osl s.nx (szT P e) 0 n))) : o.wp P a w (RK C K) Q := by
 obtain ⟨g1, g2, g3⟩ := qu7 (fun x => h.ev x) hn hr; have hz0 := hz; obtain ⟨i, hi, hisz, hib⟩ := q7y hT; unfold q1i at hz; simp only [Xg, Xq] at hz; obtain ⟨z, ⟨i', hi', hz⟩, rfl⟩ := hz; rw [hi] at hi'; simp only [Xa] at hi'; subst hi'; have hflat : ((parts.toList.map fun p => (a.eval p.2).cells.toList).flatten).length = n * szT P e := by
  rw [<- q1f g2, qa8 (qz1 hl), g1, hpl]
 have hrun := zj3 (w := w) ho he hT hz0 hpos hb hin hpl (g3 _ hl); unfold Oper.wp; rw [hrun]; have hfz := z4o h.hp (q7x (ids := q75 rs.flatten)) (fun j hj o' ho' => (qv1.1 ho').2 hj) hf g2; have hpu := q9c hp hfz; have hone := q6w h1 g2; have hs := h.sub (q7x (ids := q75 rs.flatten)); have h2 := hs.alloc (cs := (parts.toList.map fun p => (a.eval p.2).cells.toList).flatten) (e := e) (o := .arr (szT P e) ((rs.map (·.map (frz s.hp))).map (q1l ns))) (c := n) (fun w' ow' hA hw' => by
  refine .inr ⟨w.heap.size, n, _, e, q1a _ _ _, hw', ?_, ?_, ?_, ?_⟩
  . simp only [X1]; exact hflat
  . rw [Xy, Xy, g1, hpl]; exact Xc _
  . have : n <= n * szT P e := Nat.le_mul_of_pos_right _ hpos; simp only [maxLen]; omega
  .
   refine q5m (us := (parts.toList.map fun p => (a.eval p.2).cells.toList).flatten) ?_ ?_ hone ?_
   . intro r hr'; obtain ⟨r2, hr2, rfl⟩ := Xs.1 hr'; obtain ⟨r', hr'', rfl⟩ := Xs.1 hr2; rw [q9e, Xy]; exact qz1 hl r' hr''
   . refine q8s ?_; rw [<- List.map_flatten]; exact q1h hA 0 0 (Xc _) (fun _ hi => absurd hi (Xz _)) _ _ hpu
   .
    intro j u hj; rw [X2, cell_of_row _ w.heap.size j _ e (0, 0) hw']
    simpa using hj)
 refine ⟨_, _, h2.put ?_ hd, hK⟩; simp only [rep]; exact ⟨X4 _, .inr ⟨w.heap.size, n, n, ⟨w.heap.size, 0, none⟩, q1a _ _ _, rfl, Xc _, by omega, .inl (by simp)⟩⟩
theorem z9h (h : Rel C s a w β) {o : Oper} {t e : TypeId} {n : Nat} {parts : Array (Nat × Operand)} {rs : List (List AV)} {zs : List Value} {K : St -> Prop} {Q : Exit -> Act -> World -> Prop} (ho : o.op = .buildSlice t n parts)
  (he : sliceT P t = some e) (hT : q12 P e = true) (hz : q1i P e = some zs) (h1 : szT P e = 1) (hb : n <= 16777216) (hin : q8t parts.toList 0 = true) (hpl : parts.toList.length = n)
  (hn : needs (parts.toList.map fun p => u6 s.env p.2)) (hr : qq4 (parts.toList.map fun p => (u6 s.env p.2).st) = some rs) (hl : qj8 (szT P e) rs = true) (hd : dok s.nt o.dst = true)
  (hK : K (({ s with hp := (s.nx, .box rs.flatten) :: s.hp, nx := s.nx + 1 } : St).put o.dst (.bsl s.nx 0 n))) : o.wp P a w (RK C K) Q := by
 obtain ⟨g1, g2, g3⟩ := qu7 (fun x => h.ev x) hn hr; have hrun := zj3 (w := w) ho he hT hz (by omega) (by rw [h1]; omega) hin hpl (g3 _ hl); unfold Oper.wp; rw [hrun]; have h2 := h.alloc (cs := (parts.toList.map fun p => (a.eval p.2).cells.toList).flatten) (e := e) (o := .box rs.flatten) (c := n) (fun w' ow' hA hw' =>
  ⟨w.heap.size, n, _, e, q1a _ _ _, hw', q1h hA _ _ (Yr _) (fun _ hi => q2j _ _ _ _ hi) _ _ g2⟩)
 refine ⟨_, _, h2.put ?_ hd, hK⟩; simp only [rep]; exact ⟨X4 _, w.heap.size, n, n, ⟨w.heap.size, 0, none⟩, q1a _ _ _, rfl, Xc _, .inl rfl⟩
end
end
section
open Go Go.RowKit
section
variable {P : Program} {C : Ctx P} {s : St} {a : Act} {w : World} {β : Ghost} {nx : Nat} {ow : Nat -> Prop}
theorem z4g (zs : List Value) (hz : 0 < zs.length) : ∀ n : Nat, (Ze (n * zs.length)).map (fun i => (⟨zs⟩ : Array Value)[i % zs.length]!) = (Xb n zs).flatten
 | 0 => by simp
 | n + 1 => by
  rw [List.replicate_succ', Yf, Xo, Za, List.range_add, Yq, z4g zs hz n]
  congr 1
  rw [List.map_map]; apply List.ext_getElem
  . simp
  . intro i h1 h2; simp only [Xy, List.length_range] at h1; simp [Nat.mul_add_mod_self_right, Nat.mod_eq_of_lt h1, h1]
theorem qy6 (zs : List Value) (w : World) (β : Ghost) (nx : Nat) (ow : Nat -> Prop) : ∀ n : Nat, x9 w β nx ow (Xb n (zs.map AV.v)).flatten (Xb n zs).flatten
 | 0 => by simp [x9]
 | n + 1 => by
  rw [Y3, Y3, Xu, Xu]; exact q5g (qo8 w β nx ow zs) (qy6 zs w β nx ow n)
theorem wrap_small (n : Int) (h0 : 0 <= n) (h1 : n < 9223372036854775808) : IntKind.i64.wrap n = n := by
 simp [IntKind.wrap, IntKind.signed, IntKind.bits]; split <;> omega
theorem j1h {o : Oper} {t e : TypeId} {l c : Operand} {k k' : IntKind} {n : Int} {zs : List Value} (ho : o.op = .makeSlice t l c)
  (hu1 : a.eval l = .int k n) (hu2 : a.eval c = .int k' n) (he : sliceT P t = some e) (hT : q12 P e = true) (hz : q1i P e = some zs) (hzl : zs.length = szT P e)
  (hpos : 0 < szT P e) (hb0 : 0 < q1v P e) (h0 : 0 <= n) (hb : n * q1v P e <= 140737488355328) :
  (execOp a.eval o).run P w = .ok (.value (.slice (some ⟨w.heap.size, 0, none⟩) n.toNat n.toNat)) (w.alloc (.cells ⟨(Xb n.toNat zs).flatten⟩ e)) := by
 obtain ⟨i, hi, hisz, hib⟩ := q7y hT; unfold q1i at hz; simp only [Xg, Xq] at hz; obtain ⟨z, ⟨i', hi', hz⟩, rfl⟩ := hz; rw [hi] at hi'; simp only [Xa] at hi'; subst hi'; have hnb : n <= n * q1v P e := by
  have : n * 1 <= n * (q1v P e : Int) := Ye (by omega) h0; omega
 have hw := wrap_small n h0 (by omega); have hzs : z.cells.size = szT P e := by rw [<- hzl]; simp
 have hrows := z4g z.cells.toList (by simpa [hzs] using hpos) n.toNat; unfold execOp; simp only [ho]; have hbm : (q1v P e : Int) * n <= 140737488355328 := by rw [Int.mul_comm]; exact hb
 have hnl : ¬ n < 0 := by omega
 have hnb2 : ¬ (q1v P e : Int) * n > 281474976710656 := by omega
 have hcells : (Y9 (n.toNat * szT P e)).map (fun x => z.cells[x % z.cells.size]!) = ⟨(Xb n.toNat z.cells.toList).flatten⟩ := by
  apply Xn; rw [<- hrows]; simp [hzs]
 by_cases hn0 : n.toNat * szT P e = 0
 .
  have hn : n.toNat = 0 := by
   rcases Nat.mul_eq_zero.1 hn0 with h | h
   . exact h
   . omega
  have hn' : n = 0 := by omega
  subst hn'; simp [Instr.makeSlice, run_underlying (q0h he), hu1, hu2, asInt, asIntOf, typeInfo, hi, hib, hw, Room.run_askRoom, sizeOf, hisz, newRow]
  congr 2
  apply Xn; simp
 . clear hrows hb hnb hbm; simp [Instr.makeSlice, run_underlying (q0h he), hu1, hu2, asInt, asIntOf, typeInfo, hi, hib, hw, Room.run_askRoom, sizeOf, hisz, newRow, hnl, hnb2, hn0, zeroValue, hz, hcells]
theorem zh8 (h : Rel C s a w β) {o : Oper} {t e : TypeId} {l c : Operand} {k k' : IntKind} {n : Int} {ns : List (Option Nat)} {zs : List Value} {K : St -> Prop} {Q : Exit -> Act -> World -> Prop} (ho : o.op = .makeSlice t l c)
  (hl : (u6 s.env l).st = .v (.int k n)) (hc : (u6 s.env c).st = .v (.int k' n)) (hln : (u6 s.env l).need) (hcn : (u6 s.env c).need) (he : sliceT P t = some e) (hT : q12 P e = true) (hz : q1i P e = some zs) (hzl : zs.length = szT P e)
  (hpos : 0 < szT P e) (hb0 : 0 < q1v P e) (h0 : 0 <= n) (hb : n * q1v P e <= 140737488355328) (h1 : zs.all (·.oneCell') = true) (hd : dok s.nt o.dst = true)
  (hK : K (({ s with hp := (s.nx, .arr (szT P e) (Xb n.toNat (q1l ns (zs.map AV.v)))) :: s.hp, nx := s.nx + 1 } : St).put o.dst (.osl s.nx (szT P e) 0 n.toNat))) : o.wp P a w (RK C K) Q := by
 obtain ⟨i, hi, hisz, hib⟩ := q7y hT; have hu1 := q1u h hln; have hu2 := q1u h hcn; rw [hl] at hu1; rw [hc] at hu2; simp only [rep] at hu1 hu2; have hrun := j1h (w := w) (a := a) ho hu1 hu2 he hT hz hzl hpos hb0 h0 hb; unfold q1i at hz; simp only [Xg, Xq] at hz; obtain ⟨z, ⟨i', hi', hz⟩, rfl⟩ := hz; rw [hi] at hi'; simp only [Xa] at hi'; subst hi'; have hnb : n <= n * q1v P e := by
  have : n * 1 <= n * (q1v P e : Int) := Ye (by omega) h0; omega
 have hzs : z.cells.size = szT P e := by rw [<- hzl]; simp
 unfold Oper.wp; rw [hrun]; have h2 := h.alloc (cs := (Xb n.toNat z.cells.toList).flatten) (e := e) (o := .arr (szT P e) (Xb n.toNat (q1l ns (z.cells.toList.map AV.v)))) (c := n.toNat) (fun w' ow' hA hw' => by
  refine .inr ⟨w.heap.size, n.toNat, _, e, q1a _ _ _, hw', ?_, ?_, ?_, ?_⟩
  . simp [hzs]
  . simp
  . simp only [maxLen]; omega
  .
   refine q5m (us := (Xb n.toNat z.cells.toList).flatten) ?_ (by rw [<- X7]; exact q8s (qy6 _ _ _ _ _ _)) ?_ ?_
   . intro r hr; rw [Xl hr, q9e]; simp [hzs]
   . intro u hu; obtain ⟨l', hl', hul⟩ := Yn.1 hu; rw [Xl hl'] at hul; exact X5.1 h1 u hul
   .
    intro j u hj; rw [X2, cell_of_row _ w.heap.size j _ e (0, 0) hw']
    simpa using hj)
 refine ⟨_, _, h2.put ?_ hd, hK⟩; simp only [rep]; exact ⟨X4 _, .inr ⟨w.heap.size, n.toNat, n.toNat, ⟨w.heap.size, 0, none⟩, q1a _ _ _, rfl, Xc _, by omega, .inl (by simp)⟩⟩
theorem j0x (h : Rel C s a w β) {o : Oper} {t t' : TypeId} {x y : Operand} {sz : Nat} {xs : List (List AV)} {K : St -> Prop} {Q : Exit -> Act -> World -> Prop} (ho : o.op = .binOp .eql t x y t')
  (hx : (u6 s.env x).st = .sl sz xs) (hy : (u6 s.env y).st = .v (.slice none 0 0)) (hxn : (u6 s.env x).need) (hyn : (u6 s.env y).need) (ht : (sliceT P t).isSome = true) (hd : dok s.nt o.dst = true)
  (hK : ∀ b : Bool, (xs ≠ [] -> b = false) -> K (s.put o.dst (.v (.bool b)))) : o.wp P a w (RK C K) Q := by
 obtain ⟨e, he⟩ := Xw.1 ht; have hu1 := q1u h hxn; have hu2 := q1u h hyn; rw [hx] at hu1; rw [hy] at hu2; simp only [rep] at hu1 hu2; have hrun : ∃ b : Bool, (xs ≠ [] -> b = false) /\ (execOp a.eval o).run P w = .ok (.value (.bool b)) w := by
  have key : ∀ ad len cap, a.eval x = .slice ad len cap -> (execOp a.eval o).run P w = .ok (.value (.bool ad.isNone)) w := fun ad len cap hv => by
   unfold execOp; simp only [ho, hv, hu2, Sem.run_bind]; have h0 : (eqGuard .eql t x y (.slice ad len cap) (.slice none 0 0)).run P w = .ok () w := rfl; rw [h0]; simp only [Result.andThen_ok, Lib.run_eql_slice_nil w t e ad len cap 0 0 (q0h he), Sem.run_pure]
  rcases hu1 with ⟨rfl, ad, cap, hu1⟩ | ⟨b, o', cap, hu1, _⟩
  . exact ⟨ad.isNone, (fun h => absurd rfl h), key _ _ _ hu1⟩
  . exact ⟨false, (fun _ => rfl), key _ _ _ hu1⟩
 obtain ⟨b, hb, hrun⟩ := hrun; unfold Oper.wp; rw [hrun]; exact ⟨_, _, h.put (by simp only [rep]) hd, hK b hb⟩
theorem j3a (h : Rel C s a w β) {o : Oper} {t e : TypeId} {x : Operand} {id : Nat} {xs : List (List AV)} {K : St -> Prop} {Q : Exit -> Act -> World -> Prop} (ho : o.op = .convert t t x)
    (hx : (u6 s.env x).st = .osl id 1 0 xs.length) (hxn : (u6 s.env x).need) (hg : q0e s.hp id = some (.arr 1 xs)) (he : sliceT P t = some e) (hk : qj9 P e = some .u8) (hne : xs ≠ [])
    (hd : dok s.nt o.dst = true) (hK : K (({ s with hp := q41 s.hp id } : St).put o.dst (.sl 1 xs))) : o.wp P a w (RK C K) Q := by
  have hu := q1u h hxn; rw [hx] at hu; simp only [rep] at hu; obtain ⟨hid, hu⟩ := hu; have hm := q0g hg; have hob := h.hp.obj _ hm; have hlen : xs.length ≠ 0 := fun e0 => hne (Xp e0); rcases hu with ⟨_, _, h0, _⟩ | ⟨b, c, cap, ad, hb, hu, hcap, hC, had⟩
  . exact absurd h0 hlen
  rcases hob with ⟨h0, _⟩ | ⟨b', c', cur, e', hb', hheap, hsz, hxl, hcm, hrows⟩
  . simp only at h0; rw [hb] at h0; cases h0
  simp only at hb'; rw [hb] at hb'; simp only [Xa, Xf] at hb'; obtain ⟨rfl, rfl⟩ := hb'; obtain rfl : ad = ⟨b, 0, none⟩ := by
    rcases had with had | had
    . simpa using had
    . exact absurd rfl had.2
  have hblt : b < w.heap.size := (X6.1 hheap).1
  let w' := w.freeze ⟨b, cur.size, none⟩ 1
  have hw'b : w'.heap[b]? = some (.cells cur e' (cur.size, cur.size + 1)) := by
    simp only [w', World.freeze, Nat.one_ne_zero, if_false]; rw [Yt]; simp [hheap]
  have hw'o : ∀ j, j ≠ b -> w'.heap[j]? = w.heap[j]? := fun j hj => by
    simp only [w', World.freeze, Nat.one_ne_zero, if_false]; rw [Yt, if_neg (fun e0 => hj e0.symm)]
  have hw's : w'.heap.size = w.heap.size := by simp [w', World.freeze]
  have hrun : (execOp a.eval o).run P w = .ok (.value (.slice (some ⟨b, 0, none⟩) xs.length cap)) w' := by
    unfold execOp; have hsh : w.shape? b = some (e', cur.size) := by unfold World.shape?; rw [hheap]
    simp only [ho, hu]; simp [convert, run_underlying (q0h he), run_underlying (qq7 hk), markStringish, hsh]; rfl
  unfold Oper.wp; rw [hrun]; have hdel : ∀ p, p ∈ q41 s.hp id -> p ∈ s.hp /\ p.1 ≠ id := fun p hp => qt7.1 hp; have hnb : ¬ own β (q41 s.hp id) C.A b := by
    rintro (h1 | ⟨p, hp, h1⟩)
    . exact h.hp.av _ hm b c hb h1
    . obtain ⟨h2, h3⟩ := hdel p hp
      exact h3 (h.hp.bofInj p h2 _ hm b h1 (.inl ⟨c, hb⟩))
  have hA : Agree w w' (own β s.hp C.A) (own β (q41 s.hp id) C.A) := ⟨by rw [hw's]; exact Xc _, fun j hj _ => ⟨hw'o j (fun e0 => hj (.inr (e0 ▸ q6s hm hb))), fun hx => hj (zu0 sub_delO hx)⟩⟩; have hst := h.step (w' := w') (β' := β) (hp' := q41 s.hp id) (Xc _) (fun _ _ => rfl) (by rw [hw's]; exact Xc _)
    (fun j _ hj => hw'o j (fun e0 => hj (e0 ▸ q6s hm hb))) (fun j _ ⟨q, hq, hc⟩ => ⟨q, (hdel q hq).1, hc⟩)
    { obj := fun p hp => by
        obtain ⟨h1, h2⟩ := hdel p hp; exact q3m hA (Xc _) (fun _ _ => rfl) (h.hp.lt p h1) (fun b1 hb1 => hw'o b1 (fun e0 => h2 (h.hp.bofInj p h1 _ hm b1 hb1 (.inl ⟨c, by rw [e0]; exact hb⟩)))) (fun _ => rfl) (h.hp.obj p h1)
      lt := fun p hp => h.hp.lt p (hdel p hp).1
      nd := h.hp.nd.sublist (sub_delO.map _)
      inj := fun p hp q hq => h.hp.inj p (hdel p hp).1 q (hdel q hq).1
      av := fun p hp => h.hp.av p (hdel p hp).1
      i0 := fun p hp => h.hp.i0 p (hdel p hp).1
      ib := fun p hp b hb => by
        obtain ⟨i1, i2, i3, i4⟩ := h.hp.ib p (hdel p hp).1 b hb; exact ⟨by rw [hw's]; exact i1, i2, fun q hq => i3 q (hdel q hq).1, fun q hq => i4 q (hdel q hq).1⟩ }
    (fun p hp => .inl (Xj (hdel p hp).1)) rfl rfl ⟨rfl, fun _ => Xc _⟩
  refine ⟨_, _, hst.put ?_ hd, hK⟩; simp only [rep]; refine .inr ⟨b, 0, cap, rfl, hcap, hnb, by rw [hw's]; exact hblt, q1r hA 1 b (fun q u hq => ?_) xs 0 hrows⟩; rw [cell_of_row w b q cur e' (0, 0) hheap] at hq; rw [cell_of_row w' b q cur e' _ hw'b]; exact hq
end
end
section
open Go Go.RowKit
section
variable {P : Program} {C : Ctx P} {s : St} {a : Act} {w : World} {β : Ghost} {nx : Nat} {ow : Nat -> Prop}
theorem qy5 {t e : TypeId} (ht : P.underlying t = some (.slice e)) (he : q12 P e = true) (a : Option Addr) (len cap : Nat) (k k' k'' : IntKind) (l h m : Int) (c0 : 0 <= l) (c1 : l <= h) (c2 : h <= m) (c3 : m <= cap) :
  (Instr.sliceAt t (.slice a len cap) (some (.int k l)) (some (.int k' h)) (some (.int k'' m))).run P w = .ok (.slice (if m.toNat = l.toNat then a else a.map (·.add (l.toNat * szT P e))) (h.toNat - l.toNat) (m.toNat - l.toNat)) w := by
 have e2 : (h.toNat : Int) = h := Y4 (by omega); have e3 : (m.toNat : Int) = m := Y4 (by omega); have key : (Instr.sliceBounds true len cap (some (.int k l)) (some (.int k' h)) (some (.int k'' m))).run P w = .ok (l.toNat, h.toNat, m.toNat) w := by
  simp [Instr.sliceBounds, run_sliceBound w k'' m cap _ (by omega) c3, run_sliceBound w k' h m.toNat _ (by omega) (by omega), run_sliceBound w k l h.toNat _ c0 (by omega)]
 simp only [Instr.sliceAt, Instr.slice, Sem.run_bind, run_underlying ht, Result.andThen_ok, key, run_sizeOf he, Sem.run_pure]
def z2d (P : Program) (t : TypeId) (lo hi mx : AV) : AV -> Option (Prop × AV)
 | .osl id sz off len => match sliceT P t, lo, hi, mx with
  | some e, .v (.int _ l), .v (.int _ h), .v (.int _ m) => some (q12 P e = true /\ szT P e = sz /\ 0 <= l /\ l <= h /\ h <= m /\ m <= len, .osl id sz (off + l.toNat) (h.toNat - l.toNat))
  | _, _, _, _ => none
 | .sl sz xs => match sliceT P t, lo, hi, mx with
  | some e, .v (.int _ l), .v (.int _ h), .v (.int _ m) => some (q12 P e = true /\ szT P e = sz /\ 0 <= l /\ l <= h /\ h <= m /\ m <= xs.length, .sl sz ((xs.take h.toNat).drop l.toNat))
  | _, _, _, _ => none
 | _ => none
theorem zf3 {t : TypeId} {lo hi mx a r : AV} {c : Prop} {u ul uh um : Value} (h : z2d P t lo hi mx a = some (c, r)) (hc : c) (ha : rep w β nx ow a u) (hlo : rep w β nx ow lo ul) (hhi : rep w β nx ow hi uh) (hmx : rep w β nx ow mx um) :
  ∃ z, (Instr.sliceAt t u (some ul) (some uh) (some um)).run P w = .ok z w /\ rep w β nx ow r z := by
 unfold z2d at h
 split at h
 .
  rename_i id sz off len
  split at h
  .
   rename_i e k l k' hh k'' m he
   simp only [Xa, Xf] at h; obtain ⟨rfl, rfl⟩ := h; obtain ⟨c1, c2, c3, c4, c5, c6⟩ := hc; simp only [rep] at ha hlo hhi hmx ⊢; subst hlo hhi hmx; obtain ⟨h1, ha⟩ := ha; rcases ha with ⟨h2, rfl, rfl, rfl⟩ | ⟨b, C, cap, a, h2, rfl, h3, h4, h5⟩
   .
    have e0 : m = 0 := by simp only [Int.natCast_zero] at c6; omega
    have e1 : hh = 0 := by omega
    have e2 : l = 0 := by omega
    subst e0 e1 e2; exact ⟨_, qy5 (q0h he) c1 none 0 0 k k' k'' 0 0 0 c3 c4 c5 (by simp), h1, .inl ⟨h2, by simp, by simp, by simp⟩⟩
   .
    refine ⟨_, qy5 (q0h he) c1 (some a) len cap k k' k'' l hh m c3 c4 c5 (by omega), h1, .inr ⟨b, C, m.toNat - l.toNat, if m.toNat = l.toNat then a else a.add (l.toNat * szT P e), h2, ?_, by omega, by omega, ?_⟩⟩
    . split <;> simp
    .
     by_cases hcl : m.toNat = l.toNat
     .
      rw [if_pos hcl]
      by_cases hl0 : l.toNat = 0
      .
       rcases h5 with h5 | h5
       . left; rw [h5, hl0, Xm]
       . right; omega
      . right; omega
     .
      rw [if_neg hcl]; rcases h5 with rfl | h5
      . left; rw [q6u, c2]; simp [Xo]
      . omega
  . cases h
 .
  rename_i sz xs
  split at h
  .
   rename_i e k l k' hh k'' m he
   simp only [Xa, Xf] at h; obtain ⟨rfl, rfl⟩ := h; obtain ⟨c1, c2, c3, c4, c5, c6⟩ := hc; simp only [rep] at ha hlo hhi hmx ⊢; subst hlo hhi hmx; rcases ha with ⟨rfl, a, cap, rfl⟩ | ⟨b, o, cap, rfl, h2, h3, h4, h5⟩
   . simp only [Ya, Int.natCast_zero] at c6; refine ⟨_, qy5 (q0h he) c1 a 0 cap k k' k'' l hh m c3 c4 c5 (by omega), .inl ⟨by simp, if m.toNat = l.toNat then a else a.map (·.add (l.toNat * szT P e)), m.toNat - l.toNat, ?_⟩⟩; rw [show hh.toNat - l.toNat = 0 by omega]
   .
    refine ⟨_, qy5 (q0h he) c1 _ xs.length cap k k' k'' l hh m c3 c4 c5 (by omega), ?_⟩; have hlen : ((xs.take hh.toNat).drop l.toNat).length = hh.toNat - l.toNat := by
     rw [X9, Xh]; omega
    by_cases hz : (xs.take hh.toNat).drop l.toNat = []
    . refine .inl ⟨hz, ?_⟩; rw [<- hlen, hz]; exact ⟨_, _, rfl⟩
    .
     have hpos : 0 < hh.toNat - l.toNat := by
      rw [<- hlen]; exact List.length_pos_iff.2 hz
     refine .inr ⟨b, o + l.toNat * sz, m.toNat - l.toNat, ?_, by rw [hlen]; omega, h3, h4, qg9 (q9p h5 _) _⟩; rw [if_neg (by omega), hlen, c2]; simp [q6u]
  . cases h
 . cases h
theorem j0w (h : Rel C s a w β) {o : Oper} {t : TypeId} {x lo hi mx : Operand} {c : Prop} {r : AV} {K : St -> Prop} {Q : Exit -> Act -> World -> Prop} (ho : o.op = .slice t x (some lo) (some hi) (some mx))
  (hr : z2d P t (u6 s.env lo).st (u6 s.env hi).st (u6 s.env mx).st (u6 s.env x).st = some (c, r)) (hc : c) (hxn : (u6 s.env x).need) (hln : (u6 s.env lo).need) (hhn : (u6 s.env hi).need) (hmn : (u6 s.env mx).need) (hd : dok s.nt o.dst = true)
  (hK : K (s.put o.dst r)) : o.wp P a w (RK C K) Q := by
 obtain ⟨z, hz, hzr⟩ := zf3 hr hc (q1u h hxn) (q1u h hln) (q1u h hhn) (q1u h hmn); have hrun : (execOp a.eval o).run P w = .ok (.value z) w := by
  unfold execOp; simp only [ho]; simp [hz]
 unfold Oper.wp; rw [hrun]; exact ⟨_, _, h.put hzr hd, hK⟩
theorem zs3 (h : Rel C s a w β) {o : Oper} {t t' : TypeId} {x y : Operand} {id sz off len : Nat} {eq : Bool} {K : St -> Prop} {Q : Exit -> Act -> World -> Prop} (ho : o.op = .binOp (if eq then .eql else .neq) t x y t')
  (hx : (u6 s.env x).st = .osl id sz off len) (hy : (u6 s.env y).st = .v (.slice none 0 0)) (hxn : (u6 s.env x).need) (hyn : (u6 s.env y).need) (ht : (sliceT P t).isSome = true) (hp : 0 < len) (hd : dok s.nt o.dst = true)
  (hK : K (s.put o.dst (.v (.bool (!eq))))) : o.wp P a w (RK C K) Q := by
 obtain ⟨e, he⟩ := Xw.1 ht; have hu1 := q1u h hxn; have hu2 := q1u h hyn; rw [hx] at hu1; rw [hy] at hu2; simp only [rep] at hu1 hu2; have hrun : (execOp a.eval o).run P w = .ok (.value (.bool (!eq))) w := by
  rcases hu1.2 with ⟨_, _, h0, _⟩ | ⟨b, c, cap, ad, _, hv, _⟩
  . omega
  unfold execOp; have hq := Lib.run_eql_slice_nil (P := P) w t e (some ad) len cap 0 0 (q0h he)
  cases eq with
  | true =>
   have ho' : o.op = .binOp .eql t x y t' := ho; simp only [ho', hv, hu2, Sem.run_bind]; have h0 : (eqGuard .eql t x y (.slice (some ad) len cap) (.slice none 0 0)).run P w = .ok () w := rfl; rw [h0]; simp only [Result.andThen_ok, hq, Sem.run_pure]; rfl
  | false =>
   have ho' : o.op = .binOp .neq t x y t' := ho; simp only [ho', hv, hu2, Sem.run_bind]; have h0 : (eqGuard .neq t x y (.slice (some ad) len cap) (.slice none 0 0)).run P w = .ok () w := rfl; rw [h0]; have hq2 : (binOp .neq t (.slice (some ad) len cap) (.slice none 0 0)).run P w = .ok (.bool true) w := by
    simp only [binOp]; simp [Op.equal, Op.maxDepth, Lib.run_equalIn_slice_nil w 9999 t e (some ad) len cap 0 0 (q0h he)]
   simp only [Result.andThen_ok, hq2, Sem.run_pure]; rfl
 unfold Oper.wp; rw [hrun]; exact ⟨_, _, h.put (by simp only [rep]) hd, hK⟩
theorem zs4 (h : Rel C s a w β) {o : Oper} {t t' : TypeId} {x y : Operand} {eq : Bool} {K : St -> Prop} {Q : Exit -> Act -> World -> Prop} (ho : o.op = .binOp (if eq then .eql else .neq) t x y t')
  (hx : (u6 s.env x).st = .v (.slice none 0 0)) (hy : (u6 s.env y).st = .v (.slice none 0 0)) (hxn : (u6 s.env x).need) (hyn : (u6 s.env y).need) (ht : (sliceT P t).isSome = true) (hd : dok s.nt o.dst = true)
  (hK : K (s.put o.dst (.v (.bool eq)))) : o.wp P a w (RK C K) Q := by
 obtain ⟨e, he⟩ := Xw.1 ht; have hu1 := q1u h hxn; have hu2 := q1u h hyn; rw [hx] at hu1; rw [hy] at hu2; simp only [rep] at hu1 hu2; have hrun : (execOp a.eval o).run P w = .ok (.value (.bool eq)) w := by
  unfold execOp; have hq := Lib.run_eql_slice_nil (P := P) w t e none 0 0 0 0 (q0h he)
  cases eq with
  | true =>
   have ho' : o.op = .binOp .eql t x y t' := ho; simp only [ho', hu1, hu2, Sem.run_bind]; have h0 : (eqGuard .eql t x y (.slice none 0 0) (.slice none 0 0)).run P w = .ok () w := rfl; rw [h0]; simp only [Result.andThen_ok, hq, Sem.run_pure]; rfl
  | false =>
   have ho' : o.op = .binOp .neq t x y t' := ho; simp only [ho', hu1, hu2, Sem.run_bind]; have h0 : (eqGuard .neq t x y (.slice none 0 0) (.slice none 0 0)).run P w = .ok () w := rfl; rw [h0]; have hq2 : (binOp .neq t (.slice none 0 0) (.slice none 0 0)).run P w = .ok (.bool false) w := by
    simp only [binOp]; simp [Op.equal, Op.maxDepth, Lib.run_equalIn_slice_nil w 9999 t e none 0 0 0 0 (q0h he)]
   simp only [Result.andThen_ok, hq2, Sem.run_pure]
 unfold Oper.wp; rw [hrun]; exact ⟨_, _, h.put (by simp only [rep]) hd, hK⟩
theorem Rel.writeRows (h : Rel C s a w β) {id sz : Nat} {xs ys : List (List AV)} (hg : q0e s.hp id = some (.arr sz xs)) {b c : Nat} (hb : β id = some (b, c)) {cur : Array Value} {e : TypeId} (hheap : w.heap[b]? = some (.cells cur e (0, 0)))
  (hcs : cur.size = c * sz) (hcm : c <= maxLen) {cur' : Array Value} (hsz : cur'.size = cur.size) (hyc : ys.length <= c) (hyr : ∀ r ∈ ys, r.length = sz) {us : List Value} (hus : x9 w β 0 (own β s.hp C.A) ys.flatten us) (hone : ∀ u ∈ us, u.oneCell' = true)
  (hcell : ∀ (j : Nat) (u : Value), us[j]? = some u -> cur'[j]? = some u) : Rel C { s with hp := q0o s.hp id (.arr sz ys) } a (w.setRow b cur') β := by
 refine h.write (cur' := cur') (o' := .arr sz ys) hg hb (fun w' hA hw' => ?_); subst hw'; refine .inr ⟨b, c, cur', e, hb, setRow_heap w b cur _ e (0, 0) hheap, by rw [hsz]; exact hcs, hyc, hcm, ?_⟩; refine q5m hyr (q1h hA 0 0 (Xc _) (fun _ hi => absurd hi (Xz _)) _ _ hus) hone fun j u hj => ?_; rw [X2, cell_setRow_same w b j cur _ e (0, 0) hheap]; exact hcell j u hj
theorem qt5 (h : Rel C s a w β) {id sz : Nat} {xs : List (List AV)} (hg : q0e s.hp id = some (.arr sz xs)) {b c : Nat} (hb : β id = some (b, c)) :
  ∃ cur e us, w.heap[b]? = some (.cells cur e (0, 0)) /\ cur.size = c * sz /\ xs.length <= c /\ c <= maxLen /\ (∀ r ∈ xs, r.length = sz) /\ x9 w β 0 (own β s.hp C.A) xs.flatten us /\ (∀ u ∈ us, u.oneCell' = true) /\ us.length = xs.length * sz /\
   (∀ (j : Nat) (u : Value), us[j]? = some u -> cur.toList[j]? = some u) := by
 rcases h.hp.obj _ (q0g hg) with ⟨h1, _⟩ | ⟨b', c', cur, e, h1, h2, h3, h4, h5, h6⟩
 . simp only at h1; rw [hb] at h1; cases h1
 simp only at h1; rw [hb] at h1; simp only [Xa, Xf] at h1; obtain ⟨rfl, rfl⟩ := h1; obtain ⟨us, h7, h8, h9⟩ := qg8 h6; refine ⟨cur, e, us, h2, h3, h4, h5, q85 h6, h7, h8, by rw [<- q1f h7]; exact qa8 (q85 h6), fun j u hj => ?_⟩; have := h9 j u hj; rw [X2, cell_of_row w b j cur e (0, 0) h2] at this
 simpa using this
theorem qp4 {α : Type} {sz : Nat} : ∀ {xs : List (List α)} (k : Nat), (∀ r ∈ xs, r.length = sz) -> (xs.take k).flatten = xs.flatten.take (k * sz)
 | [], k, _ => by simp
 | r :: rs, 0, _ => by simp
 | r :: rs, k + 1, h => by
  have hr := h r Yg; have e : (k + 1) * sz = r.length + k * sz := by rw [Xo, Za, hr, Nat.add_comm]
  rw [Y5, Xu, Xu, qp4 k fun r hr => h r (Yb _ hr), e, List.take_length_add_append]
theorem z18 {α : Type} {sz : Nat} : ∀ {xs : List (List α)} (k : Nat), (∀ r ∈ xs, r.length = sz) -> (xs.drop k).flatten = xs.flatten.drop (k * sz)
 | [], k, _ => by simp
 | r :: rs, 0, _ => by simp
 | r :: rs, k + 1, h => by
  have hr := h r Yg; have e : (k + 1) * sz = r.length + k * sz := by rw [Xo, Za, hr, Nat.add_comm]
  rw [List.drop_succ_cons, Xu, z18 k fun r hr => h r (Yb _ hr), e, List.drop_length_add_append]
theorem Rel.putRows (h : Rel C s a w β) {id sz : Nat} {xs ys : List (List AV)} (hg : q0e s.hp id = some (.arr sz xs)) {b c : Nat} (hb : β id = some (b, c)) {vs : List Value} (hvs : x9 w β 0 (own β s.hp C.A) ys.flatten vs) (hvo : ∀ u ∈ vs, u.oneCell' = true)
  (hyr : ∀ r ∈ ys, r.length = sz) (off : Nat) (hle : off + ys.length <= xs.length) {cur : Array Value} {e : TypeId} (hheap : w.heap[b]? = some (.cells cur e (0, 0))) :
  Rel C { s with hp := q0o s.hp id (.arr sz (xs.take off ++ ys ++ xs.drop (off + ys.length))) } a (w.setRow b (cur.toList.take (off * sz) ++ vs ++ cur.toList.drop (off * sz + vs.length)).toArray) β := by
 obtain ⟨cur2, e2, us, h2, h3, h4, h5, h6, h7, h8, h9, h10⟩ := qt5 h hg hb; rw [hheap] at h2; simp only [Xa, Obj.cells.injEq, and_true] at h2; obtain ⟨rfl, rfl⟩ := h2; have hvl : vs.length = ys.length * sz := by rw [<- q1f hvs]; exact qa8 hyr
 have hfit : off * sz + ys.length * sz <= xs.length * sz := by rw [<- Xo]; exact Xi _ hle
 have hfit2 : xs.length * sz <= c * sz := Xi _ h4; have hcl : cur.toList.length = c * sz := by simpa using h3
 refine h.writeRows (us := us.take (off * sz) ++ vs ++ us.drop (off * sz + vs.length)) hg hb hheap h3 h5 ?_ ?_ ?_ ?_ ?_ ?_
 . simp only [X1, Xr, Xh, X9, hcl]; omega
 . simp only [Xr, Xh, X9]; omega
 .
  intro r hr; rcases Xe.1 hr with hr | hr
  .
   rcases Xe.1 hr with hr | hr
   . exact h6 r (Xv hr)
   . exact hyr r hr
  . exact h6 r (Yy hr)
 . rw [Yf, Yf, qp4 off h6, z18 _ h6, Xo, <- hvl]; exact q5g (q5g (q64 h7 _) hvs) (q74 h7 _)
 .
  intro u hu; rcases Xe.1 hu with hu | hu
  .
   rcases Xe.1 hu with hu | hu
   . exact h8 u (Xv hu)
   . exact hvo u hu
  . exact h8 u (Yy hu)
 .
  intro j u hj; simp only [List.getElem?_toArray]; have ht : (us.take (off * sz)).length = off * sz := by rw [Xh]; omega
  have ht' : (cur.toList.take (off * sz)).length = off * sz := by rw [Xh]; omega
  have hd1 : (us.take (off * sz) ++ vs).length = off * sz + vs.length := by rw [Xr, ht]
  have hd2 : (cur.toList.take (off * sz) ++ vs).length = off * sz + vs.length := by rw [Xr, ht']
  rcases Yo j (off * sz + vs.length) with hlt | hge
  .
   rw [Ym (by omega)] at hj ⊢; rcases Yo j (off * sz) with hlt2 | hge2
   . rw [Ym (by omega), Yh, if_pos hlt2] at hj ⊢; exact h10 j u hj
   . rw [Xt (by omega), ht] at hj; rw [Xt (by omega), ht']; exact hj
  . rw [Xt (by omega), hd1, Y6] at hj; rw [Xt (by omega), hd2, Y6]; exact h10 _ u hj
theorem z1y {z : Value} (hz : 0 < z.cells.toList.length) (n : Nat) : (Builtin.zeroCells z.cells n).toList = (Xb n z.cells.toList).flatten := by
 have := z4g z.cells.toList hz n; simp only [Builtin.zeroCells, Array.toList_map, Array.toList_range]
 simpa using this
theorem j3c (h : Rel C s a w β) {o : Oper} {cl : Call} {x : Operand} {t e : TypeId} {id sz off len : Nat} {xs : List (List AV)} {zs : List Value} {K : St -> Prop} {Q : Exit -> Act -> World -> Prop}
  (ho : o.op = .call cl) (hcl : cl.callee = .builtin .clear) (hargs : cl.args.toList = [x]) (hts : cl.argTypes.toList = [t]) (hxn : (u6 s.env x).need) (hx : (u6 s.env x).st = .osl id sz off len) (hg : q0e s.hp id = some (.arr sz xs)) (hle : off + len <= xs.length)
  (he : sliceT P t = some e) (hT : q12 P e = true) (hsz : szT P e = sz) (hz : q1i P e = some zs) (hzl : zs.length = sz) (hpos : 0 < sz) (h1 : zs.all (·.oneCell') = true) (hd : dok s.nt o.dst = true)
  (hK : K (({ s with hp := q0o s.hp id (.arr sz (xs.take off ++ Xb len (q1l (q8k P e) (zs.map AV.v)) ++ xs.drop (off + len))) } : St).put o.dst (.tup []))) : o.wp P a w (RK C K) Q := by
 have hu := q1u h hxn; rw [hx] at hu; simp only [rep] at hu; obtain ⟨hid, hu⟩ := hu; obtain ⟨i, hi, hisz, hib⟩ := q7y hT; have hz0 := hz; unfold q1i at hz; simp only [Xg, Xq] at hz; obtain ⟨z, ⟨i', hi', hz⟩, rfl⟩ := hz; rw [hi] at hi'; simp only [Xa] at hi'; subst hi'; have e2 : cl.args = #[x] := Xn hargs; have e3 : cl.argTypes = #[t] := Xn hts; have hex : ∀ v w', (Builtin.clear_ #[t] o.type #[a.eval x]).run P w = .ok v w' -> (execOp a.eval o).run P w = .ok (.value v) w' := fun v w' hr => by
  unfold execOp; simp only [ho]; simp [resolve, hcl, e2, e3, invoke, builtin, hr]
 have hR0 : ∀ {s' w'}, Rel C s' a w' β -> rep w' β s'.nx (own β s'.hp C.A) (.tup []) (.tuple #[]) := fun _ => by
  simp only [rep]; exact ⟨[], rfl, by simp only [x9]⟩
 by_cases h0 : len = 0
 .
  subst h0; have hsame : xs.take off ++ Xb 0 (q1l (q8k P e) (z.cells.toList.map AV.v)) ++ xs.drop (off + 0) = xs := by simp
  rw [hsame] at hK; have hset : q0o s.hp id (.arr sz xs) = s.hp := by
   clear hK hd hR0 hex; have : ∀ hp : Hp, q0e hp id = some (.arr sz xs) -> q0o hp id (.arr sz xs) = hp := by
    intro hp
    induction hp with
    | nil => intro h; simp [q0e] at h
    | cons p r ih =>
     obtain ⟨k, q⟩ := p; intro hq; simp only [q0e] at hq; simp only [q0o]
     by_cases hk : k = id
     . rw [if_pos hk] at hq ⊢; simp only [Xa] at hq; rw [hq, hk]
     . rw [if_neg hk] at hq ⊢; rw [ih hq]
   exact this _ hg
  rw [hset] at hK; have hr : (Builtin.clear_ #[t] o.type #[a.eval x]).run P w = .ok (.tuple #[]) w := by
   rcases hu with ⟨_, _, _, hv⟩ | ⟨b, c, cap, ad, _, hv, _⟩ <;> rw [hv] <;> simp [Builtin.clear_, run_underlying (q0h he)]
  unfold Oper.wp; rw [hex _ _ hr]; exact ⟨_, _, h.put (hR0 h) hd, hK⟩
 .
  rcases hu with ⟨_, _, hl, _⟩ | ⟨b, c, cap, ad, hb, hv, hcap, hC, had⟩
  . exact absurd hl h0
  have had' : ad = ⟨b, off * sz, none⟩ := by
   rcases had with had | had
   . exact had
   . omega
  subst had'; obtain ⟨cur, e', us, h2, h3, h4, h5, h6, h7, h8, h9, h10⟩ := qt5 h hg hb; have hzp : 0 < z.cells.toList.length := by rw [hzl]; exact hpos
  have hfl : ((Xb len z.cells.toList).flatten).length = len * sz := by
   rw [List.length_flatten]; simp only [X7, hzl, List.sum_replicate_nat]
  have hfit : off * sz + len * sz <= cur.size := by
   rw [h3, <- Xo]; exact Xi _ (by omega)
  have hone : ∀ u ∈ (Xb len z.cells.toList).flatten, u.oneCell' = true := by
   intro u hu; obtain ⟨l', hl', hul⟩ := Yn.1 hu; rw [Xl hl'] at hul; exact X5.1 h1 u hul
  have hst := run_storeCells_at P b (off * sz) e' ((Xb len z.cells.toList).flatten) 0 cur w h2 (by rw [Xm, hfl]; exact hfit) hone; simp only [Xm] at hst; have hr : (Builtin.clear_ #[t] o.type #[a.eval x]).run P w = .ok (.tuple #[]) (w.setRow b (cur.toList.take (off * sz) ++ (Xb len z.cells.toList).flatten ++ cur.toList.drop (off * sz + ((Xb len z.cells.toList).flatten).length)).toArray) := by
   rw [hv]; obtain ⟨m, rfl⟩ : ∃ m, len = m + 1 := ⟨len - 1, by omega⟩; simp [Builtin.clear_, run_underlying (q0h he), zeroValue, typeInfo, hi, hz, z1y hzp, hst]
  unfold Oper.wp; rw [hex _ _ hr]; have hR := h.putRows (ys := Xb len (q1l (q8k P e) (z.cells.toList.map AV.v))) hg hb (vs := (Xb len z.cells.toList).flatten) (by rw [<- X7]; exact q8s (qy6 _ _ _ _ _ _)) hone (fun r hr => by rw [Xl hr, q9e]; simp [hzl]) off (by rw [Yu]; exact hle) h2; rw [Yu] at hR; exact ⟨_, _, hR.put (hR0 hR) hd, hK⟩
theorem j69 (h : Rel C s a w β) {o : Oper} {cl : Call} {x y : Operand} {t t' e : TypeId} {id sz off len szy : Nat} {xs ys : List (List AV)} {cs : Prop} {K : St -> Prop} {Q : Exit -> Act -> World -> Prop}
  (ho : o.op = .call cl) (hcl : cl.callee = .builtin .copy) (hargs : cl.args.toList = [x, y]) (hts : cl.argTypes.toList = [t, t']) (hxn : (u6 s.env x).need) (hyn : (u6 s.env y).need) (hx : (u6 s.env x).st = .osl id sz off len) (hg : q0e s.hp id = some (.arr sz xs)) (hle : off + len <= xs.length)
  (hsrc : qu8 s.hp (u6 s.env y).st = some (szy, ys, cs)) (hcs : cs) (he : sliceT P t = some e) (hT : q12 P e = true) (hsz : szT P e = sz) (hy : ys = [] \/ szy = sz) (hd : dok s.nt o.dst = true)
  (hK : K (({ s with hp := q0o s.hp id (.arr sz (xs.take off ++ ys.take len ++ xs.drop (off + (ys.take len).length))) } : St).put o.dst (.v (.int .i64 ((min ys.length len : Nat) : Int))))) : o.wp P a w (RK C K) Q := by
 have hu := q1u h hxn; rw [hx] at hu; simp only [rep] at hu; obtain ⟨hid, hu⟩ := hu; obtain ⟨i, hi, hisz, hib⟩ := q7y hT; obtain ⟨ad, cap', vs, hv', hL, hlens, hnone, hone, hcells⟩ := z1l h.hp hsrc hcs (q1u h hyn); have hysl : ∀ r ∈ ys, r.length = sz := by
  rcases hlens with h0 | h0
  . subst h0; simp
  .
   rcases hy with h1 | h1
   . subst h1; simp
   . rw [<- h1]; exact h0
 have hvl : vs.length = ys.length * sz := by rw [<- q1f hL]; exact qa8 hysl
 have e2 : cl.args = #[x, y] := Xn hargs; have e3 : cl.argTypes = #[t, t'] := Xn hts; have hex : ∀ v w', (Builtin.copy_ #[t, t'] o.type #[a.eval x, a.eval y]).run P w = .ok v w' -> (execOp a.eval o).run P w = .ok (.value v) w' := fun v w' hr => by
  unfold execOp; simp only [ho]; simp [resolve, hcl, e2, e3, invoke, builtin, hr]
 have hmin : Nat.min ys.length len = min ys.length len := rfl; have hfc : (Builtin.firstCells i.size (min ys.length len) (a.eval y)).run P w = .ok ⟨vs.take (len * sz)⟩ w := by
  rw [hv', hisz, hsz]; have htl : (vs.take (len * sz)).length = min ys.length len * sz := by
   rw [Xh, hvl, Nat.min_comm]; rcases Y7 ys.length len with hh | hh
   . have := Xi sz hh; rw [X0 hh, X0 this]
   . have := Xi sz hh; rw [Xx hh, Xx this]
  cases ad with
  | none =>
   have h0 := hnone rfl; subst h0; have hv0 : vs = [] := Xp (by rw [hvl]; simp); subst hv0; simp [Builtin.firstCells]
  | some q => exact run_firstCells_some w sz _ q _ cap' _ htl (fun j u hj => hcells q rfl j u (by
    rw [Yh] at hj
    split at hj
    . exact hj
    . cases hj))
 rcases hu with ⟨hb, rfl, rfl, hv⟩ | ⟨b, c, cap, adx, hb, hv, hcap, hC, had⟩
 .
  have hx0 : xs.take 0 ++ ys.take 0 ++ xs.drop (0 + (ys.take 0).length) = xs := by simp
  rw [hx0] at hK; have hset : q0o s.hp id (.arr sz xs) = s.hp := by
   have : ∀ hp : Hp, q0e hp id = some (.arr sz xs) -> q0o hp id (.arr sz xs) = hp := by
    intro hp
    induction hp with
    | nil => intro h; simp [q0e] at h
    | cons p r ih =>
     obtain ⟨k, q⟩ := p; intro hq; simp only [q0e] at hq; simp only [q0o]
     by_cases hk : k = id
     . rw [if_pos hk] at hq ⊢; simp only [Xa] at hq; rw [hq, hk]
     . rw [if_neg hk] at hq ⊢; rw [ih hq]
   exact this _ hg
  rw [hset] at hK; have hr : (Builtin.copy_ #[t, t'] o.type #[a.eval x, a.eval y]).run P w = .ok (.int .i64 ((min ys.length 0 : Nat) : Int)) w := by
   rw [hv]; simp only [Nat.min_zero] at hfc; rw [hv'] at hfc ⊢; simp [Builtin.copy_, run_underlying (q0h he), Builtin.lenOf, sizeOf, typeInfo, hi, hfc, goInt]
  unfold Oper.wp; rw [hex _ _ hr]; exact ⟨_, _, h.put (by simp only [rep]) hd, hK⟩
 .
  obtain ⟨cur, e', us, h2, h3, h4, h5, h6, h7, h8, h9, h10⟩ := qt5 h hg hb; have htl : (vs.take (len * sz)).length = (ys.take len).length * sz := by
   rw [Xh, Xh, hvl]; rcases Y7 len ys.length with hh | hh
   . rw [X0 hh, X0 (Xi sz hh)]
   . rw [Xx hh, Xx (Xi sz hh)]
  have hone' : ∀ u ∈ vs.take (len * sz), u.oneCell' = true := fun u hu => hone u (Xv hu); have hrep : x9 w β 0 (own β s.hp C.A) (ys.take len).flatten (vs.take (len * sz)) := by
   rw [qp4 len hysl]; exact q64 hL _
  have hlt : (ys.take len).length <= len := by rw [Xh]; omega
  have hR := h.putRows (ys := ys.take len) hg hb hrep hone' (fun r hr => hysl r (Xv hr)) off (by omega) h2; have hfit : off * sz + (vs.take (len * sz)).length <= cur.size := by
   rw [htl, h3, <- Xo]; exact Xi _ (by omega)
  have hadd : adx = ⟨b, off * sz, none⟩ \/ (vs.take (len * sz) = []) := by
   rcases had with had | had
   . exact .inl had
   .
    right
    have : len = 0 := by omega
    subst this; simp
  have hst : (storeCells adx (vs.take (len * sz))).run P w = .ok () (w.setRow b (cur.toList.take (off * sz) ++ vs.take (len * sz) ++ cur.toList.drop (off * sz + (vs.take (len * sz)).length)).toArray) := by
   rcases hadd with rfl | h0
   . have := run_storeCells_at P b (off * sz) e' (vs.take (len * sz)) 0 cur w h2 (by rw [Xm]; exact hfit) hone'; simp only [Xm] at this; exact this
   . rw [h0]; simp only [storeCells, Yp, Ya, Xm, Yv, Yz]; rw [setRow_self w b cur e' (0, 0) h2]; rfl
  have hr : (Builtin.copy_ #[t, t'] o.type #[a.eval x, a.eval y]).run P w = .ok (.int .i64 ((min ys.length len : Nat) : Int)) (w.setRow b (cur.toList.take (off * sz) ++ vs.take (len * sz) ++ cur.toList.drop (off * sz + (vs.take (len * sz)).length)).toArray) := by
   rw [hv]; rw [hv'] at hfc ⊢; simp [Builtin.copy_, run_underlying (q0h he), Builtin.lenOf, sizeOf, typeInfo, hi, hmin, hfc, hst, goInt]
  unfold Oper.wp; rw [hex _ _ hr]; exact ⟨_, _, hR.put (by simp only [rep]) hd, hK⟩
theorem j3b (h : Rel C s a w β) {o : Oper} {cl : Call} {x y : Operand} {t t' e : TypeId} {id off len szy : Nat} {xs : List AV} {ys : List (List AV)} {cs : Prop} {K : St -> Prop} {Q : Exit -> Act -> World -> Prop}
  (ho : o.op = .call cl) (hcl : cl.callee = .builtin .copy) (hargs : cl.args.toList = [x, y]) (hts : cl.argTypes.toList = [t, t']) (hxn : (u6 s.env x).need) (hyn : (u6 s.env y).need) (hx : (u6 s.env x).st = .bsl id off len) (hg : q0e s.hp id = some (.box xs)) (hle : off + len <= xs.length)
  (hsrc : qu8 s.hp (u6 s.env y).st = some (szy, ys, cs)) (hcs : cs) (he : sliceT P t = some e) (hT : q12 P e = true) (hsz : szT P e = 1) (hy : ys = [] \/ szy = 1) (hd : dok s.nt o.dst = true)
  (hK : K (({ s with hp := q0o s.hp id (.box (q69 xs off (ys.take len).flatten)) } : St).put o.dst (.v (.int .i64 ((min ys.length len : Nat) : Int))))) : o.wp P a w (RK C K) Q := by
 have hu := q1u h hxn; rw [hx] at hu; simp only [rep] at hu; obtain ⟨hid, b, c, cap, adx, hb, hv, hcap, had⟩ := hu; obtain ⟨i, hi, hisz, hib⟩ := q7y hT; obtain ⟨ad, cap', vs, hv', hL, hlens, hnone, hone, hcells⟩ := z1l h.hp hsrc hcs (q1u h hyn); have hysl : ∀ r ∈ ys, r.length = 1 := by
  rcases hlens with h0 | h0
  . subst h0; simp
  .
   rcases hy with h1 | h1
   . subst h1; simp
   . rw [<- h1]; exact h0
 have hvl : vs.length = ys.length * 1 := by rw [<- q1f hL]; exact qa8 hysl
 have e2 : cl.args = #[x, y] := Xn hargs; have e3 : cl.argTypes = #[t, t'] := Xn hts; have hex : ∀ v w', (Builtin.copy_ #[t, t'] o.type #[a.eval x, a.eval y]).run P w = .ok v w' -> (execOp a.eval o).run P w = .ok (.value v) w' := fun v w' hr => by
  unfold execOp; simp only [ho]; simp [resolve, hcl, e2, e3, invoke, builtin, hr]
 have hmin : Nat.min ys.length len = min ys.length len := rfl; have hfc : (Builtin.firstCells i.size (min ys.length len) (a.eval y)).run P w = .ok ⟨vs.take (len * 1)⟩ w := by
  rw [hv', hisz, hsz]; have htl : (vs.take (len * 1)).length = min ys.length len * 1 := by
   rw [Xh, hvl, Nat.min_comm]; rcases Y7 ys.length len with hh | hh
   . have := Xi 1 hh; rw [X0 hh, X0 this]
   . have := Xi 1 hh; rw [Xx hh, Xx this]
  cases ad with
  | none =>
   have h0 := hnone rfl; subst h0; have hv0 : vs = [] := Xp (by rw [hvl]; simp); subst hv0; simp [Builtin.firstCells]
  | some q => exact run_firstCells_some w 1 _ q _ cap' _ htl (fun j u hj => hcells q rfl j u (by
    rw [Yh] at hj
    split at hj
    . exact hj
    . cases hj))
 obtain ⟨b', c', cur, e', h5, h6, h7⟩ := h.hp.obj _ (q0g hg); simp only at h5; rw [hb] at h5; simp only [Xa, Xf] at h5; obtain ⟨rfl, rfl⟩ := h5; have hcl := q1f h7; simp only [Nat.mul_one] at hvl hfc; have hone' : ∀ u ∈ vs.take len, u.oneCell' = true := fun u hu => hone u (Xv hu); have hysl' : (ys.take len).flatten = ys.flatten.take len := by rw [qp4 len hysl, Nat.mul_one]
 have hrep : x9 w β 0 (own β s.hp C.A) (ys.take len).flatten (vs.take len) := by rw [hysl']; exact q64 hL _
 have hfit : off + (vs.take len).length <= cur.size := by
  rw [Xh]; have : cur.toList.length = cur.size := by simp
  omega
 have hst : (storeCells adx (vs.take len)).run P w = .ok () (w.setRow b (cur.toList.take off ++ vs.take len ++ cur.toList.drop (off + (vs.take len).length)).toArray) := by
  rcases had with rfl | h0
  . have := run_storeCells_at P b off e' (vs.take len) 0 cur w h6 (by rw [Xm]; exact hfit) hone'; simp only [Xm] at this; exact this
  . subst h0; simp only [Ys, storeCells, Yp, Ya, Xm, Yv, Yz]; rw [setRow_self w b cur e' (0, 0) h6]; rfl
 have hr : (Builtin.copy_ #[t, t'] o.type #[a.eval x, a.eval y]).run P w = .ok (.int .i64 ((min ys.length len : Nat) : Int)) (w.setRow b (cur.toList.take off ++ vs.take len ++ cur.toList.drop (off + (vs.take len).length)).toArray) := by
  rw [hv]; rw [hv'] at hfc ⊢; simp [Builtin.copy_, run_underlying (q0h he), Builtin.lenOf, sizeOf, typeInfo, hi, hmin, hfc, hst, goInt]
 unfold Oper.wp; rw [hex _ _ hr]; have h8 := h.write (cur' := (cur.toList.take off ++ vs.take len ++ cur.toList.drop (off + (vs.take len).length)).toArray) (o' := .box (q69 xs off (ys.take len).flatten)) hg hb (fun w' hA hw' =>
  ⟨b, c, _, e', hb, by rw [<- hw']; exact setRow_heap w b cur _ e' (0, 0) h6, qv9 (q1h hA _ _ (Xc _) (fun _ _ => rfl) _ _ h7) (q1h hA 0 _ (Nat.zero_le _) (fun _ hi => absurd hi (Xz _)) _ _ hrep)⟩)
 exact ⟨_, _, h8.put (by simp only [rep]) hd, hK⟩
end
end
section
open Go Go.RowKit
def q1o : List Value -> Option (List (Option IntKind))
 | [] => some []
 | .int k _ :: r => (q1o r).map (some k :: ·)
 | .bool _ :: r => (q1o r).map (none :: ·)
 | _ => none
def qb9 : List AV -> Option (List (Option IntKind))
 | [] => some []
 | .v (.int k _) :: r => (qb9 r).map (some k :: ·)
 | .v (.bool _) :: r => (qb9 r).map (none :: ·)
 | _ => none
def eqV : List Value -> List Value -> Bool
 | .int _ a :: r, .int _ b :: q => a == b && eqV r q
 | .bool a :: r, .bool b :: q => a == b && eqV r q
 | _, _ => true
def eqA : List AV -> List AV -> Bool
 | .v (.int _ a) :: r, .v (.int _ b) :: q => a == b && eqA r q
 | .v (.bool a) :: r, .v (.bool b) :: q => a == b && eqA r q
 | _, _ => true
def EqT (P : Program) (t : TypeId) (sh : List (Option IntKind)) : Prop :=
 P.eqGuardType P.depth t = false /\ ∀ (us vs : List Value), q1o us = some sh -> q1o vs = some sh -> ∀ w : World, (Op.equalIn 10000 t (.agg ⟨us⟩) (.agg ⟨vs⟩)).run P w = .ok (eqV us vs) w
def eqR (P : Program) (op : BinOp) (t : TypeId) : AV -> AV -> Option (Prop × AV)
 | .agg xs, .agg ys => match qb9 xs, op with
  | some sh, .eql => some (qb9 ys = some sh /\ EqT P t sh, .v (.bool (eqA xs ys)))
  | some sh, .neq => some (qb9 ys = some sh /\ EqT P t sh, .v (.bool (!eqA xs ys)))
  | _, _ => none
 | .v (.bool a), .v (.bool b) => match op with
  | .eql => some (P.underlying t = some .bool, .v (.bool (a == b)))
  | .neq => some (P.underlying t = some .bool, .v (.bool (!(a == b))))
  | _ => none
 | .v (.string a), .v (.string b) => match op with
  | .eql => some (True, .v (.bool (a == b)))
  | .neq => some (True, .v (.bool (a != b)))
  | .add => some (a.data.toList.length + b.data.toList.length <= 9223372036854775807, .v (.string ⟨⟨a.data.toList ++ b.data.toList⟩⟩))
  | _ => none
 | _, _ => none
section
variable {P : Program} {w : World} {β : Ghost} {nx : Nat} {ow : Nat -> Prop}
theorem q9o : ∀ {xs : List AV} {us : List Value} {sh : List (Option IntKind)}, qb9 xs = some sh -> x9 w β nx ow xs us -> q1o us = some sh /\ ∀ {ys : List AV} {vs : List Value}, x9 w β nx ow ys vs -> qb9 ys = some sh -> eqV us vs = eqA xs ys
 | [], [], sh, h, _ => by
  simp only [qb9, Xa] at h; subst h; exact ⟨rfl, fun _ _ => rfl⟩
 | x :: xs, u :: us, sh, h, hr => by
  unfold qb9 at h
  split at h
  . rename_i heq; simp at heq
  .
   rename_i k n r heq
   simp only [Yc] at heq; obtain ⟨rfl, rfl⟩ := heq; simp only [Xg] at h; obtain ⟨sh', h1, rfl⟩ := h; simp only [x9, rep] at hr; obtain ⟨rfl, hr⟩ := hr; obtain ⟨h2, h3⟩ := q9o h1 hr; refine ⟨by simp [q1o, h2], ?_⟩; intro ys vs hy hs; unfold qb9 at hs
   split at hs
   . simp at hs
   .
    rename_i k' n' r'
    simp only [Xg, Yc, Xa] at hs; obtain ⟨sh2, h4, rfl, rfl⟩ := hs
    cases vs with
    | nil => simp only [x9] at hy
    | cons v vs =>
     simp only [x9, rep] at hy; obtain ⟨rfl, hy⟩ := hy; simp only [eqV, eqA, h3 hy h4]
   . simp at hs
   . cases hs
  .
   rename_i b r heq
   simp only [Yc] at heq; obtain ⟨rfl, rfl⟩ := heq; simp only [Xg] at h; obtain ⟨sh', h1, rfl⟩ := h; simp only [x9, rep] at hr; obtain ⟨rfl, hr⟩ := hr; obtain ⟨h2, h3⟩ := q9o h1 hr; refine ⟨by simp [q1o, h2], ?_⟩; intro ys vs hy hs; unfold qb9 at hs
   split at hs
   . simp at hs
   . simp at hs
   .
    rename_i b' r'
    simp only [Xg, Yc, true_and] at hs; obtain ⟨sh2, h4, rfl⟩ := hs
    cases vs with
    | nil => simp only [x9] at hy
    | cons v vs =>
     simp only [x9, rep] at hy; obtain ⟨rfl, hy⟩ := hy; simp only [eqV, eqA, h3 hy h4]
   . cases hs
  . cases h
 | [], _ :: _, _, _, h => by simp only [x9] at h
 | _ :: _, [], _, _, h => by simp only [x9] at h
theorem j2k {op : BinOp} {t : TypeId} {xo yo : Operand} {x y r : AV} {c : Prop} {u v : Value} (h : eqR P op t x y = some (c, r)) (hc : c) (hx : rep w β nx ow x u) (hy : rep w β nx ow y v) :
  ∃ z, (do eqGuard op t xo yo u v; binOp op t u v : Sem Value).run P w = .ok z w /\ rep w β nx ow r z := by
 unfold eqR at h
 split at h
 .
  rename_i xs ys
  simp only [rep] at hx hy; obtain ⟨us, rfl, hx⟩ := hx; obtain ⟨vs, rfl, hy⟩ := hy
  split at h
  .
   rename_i sh hsh
   simp only [Xa, Xf] at h; obtain ⟨rfl, rfl⟩ := h; obtain ⟨hys, hg, he⟩ := hc; obtain ⟨h1, h2⟩ := q9o hsh hx; have h3 := (q9o hys hy).1; refine ⟨.bool (eqA xs ys), ?_, by simp only [rep]⟩; have := he us vs h1 h3 w; rw [h2 hy hys] at this; simp only [Sem.run_bind, run_eqGuard_agg (P := P) w _ t xo yo ⟨us⟩ ⟨vs⟩ hg, Result.andThen_ok, run_eql_struct, this]
  .
   rename_i sh hsh
   simp only [Xa, Xf] at h; obtain ⟨rfl, rfl⟩ := h; obtain ⟨hys, hg, he⟩ := hc; obtain ⟨h1, h2⟩ := q9o hsh hx; have h3 := (q9o hys hy).1; refine ⟨.bool (!eqA xs ys), ?_, by simp only [rep]⟩; have := he us vs h1 h3 w; rw [h2 hy hys] at this; simp only [Sem.run_bind, run_eqGuard_agg (P := P) w _ t xo yo ⟨us⟩ ⟨vs⟩ hg, Result.andThen_ok, run_neq_struct, this]
  . cases h
 .
  rename_i a b
  simp only [rep] at hx hy; subst hx hy
  split at h
  . simp only [Xa, Xf] at h; obtain ⟨rfl, rfl⟩ := h; exact ⟨.bool (a == b), by simp [eqGuard, run_eql_bool w t a b hc], by simp only [rep]⟩
  . simp only [Xa, Xf] at h; obtain ⟨rfl, rfl⟩ := h; exact ⟨.bool (!(a == b)), by simp [eqGuard, run_neq_bool w t a b hc], by simp only [rep]⟩
  . cases h
 .
  rename_i a b
  simp only [rep] at hx hy; subst hx hy
  split at h
  . simp only [Xa, Xf] at h; obtain ⟨_, rfl⟩ := h; exact ⟨.bool (a == b), by simp [eqGuard, binOp, Op.stringOp, beq_toListBytes], by simp only [rep]⟩
  . simp only [Xa, Xf] at h; obtain ⟨_, rfl⟩ := h; exact ⟨.bool (a != b), by simp [eqGuard, binOp, Op.stringOp, bne, beq_toListBytes], by simp only [rep]⟩
  .
   simp only [Xa, Xf] at h; obtain ⟨rfl, rfl⟩ := h; have hsz : (a.size : Int) + (b.size : Int) <= 9223372036854775807 := by
    have e1 : a.size = a.data.toList.length := rfl; have e2 : b.size = b.data.toList.length := rfl; rw [e1, e2]; omega
   refine ⟨.string (a ++ b), by simp [eqGuard, binOp, Op.stringOp, hsz], ?_⟩; simp only [rep]
   congr 1
  . cases h
 . cases h
def z8s (P : Program) (t : TypeId) : Bool := match P.underlying t with
 | some (.interface _) => true
 | _ => false
def z1o (P : Program) (t : TypeId) : Bool := match P.underlying t with
 | some (.pointer _) => true
 | _ => false
def zg8 (P : Program) (op : BinOp) (t : TypeId) (a : AV) (y : Operand) : Option (Prop × AV) := match op, a, y with
 | .eql, .erb g, .const .nilIface => some (z8s P t = true, .v (.bool g))
 | .neq, .erb g, .const .nilIface => some (z8s P t = true, .v (.bool (!g)))
 | .eql, .ptr _ _, .const (.pointer none) => some (z1o P t = true, .v (.bool false))
 | .neq, .ptr _ _, .const (.pointer none) => some (z1o P t = true, .v (.bool true))
 | .eql, .v (.pointer none), .const (.pointer none) => some (z1o P t = true, .v (.bool true))
 | .neq, .v (.pointer none), .const (.pointer none) => some (z1o P t = true, .v (.bool false))
 | _, _, _ => none
theorem zr2 {op : BinOp} {t : TypeId} {xo yo : Operand} {x r : AV} {c : Prop} {u v : Value} (h : zg8 P op t x yo = some (c, r)) (hc : c) (hx : rep w β nx ow x u) (hy : ∀ z, yo = .const z -> v = z) :
  ∃ z, (do eqGuard op t xo yo u v; binOp op t u v : Sem Value).run P w = .ok z w /\ rep w β nx ow r z := by
 have key : ∀ g : Bool, yo = .const .nilIface -> x = .erb g -> z8s P t = true -> (eqGuard .eql t xo yo u v).run P w = .ok () w /\ (eqGuard .neq t xo yo u v).run P w = .ok () w /\ (binOp .eql t u v).run P w = .ok (.bool g) w /\ (binOp .neq t u v).run P w = .ok (.bool (!g)) w := by
  intro g h1 h2 h3; obtain rfl := hy _ h1; subst h1 h2; obtain ⟨ms, hi⟩ : ∃ ms, P.underlying t = some (.interface ms) := by
   unfold z8s at h3
   split at h3
   . exact ⟨_, by assumption⟩
   . cases h3
  simp only [rep] at hx
  cases g with
  | true =>
   obtain rfl := hx.1 rfl; have h : ∀ d : Nat, (Op.equalIn (d + 1) t .nilIface .nilIface).run P w = .ok true w := fun d => by simp [Op.equalIn, run_underlying hi]
   exact ⟨by simp [eqGuard], by simp [eqGuard], by simp only [binOp]; simp [Op.equal, Op.maxDepth, h 9999], by simp only [binOp]; simp [Op.equal, Op.maxDepth, h 9999]⟩
  | false =>
   obtain ⟨tp, p, rfl⟩ := hx.2 rfl; have h : ∀ d : Nat, (Op.equalIn (d + 1) t (.iface tp p) .nilIface).run P w = .ok false w := fun d => by simp [Op.equalIn, run_underlying hi]
   exact ⟨by simp [eqGuard], by simp [eqGuard], by simp only [binOp]; simp [Op.equal, Op.maxDepth, h 9999], by simp only [binOp]; simp [Op.equal, Op.maxDepth, h 9999]⟩
 have kp : ∀ (x : Option Addr), z1o P t = true -> ∀ d : Nat, (Op.equalIn (d + 1) t (.pointer x) (.pointer none)).run P w = .ok (x == none) w := fun x h3 d => by
  unfold z1o at h3
  split at h3
  . rename_i he; cases x <;> simp [Op.equalIn, run_underlying he]
  . cases h3
 unfold zg8 at h
 split at h
 .
  rename_i g
  simp only [Xa, Xf] at h; obtain ⟨rfl, rfl⟩ := h; obtain ⟨k1, k2, k3, k4⟩ := key g rfl rfl hc; exact ⟨.bool g, by simp [k1, k3], by simp only [rep]⟩
 .
  rename_i g
  simp only [Xa, Xf] at h; obtain ⟨rfl, rfl⟩ := h; obtain ⟨k1, k2, k3, k4⟩ := key g rfl rfl hc; exact ⟨.bool (!g), by simp [k2, k4], by simp only [rep]⟩
 . simp only [Xa, Xf] at h; obtain ⟨rfl, rfl⟩ := h; obtain rfl := hy _ rfl; simp only [rep] at hx; obtain ⟨_, b, c', _, rfl⟩ := hx; have h9 := fun x => kp x hc 9999; exact ⟨.bool false, by simp only [binOp]; simp [eqGuard, Op.equal, Op.maxDepth, h9], by simp only [rep]⟩
 . simp only [Xa, Xf] at h; obtain ⟨rfl, rfl⟩ := h; obtain rfl := hy _ rfl; simp only [rep] at hx; obtain ⟨_, b, c', _, rfl⟩ := hx; have h9 := fun x => kp x hc 9999; exact ⟨.bool true, by simp only [binOp]; simp [eqGuard, Op.equal, Op.maxDepth, h9], by simp only [rep]⟩
 . simp only [Xa, Xf] at h; obtain ⟨rfl, rfl⟩ := h; obtain rfl := hy _ rfl; simp only [rep] at hx; subst hx; have h9 := fun x => kp x hc 9999; exact ⟨.bool true, by simp only [binOp]; simp [eqGuard, Op.equal, Op.maxDepth, h9], by simp only [rep]⟩
 . simp only [Xa, Xf] at h; obtain ⟨rfl, rfl⟩ := h; obtain rfl := hy _ rfl; simp only [rep] at hx; subst hx; have h9 := fun x => kp x hc 9999; exact ⟨.bool false, by simp only [binOp]; simp [eqGuard, Op.equal, Op.maxDepth, h9], by simp only [rep]⟩
 . cases h
def qh8 (P : Program) (hp : Hp) (ev : Operand -> AV) : Op -> Option (Prop × AV)
 | .build t parts => z4w P ev t parts.toList
 | .binOp op t x y ty => match fop P hp ev (.binOp op t x y ty) with
  | some r => some r
  | none => match zg8 P op t (ev x) y with
   | some r => some r
   | none => n1 (ev x) (n1 (ev y) (eqR P op t (ev x).st (ev y).st))
 | op => fop P hp ev op
theorem z3g {A : Nat -> Prop} {hp : Hp} {ev : Operand -> AV} {ρ : Operand -> Value} (hhp : HpRel w β nx A hp) (hev : ∀ x, rep w β nx (own β hp A) (ev x) (ρ x)) {o : Oper} {c : Prop} {r : AV} (hcst : ∀ y z, y = .const z -> ρ y = z) (h : qh8 P hp ev o.op = some (c, r)) (hc : c) :
  ∃ z, (execOp ρ o).run P w = .ok (.value z) w /\ rep w β nx (own β hp A) r z := by
 unfold qh8 at h
 split at h
 .
  rename_i t parts heq
  obtain ⟨z, hz, hr⟩ := zo8 hev h hc; refine ⟨z, ?_, hr⟩; unfold execOp; simp only [heq]; simp [hz]
 .
  rename_i op t x y ty heq
  split at h
  .
   rename_i r' h'
   simp only [Xa] at h; subst h; exact ze3 hhp hev (by rw [heq]; exact h') hc
  .
   split at h
   .
    rename_i r' h'
    simp only [Xa] at h; subst h; obtain ⟨z, hz, hr⟩ := zr2 (P := P) h' hc (hev x) (hcst _); refine ⟨z, ?_, hr⟩; unfold execOp; simp only [heq]; simp only [Sem.run_bind, Sem.run_pure] at hz ⊢; rw [hz]; rfl
   . obtain ⟨c', h1, rfl⟩ := q3w h; obtain ⟨c'', h2, rfl⟩ := q3w h1; obtain ⟨z, hz, hr⟩ := j2k (P := P) h2 hc.2.2 (q1b (hev _) hc.1) (q1b (hev _) hc.2.1); refine ⟨z, ?_, hr⟩; unfold execOp; simp only [heq]; simp only [Sem.run_bind, Sem.run_pure] at hz ⊢; rw [hz]; rfl
 . exact ze3 hhp hev h hc
end
end
section
open Go Go.RowKit
def q8l (P : Program) (s : St) (f : FuncId) (args : List AV) (K : St -> AV -> Prop) : Prop :=
 ∀ (C : Ctx P) (a : Act) (w : World) (β : Ghost) (vs : List Value), Rel C s a w β -> x9 w β s.nx (own β s.hp C.A) args vs ->
  CallsE P f ⟨vs⟩ w fun e w' => ∃ v r s' β', e = .returned v /\ Rel C s' a w' β' /\ rep w' β' s'.nx (own β' s'.hp C.A) r v /\ K s' r
def j5z (dst : Option Nat) (K : St -> Prop) : St -> AV -> Prop := fun s r => K (s.put dst r)
theorem j51 (dst : Option Nat) (K : St -> Prop) (s : St) (r : AV) : j5z dst K s r = K (s.put dst r) := rfl
def opW (P : Program) (o : Oper) (s : St) (K : St -> Prop) : Prop := dok s.nt o.dst = true -> ∀ (C : Ctx P) (a : Act) (w : World) (β : Ghost), Rel C s a w β -> ∀ Q : Exit -> Act -> World -> Prop, o.wp P a w (RK C K) Q
def opS (P : Program) (o : Oper) (s : St) (K : St -> Prop) : Prop :=
 ∃ (H : Hp) (N : Nat) (R : AV), K (({ s with hp := H, nx := N } : St).put o.dst R) /\ ∀ env' : List (Nat × AV), (∀ x ∈ o.op.operands, u6 env' x = u6 s.env x) -> ∀ K' : St -> Prop, K' (({ s with env := env', hp := H, nx := N } : St).put o.dst R) -> opW P o { s with env := env' } K'
def vcX (P : Program) (o : Oper) (s : St) (K : St -> Prop) : Prop :=
 match o.op with
 | .alloc e => match q1i P e with
  | some (.pointer none :: .slice none 0 0 :: zs) => K (({ s with hp := (s.nx, .con (z1w e) (.v (.pointer none) :: .v (.slice none 0 0) :: zs.map AV.v)) :: s.hp, nx := s.nx + 1 } : St).put o.dst (.ptr s.nx 0))
  | some zs => K (({ s with hp := (s.nx, .box (zs.map AV.v)) :: s.hp, nx := s.nx + 1 } : St).put o.dst (.ptr s.nx 0))
  | none => False
 | .box e x => match q9b (u6 s.env x).st with
  | some (.v (.pointer none) :: .v (.slice none 0 0) :: r) => (u6 s.env x).need /\ K (({ s with hp := (s.nx, .con (z1w e) (.v (.pointer none) :: .v (.slice none 0 0) :: r)) :: s.hp, nx := s.nx + 1 } : St).put o.dst (.ptr s.nx 0))
  | some cs => (u6 s.env x).need /\ K (({ s with hp := (s.nx, .box cs) :: s.hp, nx := s.nx + 1 } : St).put o.dst (.ptr s.nx 0))
  | none => False
 | .store t x y => match (u6 s.env x).st, q9b (u6 s.env y).st with
  | .ptr id off, some ys => match q0e s.hp id with
   | some (.box cs) => ((u6 s.env x).need /\ (u6 s.env y).need /\ q12 P t = true /\ ys.length = szT P t /\ off + ys.length <= cs.length /\ ys.all q8n = true) /\
     K (({ s with hp := q0o s.hp id (.box (q69 cs off ys)) } : St).put o.dst (.v undef))
   | some (.con k cs) => match k.k with
    | some n => (n <= off /\ (u6 s.env x).need /\ (u6 s.env y).need /\ q12 P t = true /\ ys.length = szT P t /\ off - n + ys.length <= cs.length /\ ys.all q8n = true) /\
     K (({ s with hp := q0o s.hp id (.con k (q69 cs (off - n) ys)) } : St).put o.dst (.v undef))
    | none => False
   | _ => False
  | .apt id sz i off, some ys => match q0e (q5u (q75 ys) s.hp) id with
   | some (.arr sz' xs) => ((u6 s.env x).need /\ (u6 s.env y).need /\ sz' = sz /\ qq9 s.hp ys /\ q12 P t = true /\ ys.length = szT P t /\ (i < xs.length /\ off + ys.length <= sz) /\ ys.all q8n = true /\ (ys.map (frz s.hp)).all q8j = true) /\
     K (({ s with hp := q0o (q5u (q75 ys) s.hp) id (.arr sz (xs.set i (q69 (q30 xs i) off (q1l (q8k P t) (ys.map (frz s.hp)))))) } : St).put o.dst (.v undef))
   | some (.con k cs) => match k.k with
    | some n => (n = i * sz /\ q0e s.hp id = some (.con k cs) /\ (u6 s.env x).need /\ (u6 s.env y).need /\ q12 P t = true /\ ys.length = szT P t /\ off + ys.length <= cs.length /\ ys.all q8n = true) /\
     K (({ s with hp := q0o s.hp id (.con k (q69 cs off ys)) } : St).put o.dst (.v undef))
    | none => False
   | _ => False
  | _, _ => False
 | .buildSlice t n parts => match sliceT P t, qq4 (parts.toList.map fun p => (u6 s.env p.2).st) with
  | some e, some ([.ptr i0 o0] :: rs) => match q1i P e with
   | some _ => (q12 P e = true /\ szT P e = 1 /\ n <= 16777216 /\ q8t parts.toList 0 = true /\ parts.toList.length = n /\ needs (parts.toList.map fun p => u6 s.env p.2) /\ qj8 (szT P e) ([.ptr i0 o0] :: rs) = true) /\
     K (({ s with hp := (s.nx, .box (.ptr i0 o0 :: rs.flatten)) :: s.hp, nx := s.nx + 1 } : St).put o.dst (.bsl s.nx 0 n))
   | none => False
  | some e, some rs => match q1i P e with
   | some zs => (q12 P e = true /\ zs.length = szT P e /\ 0 < szT P e /\ n * szT P e <= 16777216 /\ q8t parts.toList 0 = true /\ parts.toList.length = n /\ needs (parts.toList.map fun p => u6 s.env p.2) /\ qj8 (szT P e) rs = true /\
      rs.flatten.all q8n = true /\ qq9 s.hp rs.flatten /\ (rs.flatten.map (frz s.hp)).all q8j = true) /\
     K (({ s with hp := (s.nx, .arr (szT P e) ((rs.map (·.map (frz s.hp))).map (q1l (qv0 s.hp P e)))) :: q5u (q75 rs.flatten) s.hp, nx := s.nx + 1 } : St).put o.dst (.osl s.nx (szT P e) 0 n))
   | none => False
  | _, _ => False
 | .makeSlice t l c => match (u6 s.env l).st, (u6 s.env c).st, sliceT P t with
  | .v (.int _ n), .v (.int _ m), some e => match q1i P e with
   | some zs => ((u6 s.env l).need /\ (u6 s.env c).need /\ m = n /\ q12 P e = true /\ zs.length = szT P e /\ 0 < szT P e /\ 0 < q1v P e /\ 0 <= n /\ n * q1v P e <= 140737488355328 /\ zs.all (·.oneCell') = true) /\
     K (({ s with hp := (s.nx, .arr (szT P e) (Xb n.toNat (q1l (qv0 s.hp P e) (zs.map AV.v)))) :: s.hp, nx := s.nx + 1 } : St).put o.dst (.osl s.nx (szT P e) 0 n.toNat))
   | none => False
  | _, _, _ => False
 | .convert src dst x => match (u6 s.env x).st, sliceT P src with
  | .osl id sz off len, some e => match q0e s.hp id with
   | some (.arr sz' xs) => ((u6 s.env x).need /\ dst = src /\ qj9 P e = some .u8 /\ sz = 1 /\ sz' = 1 /\ off = 0 /\ len = xs.length /\ xs ≠ []) /\ K (({ s with hp := q41 s.hp id } : St).put o.dst (.sl 1 xs))
   | _ => False
  | _, _ => False
 | .slice t x (some lo) (some hi) (some mx) => match z2d P t (u6 s.env lo).st (u6 s.env hi).st (u6 s.env mx).st (u6 s.env x).st with
  | some (c, r) => ((u6 s.env x).need /\ (u6 s.env lo).need /\ (u6 s.env hi).need /\ (u6 s.env mx).need /\ c) /\ K (s.put o.dst r)
  | none => False
 | .binOp .eql t x y _ => match (u6 s.env x).st, (u6 s.env y).st with
  | .sl _ xs, .v (.slice none 0 0) => ((u6 s.env x).need /\ (u6 s.env y).need /\ (sliceT P t).isSome = true) /\ ∀ b : Bool, (xs ≠ [] -> b = false) -> K (s.put o.dst (.v (.bool b)))
  | .osl _ _ _ len, .v (.slice none 0 0) => ((u6 s.env x).need /\ (u6 s.env y).need /\ (sliceT P t).isSome = true /\ 0 < len) /\ K (s.put o.dst (.v (.bool false)))
  | .v (.slice none 0 0), .v (.slice none 0 0) => ((u6 s.env x).need /\ (u6 s.env y).need /\ (sliceT P t).isSome = true) /\ K (s.put o.dst (.v (.bool true)))
  | _, _ => False
 | .binOp .neq t x y _ => match (u6 s.env x).st, (u6 s.env y).st with
  | .osl _ _ _ len, .v (.slice none 0 0) => ((u6 s.env x).need /\ (u6 s.env y).need /\ (sliceT P t).isSome = true /\ 0 < len) /\ K (s.put o.dst (.v (.bool true)))
  | .v (.slice none 0 0), .v (.slice none 0 0) => ((u6 s.env x).need /\ (u6 s.env y).need /\ (sliceT P t).isSome = true) /\ K (s.put o.dst (.v (.bool false)))
  | _, _ => False
 | .mapUpdate _ _ _ _ => opS P o s K
 | .makeMap _ _ => opS P o s K
 | .call c => match c.callee, c.args.toList, c.argTypes.toList with
  | .builtin .append, [x, y], [t, t'] => match sliceT P t, zh2 s.hp (u6 s.env x).st, qu8 s.hp (u6 s.env y).st with
   | some e, some (szx, xs, ids, cb), some (szy, ys, cs) => match q1i P e with
    | some zs => (t' = t /\ (u6 s.env x).need /\ (u6 s.env y).need /\ cb /\ cs /\ q12 P e = true /\ zs.length = szT P e /\ (ids = [] \/ szx = szT P e) /\ (ys = [] \/ szy = szT P e) /\ 0 < q1v P e /\
       (xs.length + ys.length) * q1v P e <= 140737488355328) /\
      K (({ s with hp := (s.nx, .arr (szT P e) (xs ++ ys)) :: q5u ids s.hp, nx := s.nx + 1 } : St).put o.dst (.osl s.nx (szT P e) 0 (xs.length + ys.length)))
    | none => False
   | some _, none, some _ => opS P o s K
   | _, _, _ => False
  | .builtin .clear, [x], [t] => match (u6 s.env x).st, sliceT P t with
   | .osl id sz off len, some e => match q0e s.hp id, q1i P e with
    | some (.arr sz' xs), some zs => ((u6 s.env x).need /\ sz' = sz /\ off + len <= xs.length /\ q12 P e = true /\ szT P e = sz /\ zs.length = sz /\ 0 < sz /\ zs.all (·.oneCell') = true) /\
      K (({ s with hp := q0o s.hp id (.arr sz (xs.take off ++ Xb len (q1l (q8k P e) (zs.map AV.v)) ++ xs.drop (off + len))) } : St).put o.dst (.tup []))
    | _, _ => False
   | _, _ => False
  | .builtin .copy, [x, y], [t, _] => match (u6 s.env x).st, sliceT P t, qu8 s.hp (u6 s.env y).st with
   | .osl id sz off len, some e, some (szy, ys, cs) => match q0e s.hp id with
    | some (.arr sz' xs) => ((u6 s.env x).need /\ (u6 s.env y).need /\ sz' = sz /\ off + len <= xs.length /\ cs /\ q12 P e = true /\ szT P e = sz /\ (ys = [] \/ szy = sz)) /\
      K (({ s with hp := q0o s.hp id (.arr sz (xs.take off ++ ys.take len ++ xs.drop (off + (ys.take len).length))) } : St).put o.dst (.v (.int .i64 ((min ys.length len : Nat) : Int))))
    | _ => False
   | .bsl id off len, some e, some (szy, ys, cs) => match q0e s.hp id with
    | some (.box xs) => ((u6 s.env x).need /\ (u6 s.env y).need /\ off + len <= xs.length /\ cs /\ q12 P e = true /\ szT P e = 1 /\ (ys = [] \/ szy = 1)) /\
      K (({ s with hp := q0o s.hp id (.box (q69 xs off (ys.take len).flatten)) } : St).put o.dst (.v (.int .i64 ((min ys.length len : Nat) : Int))))
    | _ => False
   | _, _, _ => False
  | .builtin .delete, _, _ => opS P o s K
  | .value fo, args, _ => match (u6 s.env fo).st with
   | .clo f caps => (True /\ (u6 s.env fo).need /\ needs (args.map (u6 s.env))) /\ q8l P s f ((args.map fun x => (u6 s.env x).st) ++ caps) (j5z o.dst K)
   | _ => False
  | _, _, _ => False
 | _ => False
section
variable {P : Program} {C : Ctx P} {s : St} {a : Act} {w : World} {β : Ghost}
theorem zc4 {f : FuncId} {args : Array Value} (h : q00 P f = true) : (callFunc f args).run P w = .ok (.enter f args) w := by
 unfold q00 at h
 split at h
 .
  rename_i fn hf
  simp only [Xd, Bool.not_eq_true', Xw] at h; obtain ⟨h1, b, h2⟩ := h; unfold callFunc; simp [hf, h2] at h1 ⊢; simp [h1]
 . cases h
theorem zs5 (h : Rel C s a w β) {o : Oper} {cl : Call} {fo : Operand} {f : FuncId} {caps : List AV} {K : St -> Prop} {Q : Exit -> Act -> World -> Prop} (ho : o.op = .call cl) (hcl : cl.callee = .value fo) (hf : (u6 s.env fo).st = .clo f caps)
  (hfn : (u6 s.env fo).need) (hn : needs (cl.args.toList.map (u6 s.env))) (hd : dok s.nt o.dst = true)
  (hK : q8l P s f ((cl.args.toList.map fun x => (u6 s.env x).st) ++ caps) (fun s' r => K (s'.put o.dst r))) : o.wp P a w (RK C K) Q := by
 have h1 := q1u h hfn; rw [hf] at h1; simp only [rep] at h1; obtain ⟨l, h1, h2⟩ := h1; have h3 := z2v (fun x => h.ev x) cl.args.toList hn; have hargs : cl.args.map a.eval = ⟨cl.args.toList.map a.eval⟩ := Xn (by simp); have e0 : (⟨cl.args.toList.map a.eval⟩ : Array Value) ++ (⟨l⟩ : Array Value) = ⟨cl.args.toList.map a.eval ++ l⟩ := Xn (by simp); have hcall := hK C a w β _ h (q5g h3 h2)
 cases hB : q00 P f with
 | true =>
  have hrun : (execOp a.eval o).run P w = .ok (.enter f ⟨cl.args.toList.map a.eval ++ l⟩) w := by
   unfold execOp; simp only [ho]; simp only [resolve, hcl, h1, hargs, Deferred.ofValue, Sem.run_bind, Sem.run_pure, Result.andThen_ok, invoke, X8, e0, zc4 hB]
  unfold Oper.wp; rw [hrun]; simp only [Oper.upon]; refine (hcall.1 hB).mono ?_; rintro e w' ⟨v, r, s', β', rfl, hR, hv, k⟩; have hnt : s'.nt = s.nt := hR.nt.symm.trans h.nt; exact ⟨_, β', hR.put hv (by rw [hnt]; exact hd), k⟩
 | false =>
  obtain ⟨v0, w', hr0, v, r, s', β', hv0, hR, hv, k⟩ := hcall.2 hB
  cases hv0
  have hrun : (execOp a.eval o).run P w = .ok (.value v0) w' := by
   unfold execOp; simp only [ho]; simp only [resolve, hcl, h1, hargs, Deferred.ofValue, Sem.run_bind, Sem.run_pure, Result.andThen_ok, invoke, X8, e0, hr0]
  unfold Oper.wp; rw [hrun]; simp only [Oper.upon]; have hnt : s'.nt = s.nt := hR.nt.symm.trans h.nt; exact ⟨_, β', hR.put hv (by rw [hnt]; exact hd), k⟩
theorem zb3 (h : Rel C s a w β) {o : Oper} {K : St -> Prop} {Q : Exit -> Act -> World -> Prop} (hd : dok s.nt o.dst = true) (hv : vcX P o s K) : o.wp P a w (RK C K) Q := by
 unfold vcX at hv
 split at hv
 .
  rename_i e ho
  split at hv
  . rename_i hz; exact j0y h ho hz hd hv
  . rename_i zs _ hz; exact j3d h ho hz hd hv
  . exact hv.elim
 .
  rename_i e x ho
  split at hv
  . rename_i r hc; exact j6a h ho hv.1 hc hd hv.2
  . rename_i cs _ hc; exact j82 h ho hv.1 hc hd hv.2
  . exact hv.elim
 .
  rename_i t x y ho
  split at hv
  .
   rename_i id off ys hx hy
   split at hv
   .
    rename_i cs hg
    obtain ⟨⟨c1, c2, c3, c4, c5, c6⟩, hk⟩ := hv; exact j39 h ho c1 c2 hx hg hy c3 c4 c5 c6 hd hk
   .
    rename_i k cs hg
    split at hv
    .
     rename_i n hn
     obtain ⟨⟨c0, c1, c2, c3, c4, c5, c6⟩, hk⟩ := hv; exact j0u h ho c1 c2 hx hn c0 hg hy c3 c4 c5 c6 hd hk
    . exact hv.elim
   . exact hv.elim
  .
   rename_i id sz i off ys hx hy
   split at hv
   .
    rename_i sz' xs hg
    obtain ⟨⟨c1, c2, rfl, c4, c5, c6, c7, c8, c9⟩, hk⟩ := hv; exact j0v h ho c1 c2 hx hy c4 hg c5 c6 c7 c8 c9 hd hk
   .
    rename_i k cs hg
    split at hv
    .
     rename_i n hn
     obtain ⟨⟨c0, c00, c1, c2, c3, c4, c5, c6⟩, hk⟩ := hv; exact j0t h ho c1 c2 hx hn c0 c00 hy c3 c4 c5 c6 hd hk
    . exact hv.elim
   . exact hv.elim
  . exact hv.elim
 .
  rename_i t n parts ho
  split at hv
  .
   rename_i e i0 o0 rs he hr
   split at hv
   .
    rename_i zs hz
    obtain ⟨⟨c1, c2, c3, c4, c5, c6, c7⟩, hk⟩ := hv; exact z9h h ho he c1 hz c2 c3 c4 c5 c6 hr c7 hd hk
   . exact hv.elim
  .
   rename_i e rs _ he hr
   split at hv
   .
    rename_i zs hz
    obtain ⟨⟨c1, c2, c3, c4, c5, c6, c7, c8, c9, c10, c11⟩, hk⟩ := hv; exact zf2 h ho he c1 hz c2 c3 c4 c5 c6 c7 hr c8 c9 c10 c11 hd hk
   . exact hv.elim
  . exact hv.elim
 .
  rename_i t l c ho
  split at hv
  .
   rename_i k n k' m e hl hc he
   split at hv
   .
    rename_i zs hz
    obtain ⟨⟨c1, c2, rfl, c3, c4, c5, c6, c7, c8, c9⟩, hk⟩ := hv; exact zh8 h ho hl hc c1 c2 he c3 hz c4 c5 c6 c7 c8 c9 hd hk
   . exact hv.elim
  . exact hv.elim
 .
  rename_i src dst x ho
  split at hv
  .
   rename_i id sz off len e hx he
   split at hv
   .
    rename_i sz' xs hg
    obtain ⟨⟨c1, rfl, c3, rfl, rfl, rfl, rfl, c4⟩, hk⟩ := hv; exact j3a h ho hx c1 hg he c3 c4 hd hk
   . exact hv.elim
  . exact hv.elim
 .
  rename_i t x lo hi mx ho
  split at hv
  .
   rename_i c r hr
   obtain ⟨⟨c1, c2, c3, c4, c5⟩, hk⟩ := hv; exact j0w h ho hr c5 c1 c2 c3 c4 hd hk
  . exact hv.elim
 .
  rename_i t x y t' ho
  split at hv
  .
   rename_i sz xs hx hy
   obtain ⟨⟨c1, c2, c3⟩, hk⟩ := hv; exact j0x h ho hx hy c1 c2 c3 hd hk
  .
   rename_i id sz off len hx hy
   obtain ⟨⟨c1, c2, c3, c4⟩, hk⟩ := hv; exact zs3 (eq := true) h ho hx hy c1 c2 c3 c4 hd hk
  .
   rename_i hx hy
   obtain ⟨⟨c1, c2, c3⟩, hk⟩ := hv; exact zs4 (eq := true) h ho hx hy c1 c2 c3 hd hk
  . exact hv.elim
 .
  rename_i t x y t' ho
  split at hv
  .
   rename_i id sz off len hx hy
   obtain ⟨⟨c1, c2, c3, c4⟩, hk⟩ := hv; exact zs3 (eq := false) h ho hx hy c1 c2 c3 c4 hd hk
  .
   rename_i hx hy
   obtain ⟨⟨c1, c2, c3⟩, hk⟩ := hv; exact zs4 (eq := false) h ho hx hy c1 c2 c3 hd hk
  . exact hv.elim
 . obtain ⟨H, N, R, hk, hw⟩ := hv; exact hw s.env (fun _ _ => rfl) K hk hd _ a w β h Q
 . obtain ⟨H, N, R, hk, hw⟩ := hv; exact hw s.env (fun _ _ => rfl) K hk hd _ a w β h Q
 .
  rename_i cl ho
  split at hv
  .
   rename_i x y t t' e1 e2 e3
   split at hv
   .
    rename_i e szx xs ids cb szy ys cs he hb hs
    split at hv
    .
     rename_i zs hz
     obtain ⟨⟨rfl, c2, c3, c4, c5, c6, c7, c8, c9, c10, c11⟩, hk⟩ := hv; exact zb2 h ho e1 e2 e3 c2 c3 hb c4 hs c5 he c6 hz c7 c8 c9 c10 c11 hd hk
    . exact hv.elim
   . obtain ⟨H, N, R, hk, hw⟩ := hv; exact hw s.env (fun _ _ => rfl) K hk hd _ a w β h Q
   . exact hv.elim
  .
   rename_i x t e1 e2 e3
   split at hv
   .
    rename_i id sz off len e hx he
    split at hv
    .
     rename_i sz' xs zs hg hz
     obtain ⟨⟨c1, rfl, c3, c4, c5, c6, c7, c8⟩, hk⟩ := hv; exact j3c h ho e1 e2 e3 c1 hx hg c3 he c4 c5 hz c6 c7 c8 hd hk
    . exact hv.elim
   . exact hv.elim
  .
   rename_i x y t t' e1 e2 e3
   split at hv
   .
    rename_i id sz off len e szy ys cs hx he hs
    split at hv
    .
     rename_i sz' xs hg
     obtain ⟨⟨c1, c2, rfl, c4, c5, c6, c7, c8⟩, hk⟩ := hv; exact j69 h ho e1 e2 e3 c1 c2 hx hg c4 hs c5 he c6 c7 c8 hd hk
    . exact hv.elim
   .
    rename_i id off len e szy ys cs hx he hs
    split at hv
    .
     rename_i xs hg
     obtain ⟨⟨c1, c2, c4, c5, c6, c7, c8⟩, hk⟩ := hv; exact j3b h ho e1 e2 e3 c1 c2 hx hg c4 hs c5 he c6 c7 c8 hd hk
    . exact hv.elim
   . exact hv.elim
  . obtain ⟨H, N, R, hk, hw⟩ := hv; exact hw s.env (fun _ _ => rfl) K hk hd _ a w β h Q
  .
   split at hv
   .
    rename_i f caps hf
    obtain ⟨⟨c1, c2, c3⟩, hk⟩ := hv; exact zs5 h ho (by assumption) hf c2 c3 hd hk
   . exact hv.elim
  . exact hv.elim
 . exact hv.elim
end
end
section
open Go Go.RowKit
def qw1 : AV -> Bool -> Option Bool
 | .v (.bool b), want => some (b == want)
 | .grd h (.v (.bool b)), want => some (h && (b == want))
 | .v (.tuple _), _ => some false
 | .grd _ (.v (.tuple _)), _ => some false
 | .grd false .junk, _ => some false
 | _, _ => none
def mkG (g : Bool) : AV -> AV
 | .grd h a => .grd (g && h) a
 | a => .grd g a
def q1n (ops : Array Oper) (j : Nat) : Option Nat := (ops[j]?).bind (·.dst)
def vcO (P : Program) (o : Oper) (s : St) (K : St -> Prop) : Prop :=
 match qh8 P s.hp (u6 s.env) o.op with
 | some (c, r) => c /\ K (s.put o.dst r)
 | none => vcX P o s K
def z7s : Op -> Bool
 | .indexAddr .. | .index .. | .slice .. | .makeSlice .. | .binOp .quo .. | .binOp .rem .. => true
 | .call c => match c.callee with | .builtin .len => false | .builtin .min => false | .builtin .max => false | _ => true
 | _ => false
def z08 (P : Program) (o : Oper) (K : St -> Prop) (s : St) (g : Bool) : Prop := (g = true -> vcO P o s K) /\ (g = false -> K (s.put o.dst (.v undef)))
theorem j3s (P : Program) (o : Oper) (K : St -> Prop) (s : St) : z08 P o K s true = vcO P o s K := by simp [z08]
theorem j3t (P : Program) (o : Oper) (K : St -> Prop) (s : St) : z08 P o K s false = K (s.put o.dst (.v undef)) := by simp [z08]
def vcG (P : Program) (ops : Array Oper) (o : Oper) (s : St) (K : St -> Prop) : Prop :=
 match o.guard with
 | none => vcO P o s K
 | some (j, want) => match q1n ops j with
  | some d => match qw1 (q0u s.env d) want with
   | some g => if z7s o.op = true then z08 P o K s g else match qh8 P s.hp (u6 s.env) o.op with
    | some (c, r) => (g = true -> c) /\ K (s.put o.dst (mkG g r))
    | none => z08 P o K s g
   | none => False
  | none => False
def q9n (P : Program) (ops : Array Oper) : List Oper -> St -> (St -> Prop) -> Prop
 | [], s, K => K s
 | o :: r, s, K => vcG P ops o s fun s' => q9n P ops r s' K
section
variable {P : Program} {C : Ctx P} {s : St} {a : Act} {w : World} {β : Ghost}
theorem qh7 {ops : Array Oper} {o : Oper} {j d : Nat} {want g : Bool} (hg : o.guard = some (j, want)) (hd : q1n ops j = some d) {nx : Nat} {ow : Nat -> Prop} {x : AV} (hb : qw1 x want = some g)
  {tmps : Array Value} (hr : rep w β nx ow x (tmps.getD d undef)) : Region.wanted o (yielded ops tmps) = g := by
 have hy : ∀ b, tmps.getD d undef = .bool b -> yielded ops tmps j = some b := fun b hb => by
  unfold yielded; unfold q1n at hd; rw [hd]; simp only [Zc]; rw [X3] at hb
  cases ht : tmps[d]? with
  | none => rw [ht] at hb; cases hb
  | some v => rw [ht] at hb; simp only [Option.getD_some] at hb; subst hb; rfl
 have hu : (∀ b, tmps.getD d undef ≠ .bool b) -> yielded ops tmps j = none := fun hb => by
  unfold yielded; unfold q1n at hd; rw [hd]; simp only [Zc]; rw [X3] at hb
  cases ht : tmps[d]? with
  | none => rfl
  | some v =>
   rw [ht] at hb
   cases v <;> first | rfl | exact absurd rfl (hb _)
 unfold Region.wanted; rw [hg]; simp only; unfold qw1 at hb
 split at hb
 .
  rename_i b
  simp only [Xa] at hb; simp only [rep] at hr; rw [hy b hr, <- hb]
  cases b <;> cases want <;> rfl
 .
  rename_i h b
  simp only [Xa] at hb; simp only [rep] at hr
  cases h with
  | true =>
   rw [hy b (hr.1 rfl), <- hb]
   cases b <;> cases want <;> rfl
  | false =>
   rw [hu (fun b hb' => by rw [hr.2 rfl] at hb'; cases hb'), <- hb]; simp
 . simp only [Xa] at hb; simp only [rep] at hr; rw [hu (fun b hb' => by rw [hr] at hb'; cases hb'), <- hb]; simp
 .
  rename_i h l
  simp only [Xa] at hb; simp only [rep] at hr; have hne : ∀ b, tmps.getD d undef ≠ .bool b := fun b hb' => by
   cases h with
   | true => rw [hr.1 rfl] at hb'; cases hb'
   | false => rw [hr.2 rfl] at hb'; cases hb'
  rw [hu hne, <- hb]; simp
 . simp only [Xa] at hb; simp only [rep] at hr; rw [hu (fun b hb' => by rw [hr.2 trivial] at hb'; cases hb'), <- hb]; simp
 . cases hb
theorem z0c {nx : Nat} {ow : Nat -> Prop} {r : AV} {u : Value} (h : rep w β nx ow r u) : rep w β nx ow (mkG true r) u := by
 cases r <;> simp only [mkG] <;> simp only [rep] at h ⊢ <;> first
  | exact ⟨fun _ => h, fun h0 => by cases h0⟩
  | simpa using h
theorem qw9 {nx : Nat} {ow : Nat -> Prop} {r : AV} : rep w β nx ow (mkG false r) undef := by
 cases r <;> simp [mkG, rep]
theorem zb4 (h : Rel C s a w β) {o : Oper} {K : St -> Prop} {Q : Exit -> Act -> World -> Prop} (hd : dok s.nt o.dst = true) (hv : vcO P o s K) : o.wp P a w (RK C K) Q := by
 unfold vcO at hv
 split at hv
 .
  rename_i c r hf
  obtain ⟨z, hz, hr⟩ := z3g h.hp (fun x => h.ev x) (fun _ _ e => by subst e; rfl) hf hv.1; unfold Oper.wp; rw [hz]; exact ⟨_, _, h.put hr hd, hv.2⟩
 . exact zb3 h hd hv
theorem zb5 (h : Rel C s a w β) {ops : Array Oper} {o : Oper} {K : St -> Prop} {Q : Exit -> Act -> World -> Prop} (hd : dok s.nt o.dst = true) (hv : vcG P ops o s K) :
  if Region.wanted o (yielded ops a.tmps) then o.wp P a w (RK C K) Q else RK C K (a.put o.dst undef) w := by
 unfold vcG at hv
 split at hv
 .
  rename_i hg
  rw [if_pos (by simp [Region.wanted, hg])]; exact zb4 h hd hv
 .
  rename_i j want hg
  split at hv
  .
   rename_i d hdj
   split at hv
   .
    rename_i g hgb
    have hw := qh7 hg hdj hgb (h.env d); rw [hw]; have hsp : z08 P o K s g -> if g = true then o.wp P a w (RK C K) Q else RK C K (a.put o.dst undef) w := fun hv => by
     cases g with
     | true => rw [if_pos rfl]; exact zb4 h hd (hv.1 rfl)
     | false =>
      rw [if_neg (by simp)]; exact ⟨_, _, h.put (by simp only [rep]) hd, hv.2 rfl⟩
    split at hv
    . exact hsp hv
    .
     split at hv
     .
      rename_i c r hf
      cases g with
      | true =>
       rw [if_pos rfl]; obtain ⟨z, hz, hr⟩ := z3g h.hp (fun x => h.ev x) (fun _ _ e => by subst e; rfl) hf (hv.1 rfl); unfold Oper.wp; rw [hz]; exact ⟨_, _, h.put (z0c hr) hd, hv.2⟩
      | false =>
       rw [if_neg (by simp)]; exact ⟨_, _, h.put qw9 hd, hv.2⟩
     . exact hsp hv
   . exact hv.elim
  . exact hv.elim
def qu9 (n : Nat) (ops : List Oper) : Bool := ops.all fun o => dok n o.dst
theorem z5y {ops : Array Oper} {Q : Exit -> Act -> World -> Prop} {K : St -> Prop} (hQ : ∀ a w, RK C K a w -> Q .normal a w) : ∀ (l : List Oper) (s : St) (a : Act) (w : World) (β : Ghost), Rel C s a w β -> qu9 s.nt l = true -> q9n P ops l s K -> wpList P ops Q l a w
 | [], s, a, w, β, h, _, hv => hQ a w ⟨s, β, h, hv⟩
 | o :: r, s, a, w, β, h, hok, hv => by
  simp only [qu9, List.all_cons, Xd] at hok; have h1 := zb5 (Q := Q) h hok.1 hv; unfold wpList; have hnext : ∀ a' w', a'.tmps.size = a.tmps.size -> RK C (fun s' => q9n P ops r s' K) a' w' -> wpList P ops Q r a' w' := by
   rintro a' w' hsz ⟨s', β', hR, hk⟩; refine z5y hQ r s' a' w' β' hR ?_ hk; have : s'.nt = s.nt := by rw [<- hR.nt, hsz, h.nt]
   rw [this]; exact hok.2
  have hsize : ∀ v, (a.put o.dst v).tmps.size = a.tmps.size := fun v => by
   cases hdd : o.dst <;> simp [Act.put]
  split
  .
   rename_i hw
   rw [if_pos hw] at h1
   left
   unfold Oper.wp at h1 ⊢
   generalize (execOp a.eval o).run P w = res at h1 ⊢
   cases res with
   | ok n w' =>
    cases n <;> simp only [Oper.upon] at h1 ⊢
    . exact hnext _ _ (hsize _) h1
    . exact hnext _ _ (hsize _) h1
    .
     exact h1.mono fun e w'' he => by
      cases e <;> first | exact hnext _ _ (hsize _) he | exact he
    .
     refine hnext _ _ ?_ h1
     cases hdd : o.dst <;> simp [Act.put]
    . exact h1.mono fun _ _ he => hnext _ _ (hsize _) he
   | halt x w' => cases x <;> simp only [Oper.upon] at h1 ⊢ <;> exact h1
  .
   rename_i hw
   rw [if_neg hw] at h1; exact hnext _ _ (hsize _) h1
end
end
section
open Go Go.RowKit
def z2l (ops : Array Oper) : Bool :=
 Region.noSelect ops && (Ze ops.size).all fun j => match ops[j]? with
  | some oj => oj.after.all (fun e => !Region.binds .any e || decide (e.on < j)) && (Ze j).all fun i => match ops[i]? with
   | some oi => oj.after.any (fun e => Region.binds .any e && e.on == i) || oi.apart ops oj
   | none => true
  | none => true
def okB (n : Nat) : Code -> Bool
 | .region _ ops draw => qu9 n ops.toList && (!draw || z2l ops)
 | .seq a b => okB n a && okB n b
 | .cond _ a b => okB n a && okB n b
 | .block _ c => okB n c
 | .loop c => okB n c
 | .scope c => okB n c
 | _ => true
def wpV (P : Program) (c : Code) (Q : Exit -> St -> Prop) (s : St) : Prop :=
 okB s.nt c = true -> ∀ (C : Ctx P) (a : Act) (w : World) (β : Ghost), Rel C s a w β -> ∀ Q' : Exit -> Act -> World -> Prop,
  (∀ e s' a' w' β', Rel C s' a' w' β' -> Q e s' -> Q' e a' w') -> c.wp P Q' a w
def qv2 (P : Program) (ops : Array Oper) (s : St) (K : St -> Prop) : Prop :=
 ∀ id, wpV P (.region id ops true) (fun e s' => e = .normal /\ K s') s
def q5l (N : St -> Prop) (Q : Exit -> St -> Prop) : Exit -> St -> Prop
 | .normal, s => N s
 | .exit i, s => Q (.exit i) s
 | .ret, s => Q .ret s
 | _, _ => False
def q8h (id : Nat) (Q : Exit -> St -> Prop) : Exit -> St -> Prop
 | .exit j, s => if j = id then Q .normal s else Q (.exit j) s
 | .normal, s => Q .normal s
 | .ret, s => Q .ret s
 | _, _ => False
def falls : Code -> Bool
 | .ret | .exit _ | .goto _ | .loop _ => false
 | .seq a b => falls a && falls b
 | .cond _ a b => falls a || falls b
 | _ => true
def joins : Code -> Bool
 | .seq a b => joins a || joins b
 | .cond _ a b => falls a && falls b || joins a || joins b
 | .block _ c => joins c
 | .loop _ => true
 | .scope c => joins c
 | _ => false
def vc (P : Program) : Code -> (Exit -> St -> Prop) -> St -> Prop
 | .skip, Q, s => Q .normal s
 | .label _, Q, s => Q .normal s
 | .ret, Q, s => Q .ret s
 | .exit i, Q, s => Q (.exit i) s
 | .region _ ops draw, Q, s => if draw = true then qv2 P ops s (Q .normal) else q9n P ops ops.toList s (Q .normal)
 | .seq a b, Q, s => if joins a = true then wpV P (.seq a b) Q s else vc P a (q5l (vc P b Q) Q) s
 | .cond c x y, Q, s => match u6 s.env c with
  | .v (.bool b) => (b = true -> vc P x Q s) /\ (b = false -> vc P y Q s)
  | _ => False
 | .block i c, Q, s => vc P c (q8h i Q) s
 | .loop c, Q, s => wpV P (.loop c) Q s
 | _, _, _ => False
section
variable {P : Program} {C : Ctx P} {s : St} {a : Act} {w : World} {β : Ghost}
theorem q6p : ∀ (c : Code) (Q : Exit -> St -> Prop) (s : St), vc P c Q s -> wpV P c Q s
 | .skip, Q, s, h => fun _ C a w β hR Q' hQ => wp_skip (hQ _ _ _ _ _ hR h)
 | .label _, Q, s, h => fun _ C a w β hR Q' hQ => wp_label (hQ _ _ _ _ _ hR h)
 | .ret, Q, s, h => fun _ C a w β hR Q' hQ => wp_ret (hQ _ _ _ _ _ hR h)
 | .exit i, Q, s, h => fun _ C a w β hR Q' hQ => wp_exit (hQ _ _ _ _ _ hR h)
 | .region id ops draw, Q, s, h => fun hok C a w β hR Q' hQ => by
  unfold vc at h; simp only [okB, Xd] at hok
  cases draw with
  | true =>
   rw [if_pos rfl] at h; exact h id (by simp only [okB, Xd]; exact hok) C a w β hR Q' (fun e s' a' w' β' hR' hK => by
    obtain ⟨rfl, hK⟩ := hK; exact hQ _ _ _ _ _ hR' hK)
  | false =>
   rw [if_neg (by simp)] at h; exact wp_region_list (z5y (K := Q .normal) (fun a' w' ⟨s', β', hR', hk⟩ => hQ _ _ _ _ _ hR' hk) ops.toList s a w β hR hok.1 h)
 | .seq x y, Q, s, h => fun hok C a w β hR Q' hQ => by
  unfold vc at h
  split at h
  . exact h hok C a w β hR Q' hQ
  .
   simp only [okB, Xd] at hok; refine wp_seq (q6p x _ s h hok.1 C a w β hR _ ?_); intro e s' a' w' β' hR' hq; have hnt : s'.nt = s.nt := hR'.ntc.trans hR.ntc.symm
   cases e <;> simp only [q5l] at hq <;> simp only [Exit.then]
   . exact q6p y Q s' hq (by rw [hnt]; exact hok.2) C a' w' β' hR' Q' hQ
   . exact hQ _ _ _ _ _ hR' hq
   . exact hQ _ _ _ _ _ hR' hq
 | .cond c x y, Q, s, h => fun hok C a w β hR Q' hQ => by
  unfold vc at h; simp only [okB, Xd] at hok
  split at h
  .
   rename_i b hb
   have := hR.ev c; rw [hb] at this; simp only [rep] at this; exact wp_cond_split this (fun hb' => q6p x Q s (h.1 hb') hok.1 C a w β hR Q' hQ) (fun hb' => q6p y Q s (h.2 hb') hok.2 C a w β hR Q' hQ)
  . exact h.elim
 | .block i c, Q, s, h => fun hok C a w β hR Q' hQ => by
  unfold vc at h; refine wp_block (q6p c _ s h hok C a w β hR _ ?_); intro e s' a' w' β' hR' hq
  cases e <;> simp only [q8h] at hq <;> simp only [Exit.inBlock]
  . exact hQ _ _ _ _ _ hR' hq
  .
   split at hq
   . rename_i hj; rw [if_pos hj]; exact hQ _ _ _ _ _ hR' hq
   . rename_i hj; rw [if_neg hj]; exact hQ _ _ _ _ _ hR' hq
  . exact hQ _ _ _ _ _ hR' hq
 | .loop c, Q, s, h => h
 | .rangeFunc .., _, _, h => by unfold vc at h; exact h.elim
 | .scope _, _, _, h => by unfold vc at h; exact h.elim
 | .goto _, _, _, h => by unfold vc at h; exact h.elim
 | .refuse _, _, _, h => by unfold vc at h; exact h.elim
end
end
section
open Go Go.RowKit
section
variable {P : Program} {C : Ctx P} {s : St} {a : Act} {w : World} {β : Ghost}
theorem j38 {c : Code} {Q : Exit -> St -> Prop} {s' : St} {l : List (Option Nat)} (hl : Le s s' l) (h : wpV P c Q s') : wpV P c Q s :=
 fun hok C a w β hR Q' hQ => by
  obtain ⟨β', hR', _⟩ := qj4 hR hl; exact h (by rw [hl.1]; exact hok) C a w β' hR' Q' hQ
theorem zh7 {c : Code} {Q Q1 : Exit -> St -> Prop} (h : wpV P c Q s) (hq : ∀ e s, Q e s -> Q1 e s) : wpV P c Q1 s :=
 fun hok C a w β hR Q' hQ => h hok C a w β hR Q' fun e s' a' w' β' hR' hk => hQ e s' a' w' β' hR' (hq _ _ hk)
def kont (P : Program) (y : Code) (Q : Exit -> St -> Prop) (s : St) : Prop := vc P y Q s
theorem j8d {x y : Code} {Q : Exit -> St -> Prop} (h : vc P x (q5l (kont P y Q) Q) s) : wpV P (.seq x y) Q s := fun hok C a w β hR Q' hQ => by
 simp only [okB, Xd] at hok; refine wp_seq (q6p x _ s h hok.1 C a w β hR _ ?_); intro e s' a' w' β' hR' hq; have hnt : s'.nt = s.nt := hR'.ntc.trans hR.ntc.symm
 cases e <;> simp only [q5l] at hq <;> simp only [Exit.then]
 . exact q6p y Q s' hq (by rw [hnt]; exact hok.2) C a' w' β' hR' Q' hQ
 . exact hQ _ _ _ _ _ hR' hq
 . exact hQ _ _ _ _ _ hR' hq
theorem j6t {ι : Type} {x y : Code} {Q : Exit -> St -> Prop} (S : ι -> St) (I : ι -> Prop) (h : vc P x (q5l (fun s' => ∃ i l, Le s' (S i) l /\ I i) Q) s) (hk : ∀ i, I i -> vc P y Q (S i)) : wpV P (.seq x y) Q s := fun hok C a w β hR Q' hQ => by
 simp only [okB, Xd] at hok; refine wp_seq (q6p x _ s h hok.1 C a w β hR _ ?_); intro e s' a' w' β' hR' hq; have hnt : s'.nt = s.nt := hR'.ntc.trans hR.ntc.symm
 cases e <;> simp only [q5l] at hq <;> simp only [Exit.then]
 . obtain ⟨i, l, hl, hI⟩ := hq; obtain ⟨β2, hR2, _⟩ := qj4 hR' hl; exact q6p y Q (S i) (hk i hI) (by rw [hl.1, hnt]; exact hok.2) C a' w' β2 hR2 Q' hQ
 . exact hQ _ _ _ _ _ hR' hq
 . exact hQ _ _ _ _ _ hR' hq
theorem z3k {p : Nat -> Prop} (h : ∃ n, p n) : ∃ n, p n /\ ∀ k, p k -> n <= k := by
 obtain ⟨n, hn⟩ := h
 induction n using Nat.strongRecOn with
 | _ n ih =>
  by_cases hx : ∃ k, k < n /\ p k
  . obtain ⟨k, hk, hp⟩ := hx; exact ih k hk hp
  .
   refine ⟨n, hn, fun k hk => ?_⟩; rcases Yo k n with hlt | hge
   . exact absurd ⟨k, hlt, hk⟩ hx
   . exact hge
theorem z1s {ι : Type} {c : Code} {Q : Exit -> St -> Prop} (S : ι -> St) (I : ι -> Prop) (μ : ι -> Nat) (i0 : ι) (l0 : List (Option Nat)) (h0 : Le s (S i0) l0) (hI : I i0)
  (hr : ∀ i, I i -> wpV P c (q5l (fun s' => ∃ i' l', Le s' (S i') l' /\ I i' /\ μ i' < μ i) Q) (S i)) : wpV P (.loop c) Q s := by
 intro hok C a w β hR Q' hQ; simp only [okB] at hok
 let Inv : Act -> World -> Prop := fun a w => ∃ i β, Rel C (S i) a w β /\ I i
 let has : Act -> World -> Nat -> Prop := fun a w n => ∃ i β, Rel C (S i) a w β /\ I i /\ μ i = n
 classical
 let m : Act -> World -> Nat := fun a w => if h : ∃ n, has a w n then Classical.choose (z3k h) else 0
 obtain ⟨β0, hR0, _⟩ := qj4 hR h0; refine wp_loop Inv m ⟨i0, β0, hR0, hI⟩ ?_; rintro a1 w1 ⟨i, β1, hR1, hI1⟩; have hex : ∃ n, has a1 w1 n := ⟨μ i, i, β1, hR1, hI1, rfl⟩; obtain ⟨j, βj, hRj, hIj, hμ⟩ := (Yw (z3k hex)).1; have hm : m a1 w1 = μ j := by simp only [m, dif_pos hex]; exact hμ.symm
 have hnt : (S j).nt = s.nt := hRj.ntc.trans hR.ntc.symm; refine hr j hIj (by rw [hnt]; exact hok) C a1 w1 βj hRj _ ?_; intro e s' a' w' β' hR' hq
 cases e <;> simp only [q5l] at hq <;> simp only [Exit.then]
 .
  obtain ⟨i', l', hl, hI', hlt⟩ := hq; obtain ⟨β2, hR2, _⟩ := qj4 hR' hl; refine ⟨⟨i', β2, hR2, hI'⟩, ?_⟩; have hex' : ∃ n, has a' w' n := ⟨μ i', i', β2, hR2, hI', rfl⟩; have : m a' w' <= μ i' := by
   simp only [m, dif_pos hex']; exact (Yw (z3k hex')).2 _ ⟨i', β2, hR2, hI', rfl⟩
  omega
 . exact hQ _ _ _ _ _ hR' hq
 . exact hQ _ _ _ _ _ hR' hq
theorem zz5 {ι : Type} {c : Code} {Q : Exit -> St -> Prop} (S : ι -> St) (I : ι -> Prop) (μ : ι -> Nat) (i0 : ι) (l0 : List (Option Nat)) (h0 : Le s (S i0) l0) (hI : I i0)
  (hr : ∀ i, I i -> vc P c (q5l (fun s' => ∃ i' l', Le s' (S i') l' /\ I i' /\ μ i' < μ i) Q) (S i)) : wpV P (.loop c) Q s := z1s S I μ i0 l0 h0 hI fun i hi => q6p c _ _ (hr i hi)
def ql2 : List AV -> Nat -> List (Nat × AV)
 | [], _ => []
 | a :: r, k => (k, a) :: ql2 r (k + 1)
theorem ze2 : ∀ (as : List AV) (k t : Nat), q0u (ql2 as k) t = if t < k then .junk else as.getD (t - k) .junk
 | [], k, t => by simp [ql2, q0u]
 | a :: as, k, t => by
  simp only [ql2, q0u]
  split
  . rename_i h; subst h; simp
  .
   rename_i h
   rw [ze2 as (k + 1) t]
   by_cases h1 : t < k
   . rw [if_pos (by omega), if_pos h1]
   . rw [if_neg (by omega), if_neg h1, show t - k = (t - (k + 1)) + 1 by omega, List.getD_cons_succ]
def qt4 (P : Program) (hp : Hp) (env : List (Nat × AV)) : List ResultVar -> Option (Prop × List AV)
 | [] => some (True, [])
 | .tmp t :: r => (qt4 P hp env r).map fun p => ((q0u env t).need /\ p.1, (q0u env t).st :: p.2)
 | .cell t ty :: r => match z5l P hp ty (q0u env t).st, qt4 P hp env r with
  | some (c, x), some (c', xs) => some ((q0u env t).need /\ c /\ c', x :: xs)
  | _, _ => none
def oneOf : List AV -> AV
 | [x] => x
 | xs => .tup xs
def z0b (s : St) (r : AV) (Q : AV -> Hp -> Nat -> Prop) : Prop :=
 ∃ (l : List (Option Nat)) (hp' : Hp) (nx' : Nat) (r' : AV), Le s ⟨s.nb, [], hp', nx', s.nt⟩ l /\ AvLe (q6a s.nb l) s.hp (fun j => q90 (q6a s.nb l) j hp') nx' r r' /\ Q r' hp' nx'
def z1m (P : Program) (res : List ResultVar) (Q : AV -> Hp -> Nat -> Prop) : Exit -> St -> Prop
 | .normal, s => match qt4 P s.hp s.env res with
  | some (c, rs) => c /\ z0b s (oneOf rs) Q
  | none => False
 | .ret, s => match qt4 P s.hp s.env res with
  | some (c, rs) => c /\ z0b s (oneOf rs) Q
  | none => False
 | _, _ => False
theorem z2t (h : Rel C s a w β) : ∀ {res : List ResultVar} {c : Prop} {rs : List AV}, qt4 P s.hp s.env res = some (c, rs) -> c ->
  ∃ vs, (res.mapM (fun r => match r with | .tmp t => pure (a.tmps.getD t undef) | .cell b t => do loadVar t (<- asAddr (a.tmps.getD b undef)) : ResultVar -> Sem Value)).run P w = .ok vs w /\ x9 w β s.nx (own β s.hp C.A) rs vs
 | [], c, rs, hr, _ => by
  simp only [qt4, Xa, Xf] at hr; obtain ⟨_, rfl⟩ := hr; exact ⟨[], rfl, by simp [x9]⟩
 | .tmp t :: r, c, rs, hr, hc => by
  simp only [qt4, Xg, Xf] at hr; obtain ⟨⟨c', rs'⟩, h1, rfl, rfl⟩ := hr; obtain ⟨vs, h2, h3⟩ := z2t h h1 hc.2; refine ⟨a.tmps.getD t undef :: vs, ?_, by simp only [x9]; exact ⟨q1b (h.env t) hc.1, h3⟩⟩; simp only [List.mapM_cons, Sem.run_bind, Sem.run_pure, Result.andThen_ok, h2]
 | .cell t ty :: r, c, rs, hr, hc => by
  unfold qt4 at hr
  split at hr
  .
   rename_i c1 x c2 xs h1 h2
   simp only [Xa, Xf] at hr; obtain ⟨rfl, rfl⟩ := hr; obtain ⟨vs, h3, h4⟩ := z2t h h2 hc.2.2; obtain ⟨z, h5, h6⟩ := z6c h.hp h1 hc.2.1 (q1b (h.env t) hc.1); refine ⟨z :: vs, ?_, by simp only [x9]; exact ⟨h6, h4⟩⟩; have h7 : (do loadVar ty (<- asAddr (a.tmps.getD t undef)) : Sem Value).run P w = .ok z w := by
    cases hv : a.tmps.getD t undef with
    | pointer p =>
     cases p with
     | none => rw [hv] at h5; simp [Instr.loadAt, Instr.sureAddr] at h5
     | some ad => rw [hv] at h5; simpa [Instr.loadAt, Instr.sureAddr, asAddr] using h5
    | _ => rw [hv] at h5; simp [Instr.loadAt, Instr.sureAddr] at h5
   simp only [List.mapM_cons, Sem.run_bind] at h7 ⊢; rw [h7]; simp only [Result.andThen_ok, h3, Sem.run_pure]
  . cases hr
theorem zf6 (h : Rel C s a w β) {fn : Func} {c : Prop} {rs : List AV} (hr : qt4 P s.hp s.env fn.results.toList = some (c, rs)) (hc : c) :
  ∃ v, (results fn a.tmps).run P w = .ok v w /\ rep w β s.nx (own β s.hp C.A) (oneOf rs) v := by
 obtain ⟨vs, h1, h2⟩ := z2t h hr hc; have h3 : (results fn a.tmps).run P w = .ok (if h : vs.length = 1 then vs[0] else .tuple ⟨vs⟩) w := by
  unfold results; rw [Array.mapM_eq_mapM_toList]; simp only [Sem.run_bind, Sem.run_map]
  erw [h1]
  simp only [Result.andThen_ok, Sem.run_pure, X1]; rfl
 refine ⟨_, h3, ?_⟩; have hl := q1f h2
 match rs, vs, hl, h2 with
 | [x], [v], _, h2 => simp only [x9] at h2; simpa [oneOf] using h2.1
 | [], [], _, h2 => simp [oneOf, rep]; exact h2
 | x :: y :: r, u :: v :: q, _, h2 => simp only [oneOf, rep]; exact ⟨u :: v :: q, by simp, h2⟩
theorem Spec.of_wp {f : FuncId} {fn : Func} {c : Code} {args : List AV} {hp : Hp} {nx : Nat} {Q : AV -> Hp -> Nat -> Prop} (hf : P.funcs[f]? = some fn) (hb : fn.body = some c) (hok : okB fn.ntmps c = true) (hlen : (decide (args.length <= fn.ntmps) && !(fn.name == "runtime.NumGoroutine")) = true)
  (hv : wpV P c (z1m P fn.results.toList Q) ⟨nx, ql2 args 0, hp, nx, fn.ntmps⟩) : Spec P f args hp nx Q := by
 intro w β A vs hA hargs hhp hgs; rw [Xd, decide_eq_true_eq] at hlen; have hlen' : args.length <= fn.ntmps := hlen.1; have hvl := q1f hargs
 let C : Ctx P := ⟨w, β, nx, hp, A, fn.ntmps⟩
 have hR : Rel C ⟨nx, ql2 args 0, hp, nx, fn.ntmps⟩ { tmps := (⟨vs⟩ : Array Value) ++ Array.replicate (fn.ntmps - (⟨vs⟩ : Array Value).size) undef, defers := [] } w β := by
  refine { df := rfl, nt := ?_, ntc := rfl, nb := rfl, alt := hA, gs := hgs, hp := hhp, env := ?_, ext := ?_ }
  . simp only [Array.size_append, X1, Array.size_replicate]; omega
  .
   intro t; simp only [ze2, Xz, if_false, Nat.sub_zero]; rcases Yo t args.length with hlt | hge
   .
    have := qn8 hargs t hlt; rw [X3, Array.getElem?_append_left (by simp; omega)]
    simpa [Yk] using this
   . rw [Yk, List.getElem?_eq_none hge]; simp only [Option.getD_none, rep]
  . exact { nx := Xc _, gh := fun _ _ => rfl, gi := fun _ _ _ => rfl, ids := fun p hp' => .inl (Xj hp'), blk := fun p hp' b hbc => .inl ⟨p, hp', hbc⟩, os := rfl, tape := rfl, output := ⟨rfl, fun _ => Xc _⟩, size := Xc _, keep := fun _ _ _ => rfl }
 refine CallsE.of (by unfold q00; rw [hf]; simp only [hb, hlen.2, Option.isSome_some, Bool.and_self]) ?_; refine calls_of_wp hf hb (hv hok C _ w β hR _ ?_); have key : ∀ (s' : St) (a' : Act) (w' : World) (β' : Ghost), Rel C s' a' w' β' -> (match qt4 P s'.hp s'.env fn.results.toList with
   | some (c, rs) => c /\ z0b s' (oneOf rs) Q
   | none => False) -> a'.defers = [] /\ ∃ v, (results fn a'.tmps).run P w' = .ok v w' /\ ∃ v' r hp' nx' β', Ending.returned v = .returned v' /\ Q r hp' nx' /\ rep w' β' nx' (own β' hp' A) r v' /\ HpRel w' β' nx' A hp' /\ Ext w β nx hp w' β' nx' hp' := by
  intro s' a' w' β' hR' hq
  split at hq
  .
   rename_i c' rs hrs
   obtain ⟨hc, l, hp', nx', r', hl, ha, hQ⟩ := hq; obtain ⟨v, h1, h2⟩ := zf6 hR' hrs hc; obtain ⟨β2, hR2, h3⟩ := qj4 hR' hl; exact ⟨hR'.df, v, h1, v, r', hp', nx', β2, rfl, hQ, h3 _ r' v ha h2, hR2.hp, hR2.ext⟩
  . exact hq.elim
 intro e s' a' w' β' hR' hq
 cases e <;> simp only [z1m] at hq <;> simp only [bodyPost]
 . exact key s' a' w' β' hR' hq
 . exact key s' a' w' β' hR' hq
theorem Spec.of_vc {f : FuncId} {fn : Func} {c : Code} {args : List AV} {hp : Hp} {nx : Nat} {Q : AV -> Hp -> Nat -> Prop} (hf : P.funcs[f]? = some fn) (hb : fn.body = some c) (hok : okB fn.ntmps c = true) (hlen : (decide (args.length <= fn.ntmps) && !(fn.name == "runtime.NumGoroutine")) = true)
  (hv : vc P c (z1m P fn.results.toList Q) ⟨nx, ql2 args 0, hp, nx, fn.ntmps⟩) : Spec P f args hp nx Q := Spec.of_wp hf hb hok hlen (q6p c _ _ hv)
theorem z3o {f : FuncId} {args : List AV} {K : St -> AV -> Prop} {hp1 hp2 : Hp} {Q : AV -> Hp -> Nat -> Prop} (hperm : s.hp.Perm (hp1 ++ hp2)) (h : Spec P f args hp1 s.nx Q)
  (hk : ∀ r hp' nx', Q r hp' nx' -> K { s with hp := hp' ++ hp2, nx := nx' } r) : q8l P s f args K := by
 intro C a w β vs hR hargs; have hmem : ∀ p, p ∈ s.hp ↔ p ∈ hp1 \/ p ∈ hp2 := fun p => by rw [hperm.mem_iff, Xe]
 have hnd : ((hp1 ++ hp2).map (·.1)).Nodup := (hperm.map _).nodup_iff.1 hR.hp.nd; rw [Yq, Y8] at hnd; obtain ⟨hnd1, hnd2, hdis⟩ := hnd
 let A' : Nat -> Prop := fun b => C.A b \/ blks β hp2 b
 have hbl : ∀ b, blks β s.hp b -> b < w.heap.size := fun b ⟨q, hq, hc⟩ => hR.hp.bofLt q hq b hc; have howe : own β hp1 A' = own β s.hp C.A := by
  funext b
  apply propext
  constructor
  .
   rintro ((h1 | ⟨q, hq, hc⟩) | ⟨q, hq, hc⟩)
   . exact .inl h1
   . exact .inr ⟨q, (hmem q).2 (.inr hq), hc⟩
   . exact .inr ⟨q, (hmem q).2 (.inl hq), hc⟩
  .
   rintro (h1 | ⟨q, hq, hc⟩)
   . exact .inl (.inl h1)
   .
    rcases (hmem q).1 hq with hq | hq
    . exact .inr ⟨q, hq, hc⟩
    . exact .inl (.inr ⟨q, hq, hc⟩)
 have hdisj : ∀ p ∈ hp1, ∀ q ∈ hp2, ∀ b, bof β p.1 b -> bof β q.1 b -> False := fun p hp q hq b h1 h2 => by
  have := hR.hp.bofInj p ((hmem p).2 (.inl hp)) q ((hmem q).2 (.inr hq)) b h1 h2; exact hdis p.1 (Xj hp) q.1 (Xj hq) this
 have hhp1 : HpRel w β s.nx A' hp1 := by
  refine ⟨fun p hp => ?_, fun p hp => hR.hp.lt p ((hmem p).2 (.inl hp)), hnd1, fun p hp q hq => hR.hp.inj p ((hmem p).2 (.inl hp)) q ((hmem q).2 (.inl hq)), fun p hp b c hbc => ?_, fun p hp => hR.hp.i0 p ((hmem p).2 (.inl hp)), fun p hp b hb => ?_⟩
  . rw [howe]; exact hR.hp.obj p ((hmem p).2 (.inl hp))
  .
   rintro (hx | ⟨q, hq, hc'⟩)
   . exact hR.hp.av p ((hmem p).2 (.inl hp)) b c hbc hx
   . exact hdisj p hp q hq b (.inl ⟨c, hbc⟩) hc'
  .
   obtain ⟨i1, i2, i3, i4⟩ := hR.hp.ib p ((hmem p).2 (.inl hp)) b hb; refine ⟨i1, ?_, fun q hq => i3 q ((hmem q).2 (.inl hq)), fun q hq => i4 q ((hmem q).2 (.inl hq))⟩; rintro (hx | ⟨q, hq, hc'⟩)
   . exact i2 hx
   . exact hdisj p hp q hq b (.inr hb) hc'
 have hA' : ∀ b, A' b -> b < w.heap.size := by
  rintro b (hx | ⟨q, hq, hc⟩)
  . exact hR.alt b hx
  . exact hbl b ⟨q, (hmem q).2 (.inr hq), hc⟩
 refine (h w β A' vs hA' (by rw [howe]; exact hargs) hhp1 ((hR.gs.ext hR.ext).sub fun b ⟨q, hq, hb⟩ => ⟨q, (hmem q).2 (.inl hq), hb⟩)).mono ?_; rintro e w' ⟨v, r, hp', nx', β', rfl, hq, hr, hhp', hext⟩; have hgh : ∀ q ∈ hp2, β' q.1 = β q.1 := fun q hq => hext.gh q.1 (hR.hp.lt q ((hmem q).2 (.inr hq))); have hgi : ∀ q ∈ hp2, β'.inn q.1 = β.inn q.1 := fun q hq => hext.gi q.1 (hR.hp.lt q ((hmem q).2 (.inr hq))) fun hm => by
  obtain ⟨p, hp, he⟩ := Xs.1 hm; exact hdis p.1 (Xj hp) q.1 (Xj hq) he
 have hgb : ∀ q ∈ hp2, ∀ b, bof β' q.1 b ↔ bof β q.1 b := fun q hq b => by unfold bof; rw [hgh q hq, hgi q hq]
 have hown' : own β' hp' A' = own β' (hp' ++ hp2) C.A := by
  funext b
  apply propext
  constructor
  .
   rintro ((h1 | ⟨q, hq, hc⟩) | ⟨q, hq, hc⟩)
   . exact .inl h1
   . exact .inr ⟨q, Yx _ hq, (hgb q hq b).2 hc⟩
   . exact .inr ⟨q, Y0 _ hq, hc⟩
  .
   rintro (h1 | ⟨q, hq, hc⟩)
   . exact .inl (.inl h1)
   .
    rcases Xe.1 hq with hq | hq
    . exact .inr ⟨q, hq, hc⟩
    . exact .inl (.inr ⟨q, hq, (hgb q hq b).1 hc⟩)
 have hK : ∀ b, b < w.heap.size -> ¬ blks β s.hp b -> w'.heap[b]? = w.heap[b]? := fun b hb hnb => hext.keep b hb fun ⟨q, hq, hc⟩ => hnb ⟨q, (hmem q).2 (.inl hq), hc⟩; have hO : ∀ b, b < w.heap.size -> blks β' (hp' ++ hp2) b -> blks β s.hp b := by
  rintro b hb ⟨q, hq, hc⟩; rcases Xe.1 hq with hq | hq
  .
   rcases hext.blk q hq b hc with ⟨q', hq', hc'⟩ | hge
   . exact ⟨q', (hmem q').2 (.inl hq'), hc'⟩
   . omega
  . exact ⟨q, (hmem q).2 (.inr hq), (hgb q hq b).1 hc⟩
 have hA : Agree w w' (own β s.hp C.A) (own β' (hp' ++ hp2) C.A) := ⟨hext.size, fun b hnb hb => ⟨hK b hb (fun hx => hnb (.inr hx)), fun ho' => by
  rcases ho' with hh | hh
  . exact hnb (.inl hh)
  . exact hnb (.inr (hO b hb hh))⟩⟩
 have hR' := hR.step (w' := w') (β' := β') (hp' := hp' ++ hp2) (nx' := nx') hext.nx (fun id hid => hext.gh id hid) hext.size hK hO (by
  refine ⟨?_, ?_, ?_, ?_, ?_, ?_, ?_⟩
  .
   intro p hp; rcases Xe.1 hp with hp | hp
   . rw [<- hown']; exact hhp'.obj p hp
   . have hps := (hmem p).2 (.inr hp); exact q3m hA hext.nx (fun id hid => hext.gh id hid) (hR.hp.lt p hps) (fun b hbc => hext.keep b (hbl b ⟨p, hps, hbc⟩) (fun ⟨q, hq, hc'⟩ => hdisj q hq p hp b hc' hbc)) (fun _ => hgi p hp) (hR.hp.obj p hps)
  .
   intro p hp; rcases Xe.1 hp with hp | hp
   . exact hhp'.lt p hp
   . exact Yi (hR.hp.lt p ((hmem p).2 (.inr hp))) hext.nx
  .
   rw [Yq, Y8]; refine ⟨hhp'.nd, hnd2, ?_⟩; intro x hx y hy hxy; obtain ⟨p, hp, rfl⟩ := Xs.1 hx; obtain ⟨q, hq, rfl⟩ := Xs.1 hy; rcases hext.ids p hp with h1 | h1
   . exact hdis p.1 h1 q.1 (Xj hq) hxy
   . have := hR.hp.lt q ((hmem q).2 (.inr hq)); omega
  .
   intro p hp q hq b c c' h1 h2; rcases Xe.1 hp with hp | hp <;> rcases Xe.1 hq with hq | hq
   . exact hhp'.inj p hp q hq b c c' h1 h2
   . exact absurd (.inr ⟨q, hq, (hgb q hq b).1 (.inl ⟨c', h2⟩)⟩) (hhp'.av p hp b c h1)
   . exact absurd (.inr ⟨p, hp, (hgb p hp b).1 (.inl ⟨c, h1⟩)⟩) (hhp'.av q hq b c' h2)
   . rw [hgh p hp] at h1; rw [hgh q hq] at h2; exact hR.hp.inj p ((hmem p).2 (.inr hp)) q ((hmem q).2 (.inr hq)) b c c' h1 h2
  .
   intro p hp b c h1; rcases Xe.1 hp with hp | hp
   . exact fun hx => hhp'.av p hp b c h1 (.inl hx)
   . rw [hgh p hp] at h1; exact hR.hp.av p ((hmem p).2 (.inr hp)) b c h1
  .
   intro p hp hc; rcases Xe.1 hp with hp | hp
   . exact hhp'.i0 p hp hc
   . rw [hgi p hp]; exact hR.hp.i0 p ((hmem p).2 (.inr hp)) hc
  .
   intro p hp b hb; rcases Xe.1 hp with hp | hp
   .
    obtain ⟨i1, i2, i3, i4⟩ := hhp'.ib p hp b hb; refine ⟨i1, fun hx => i2 (.inl hx), fun q hq c hc => ?_, fun q hq hc => ?_⟩
    .
     rcases Xe.1 hq with hq | hq
     . exact i3 q hq c hc
     . exact i2 (.inr ⟨q, hq, (hgb q hq b).1 (.inl ⟨c, hc⟩)⟩)
    .
     rcases Xe.1 hq with hq | hq
     . exact i4 q hq hc
     . exact absurd (.inr ⟨q, hq, (hgb q hq b).1 (.inr hc)⟩) i2
   .
    have hps := (hmem p).2 (.inr hp); have hb' := hb; rw [hgi p hp] at hb'; obtain ⟨i1, i2, i3, i4⟩ := hR.hp.ib p hps b hb'; refine ⟨Yi i1 hext.size, i2, fun q hq c hc => ?_, fun q hq hc => ?_⟩
    .
     rcases Xe.1 hq with hq | hq
     . exact hhp'.bofAv q hq b (.inl ⟨c, hc⟩) (.inr ⟨p, hp, .inr hb'⟩)
     . rw [hgh q hq] at hc; exact i3 q ((hmem q).2 (.inr hq)) c hc
    .
     rcases Xe.1 hq with hq | hq
     . exact absurd (.inr ⟨p, hp, .inr hb'⟩) (hhp'.bofAv q hq b (.inr hc))
     . rw [hgi q hq] at hc; exact i4 q ((hmem q).2 (.inr hq)) hc) (fun p hp => by
  rcases Xe.1 hp with hp | hp
  .
   rcases hext.ids p hp with h1 | h1
   . obtain ⟨q, hq, he⟩ := Xs.1 h1; exact .inl (by rw [<- he]; exact Xj ((hmem q).2 (.inl hq)))
   . exact .inr h1
  .
   exact .inl (Xj ((hmem p).2 (.inr hp)))) hext.os hext.tape hext.output (fun id hid hni => hext.gi id hid fun hm => hni (by
   obtain ⟨p, hp, he⟩ := Xs.1 hm; exact Xs.2 ⟨p, (hmem p).2 (.inl hp), he⟩))
 exact ⟨v, r, _, β', rfl, hR', by rw [<- hown']; exact hr, hk r hp' nx' hq⟩
theorem q7v {f : FuncId} {args args' : List AV} {K : St -> AV -> Prop} {s' : St} {l : List (Option Nat)} (hl : Le s s' l) (ha : AvLe.AvLeL (q6a s.nb l) s.hp (fun j => q90 (q6a s.nb l) j s'.hp) s'.nx args args')
  (h : q8l P s' f args' K) : q8l P s f args K := by
 intro C a w β vs hR hargs; obtain ⟨β', hR', h3⟩ := qj4 hR hl; refine h C a w β' vs hR' ?_; clear h
 induction args generalizing args' vs with
 | nil => cases args' <;> cases vs <;> simp only [AvLe.AvLeL, x9] at ha hargs ⊢
 | cons x xs ih =>
  cases args' with
  | nil => simp only [AvLe.AvLeL] at ha
  | cons y ys =>
   cases vs with
   | nil => simp only [x9] at hargs
   | cons v vs =>
    simp only [AvLe.AvLeL] at ha; simp only [x9] at hargs ⊢; exact ⟨h3 _ _ _ ha.1 hargs.1, ih ha.2 vs hargs.2⟩
end
end
section
open Go Go.RowKit
def z9e (r : AV) (nx : Nat) (r' : AV) (hp' : Hp) (nx' : Nat) : Prop := r' = r /\ hp' = [] /\ nx' = nx
def PureS (P : Program) (f : FuncId) (args : List AV) (nx : Nat) (r : AV) : Prop := Spec P f args [] nx (z9e r nx)
mutual
def q0k : AV -> Bool
 | .ptr .. | .apt .. | .osl .. | .bsl .. | .mp .. | .junk => false
 | .v _ | .sl .. | .el .. | .erb _ => true
 | .agg cs => q0f cs
 | .tup cs => q0f cs
 | .clo _ cs => q0f cs
 | .grd _ a => q0k a
def q0f : List AV -> Bool
 | [] => true
 | a :: r => q0k a && q0f r
end
section
variable {w : World} {β β' : Ghost} {nx nx' : Nat} {ow : Nat -> Prop}
mutual
theorem zj6 : ∀ (a : AV) (u : Value), q0k a = true -> rep w β nx ow a u -> rep w β' nx' ow a u
 | .v x, u, _, h => by simpa only [rep] using h
 | .ptr .., _, h, _ => by simp [q0k] at h
 | .apt .., _, h, _ => by simp [q0k] at h
 | .osl .., _, h, _ => by simp [q0k] at h
 | .bsl .., _, h, _ => by simp [q0k] at h
 | .mp .., _, h, _ => by simp [q0k] at h
 | .erb g, u, _, h => by simpa only [rep] using h
 | .junk, _, h, _ => by simp [q0k] at h
 | .sl sz xs, u, _, h => by
  simp only [rep] at h ⊢; rcases h with h | ⟨b, o, cap, h1, h2, h3, h4, h5⟩
  . exact .inl h
  . exact .inr ⟨b, o, cap, h1, h2, h3, h4, q1r (Agree.refl w ow) sz b (fun _ _ hu => hu) xs o h5⟩
 | .el sz xs i off, u, _, h => by
  simp only [rep] at h ⊢; obtain ⟨b, o, h1, h3, h4, h5⟩ := h; exact ⟨b, o, h1, h3, h4, q1r (Agree.refl w ow) sz b (fun _ _ hu => hu) xs o h5⟩
 | .agg cs, u, hf, h => by
  simp only [q0k] at hf; simp only [rep] at h ⊢; obtain ⟨l, h1, h2⟩ := h; exact ⟨l, h1, qw0 cs l hf h2⟩
 | .tup cs, u, hf, h => by
  simp only [q0k] at hf; simp only [rep] at h ⊢; obtain ⟨l, h1, h2⟩ := h; exact ⟨l, h1, qw0 cs l hf h2⟩
 | .clo f cs, u, hf, h => by
  simp only [q0k] at hf; simp only [rep] at h ⊢; obtain ⟨l, h1, h2⟩ := h; exact ⟨l, h1, qw0 cs l hf h2⟩
 | .grd g a, u, hf, h => by
  simp only [q0k] at hf; simp only [rep] at h ⊢; exact ⟨fun hg => zj6 a u hf (h.1 hg), h.2⟩
theorem qw0 : ∀ (as : List AV) (us : List Value), q0f as = true -> x9 w β nx ow as us -> x9 w β' nx' ow as us
 | [], [], _, h => by simp only [x9]
 | a :: as, u :: us, hf, h => by
  simp only [q0f, Xd] at hf; simp only [x9] at h ⊢; exact ⟨zj6 a u hf.1 h.1, qw0 as us hf.2 h.2⟩
 | [], u :: us, _, h => by simp only [x9] at h
 | a :: as, [], _, h => by simp only [x9] at h
end
end
mutual
theorem zf1 {rn : Nat -> Option Nat} {hp : Hp} {gone : Nat -> Prop} {nx : Nat} : ∀ (a : AV), q0k a = true -> AvLe rn hp gone nx a a
 | .v x, _ => by simp only [AvLe]
 | .ptr .., h => by simp [q0k] at h
 | .apt .., h => by simp [q0k] at h
 | .osl .., h => by simp [q0k] at h
 | .bsl .., h => by simp [q0k] at h
 | .mp .., h => by simp [q0k] at h
 | .erb g, _ => by simp only [AvLe]
 | .junk, _ => by simp only [AvLe]
 | .sl sz xs, _ => by simp only [AvLe]; exact ⟨trivial, .inl trivial⟩
 | .el sz xs i off, _ => by simp only [AvLe]; exact ⟨trivial, trivial, trivial, trivial⟩
 | .agg cs, h => by simp only [q0k] at h; simp only [AvLe]; exact ⟨trivial, qs1 cs h⟩
 | .tup cs, h => by simp only [q0k] at h; simp only [AvLe]; exact ⟨trivial, qs1 cs h⟩
 | .clo f cs, h => by simp only [q0k] at h; simp only [AvLe]; exact ⟨trivial, trivial, qs1 cs h⟩
 | .grd g a, h => by simp only [q0k] at h; simp only [AvLe]; exact ⟨trivial, zf1 a h⟩
theorem qs1 {rn : Nat -> Option Nat} {hp : Hp} {gone : Nat -> Prop} {nx : Nat} : ∀ (as : List AV), q0f as = true -> AvLe.AvLeL rn hp gone nx as as
 | [], _ => by simp only [AvLe.AvLeL]
 | a :: as, h => by
  simp only [q0f, Xd] at h; simp only [AvLe.AvLeL]; exact ⟨zf1 a h.1, qs1 as h.2⟩
end
theorem zr8 (x : List AV) (l : List (List AV)) : q30 (x :: l) 0 = x := rfl
theorem qt6 {β : Ghost} {A : Nat -> Prop} : own β [] A = A := by
 funext b
 apply propext
 constructor
 .
  rintro (h | ⟨q, hq, _⟩)
  . exact h
  . cases hq
 . exact fun h => .inl h
theorem HpRel.nil {w : World} {β : Ghost} {nx : Nat} {A : Nat -> Prop} : HpRel w β nx A [] :=
 ⟨(fun p hp => by cases hp), (fun p hp => by cases hp), by simp, (fun p hp => by cases hp), (fun p hp => by cases hp), (fun p hp => by cases hp), (fun p hp => by cases hp)⟩
theorem PureS.up {P : Program} {f : FuncId} {args : List AV} {r : AV} (h : PureS P f args 0 r) (ha : q0f args = true) (nx : Nat) : PureS P f args nx r := by
 intro w β A vs hA hargs hhp hgs; rw [qt6] at hargs; refine (h w β A vs hA (by rw [qt6]; exact qw0 _ _ ha hargs) HpRel.nil (hgs.sub fun _ ⟨_, h, _⟩ => by cases h)).mono ?_; rintro e w' ⟨v, r', hp', nx', β', rfl, ⟨rfl, rfl, rfl⟩, hr, _, hext⟩; rw [qt6] at hr; refine ⟨v, _, [], nx, β, rfl, ⟨rfl, rfl, rfl⟩, ?_, HpRel.nil, ⟨Xc _, fun _ _ => rfl, fun _ _ _ => rfl, (fun p hp => by cases hp), (fun p hp => by cases hp), hext.os, hext.tape, hext.output, hext.size, hext.keep⟩⟩; rw [qt6]; exact q4v (Agree.refl _ _) 0 nx (Nat.zero_le _) (fun _ hi => absurd hi (Xz _)) _ _ hr
end
section
open Go Go.RowKit
def QV (P : Program) (hp : Hp) (nx : Nat) (ev : Operand -> AV) (op : Op) (r : AV) : Prop :=
 match qh8 P hp ev op with
 | some (c, r') => c /\ r = r'
 | none => match op with
  | .call c => match c.callee, c.args.toList, c.argTypes.toList with
   | .value fo, args, _ => match (ev fo).st with
    | .clo f caps => (True /\ (ev fo).need /\ needs (args.map ev) /\ q0f ((args.map fun x => (ev x).st) ++ caps) = true) /\ PureS P f ((args.map fun x => (ev x).st) ++ caps) 0 r
    | _ => False
   | _, _, _ => False
  | .buildSlice t n parts => match sliceT P t, qq4 (parts.toList.map fun p => (ev p.2).st) with
   | some e, some rs => match q1i P e with
    | some zs => (q12 P e = true /\ zs.length = szT P e /\ 0 < szT P e /\ n * szT P e <= 16777216 /\ q8t parts.toList 0 = true /\ parts.toList.length = n /\ needs (parts.toList.map fun p => ev p.2) /\ qj8 (szT P e) rs = true /\
       rs.flatten.all q8n = true /\ rs.flatten.all q8j = true) /\ ∃ ns, r = .sl (szT P e) (rs.map (q1l ns))
    | none => False
   | _, _ => False
  | .makeSlice t l c => match (ev l).st, (ev c).st, sliceT P t with
   | .v (.int _ n), .v (.int _ m), some e => match q1i P e with
    | some zs => ((ev l).need /\ (ev c).need /\ m = n /\ q12 P e = true /\ zs.length = szT P e /\ 0 < szT P e /\ 0 < q1v P e /\ 0 <= n /\ n * q1v P e <= 140737488355328 /\ zs.all (·.oneCell') = true) /\
      ∃ ns, r = .sl (szT P e) (Xb n.toNat (q1l ns (zs.map AV.v)))
    | none => False
   | _, _, _ => False
  | _ => False
def evF (E : Nat -> AV) : Operand -> AV
 | .tmp t => E t
 | .const v => .v v
 | .global g => .v (.pointer (some ⟨g, 0, none⟩))
 | .func f => .clo f []
def QG (P : Program) (hp : Hp) (nx : Nat) (ops : Array Oper) (E : Nat -> AV) (o : Oper) (r : AV) : Prop :=
 match o.guard with
 | none => QV P hp nx (evF E) o.op r
 | some (j, want) => match q1n ops j with
  | some d => match qw1 (E d) want with
   | some g => ∃ r0, (g = true -> QV P hp nx (evF E) o.op r0) /\ r = mkG g r0
   | none => False
  | none => False
theorem ze4 {P : Program} {hp : Hp} {ev ev' : Operand -> AV} {op : Op} (h : ∀ x ∈ op.operands, ev x = ev' x) : fop P hp ev op = fop P hp ev' op := by
 cases op <;> (try simp only [fop]) <;> (try simp only [Op.operands] at h)
 case move x => simp [h x]
 case assign x => simp [h x]
 case pick c a b => rw [h c (by simp), h a (by simp), h b (by simp)]
 case load t x => rw [h x (by simp)]
 case lookup t m k c => cases c <;> simp only [h m (by simp), h k (by simp)]
 case nilCheck x => rw [h x (by simp)]
 case binOp op t x y ty => rw [h x (by simp), h y (by simp)]
 case unOp op t x => rw [h x (by simp)]
 case convert s d x => rw [h x (by simp)]
 case makeFunc f first caps =>
  have h0 : ∀ x ∈ caps.toList, ev x = ev' x := fun x hx => h x (by simp at hx ⊢; exact .inr hx); have e1 : caps.toList.map ev = caps.toList.map ev' := Xk h0; have e2 : (caps.toList.map fun x => (ev x).st) = caps.toList.map fun x => (ev' x).st := Xk fun x hx => by rw [h0 x hx]
  cases f <;> simp only [e1, e2]
 case slice t x lo hi mx =>
  cases mx <;> simp only
  have h1 : lo.map ev = lo.map ev' := by cases lo <;> simp; exact h _ (by simp)
  have h2 : hi.map ev = hi.map ev' := by cases hi <;> simp; exact h _ (by simp)
  have h3 : (lo.map fun x => (ev x).st) = lo.map fun x => (ev' x).st := by cases lo <;> simp; rw [h _ (by simp)]
  have h4 : (hi.map fun x => (ev x).st) = hi.map fun x => (ev' x).st := by cases hi <;> simp; rw [h _ (by simp)]
  rw [h x (by simp), h1, h2, h3, h4]
 case fieldAddr t x f => rw [h x (by simp)]
 case field t x f => rw [h x (by simp)]
 case indexAddr t x i => rw [h x (by simp), h i (by simp)]
 case index t x i => rw [h x (by simp), h i (by simp)]
 case extract x i => rw [h x (by simp)]
 case call c =>
  have ha : ∀ x ∈ c.args.toList, ev x = ev' x := fun x hx => h x (by simp only [Call.operands]; exact Zd.2 (.inr (Yd.1 hx)))
  split
  .
   rename_i x ty e1 e2 e3
   rw [e2] at ha; rw [ha x (by simp)]
  .
   rename_i x y e1 e2
   rw [e2] at ha; rw [ha x (by simp), ha y (by simp)]
  .
   rename_i x y e1 e2
   rw [e2] at ha; rw [ha x (by simp), ha y (by simp)]
  . rfl
theorem j04 {P : Program} {hp : Hp} {ev ev' : Operand -> AV} {op : Op} (h : ∀ x ∈ op.operands, ev x = ev' x) : qh8 P hp ev op = qh8 P hp ev' op := by
 unfold qh8
 split
 .
  rename_i t parts
  simp only [Op.operands] at h; have hp : ∀ p ∈ parts.toList, ev p.2 = ev' p.2 := fun p hp => h p.2 (by simp; exact ⟨p.1, by simpa using hp⟩); unfold z4w; rw [Xk (f := fun p : Nat × Operand => (p.1, (ev p.2).st)) (g := fun p => (p.1, (ev' p.2).st)) (fun p hx => by rw [hp p hx]), Xk (f := fun p : Nat × Operand => ev p.2) (g := fun p => ev' p.2) hp]
 .
  rename_i op t x y ty
  rw [ze4 h]; simp only [Op.operands] at h; rw [h x (by simp), h y (by simp)]
 . exact ze4 h
theorem zp8 {P : Program} {hp : Hp} {nx : Nat} {ev ev' : Operand -> AV} {op : Op} {r : AV} (h : ∀ x ∈ op.operands, ev x = ev' x) (hq : QV P hp nx ev op r) : QV P hp nx ev' op r := by
 unfold QV at hq ⊢; rw [<- j04 h]
 split at hq
 . exact hq
 .
  split at hq
  .
   rename_i c _
   simp only [Op.operands] at h; have ha : ∀ x ∈ c.args.toList, ev x = ev' x := fun x hx => h x (by simp only [Call.operands]; exact Zd.2 (.inr (Yd.1 hx)))
   split at hq
   .
    rename_i fo e1
    have hfo : ev fo = ev' fo := h fo (by simp [Call.operands, e1]); rw [<- hfo]; rw [Xk (f := ev) (g := ev') ha, Xk (f := fun x => (ev x).st) (g := fun x => (ev' x).st) (fun x hx => by rw [ha x hx])] at hq; exact hq
   . exact hq.elim
  .
   rename_i t n parts _
   simp only [Op.operands] at h; have hpp : ∀ p ∈ parts.toList, ev p.2 = ev' p.2 := fun p hp => h p.2 (by simp; exact ⟨p.1, by simpa using hp⟩); rw [Xk (f := fun p : Nat × Operand => (ev p.2).st) (g := fun p => (ev' p.2).st) (fun p hx => by rw [hpp p hx]), Xk (f := fun p : Nat × Operand => ev p.2) (g := fun p => ev' p.2) hpp] at hq; exact hq
  .
   rename_i t l c _
   simp only [Op.operands] at h; rw [h l (by simp), h c (by simp)] at hq; exact hq
  . exact hq.elim
theorem zp9 {P : Program} {hp : Hp} {nx : Nat} {ops : Array Oper} {E E' : Nat -> AV} {o : Oper} {r : AV} (h : ∀ t ∈ o.looksAt ops, E t = E' t) (hq : QG P hp nx ops E o r) : QG P hp nx ops E' o r := by
 have hev : ∀ x ∈ o.op.operands, evF E x = evF E' x := fun x hx => by
  cases x with
  | tmp t => exact h t (by unfold Oper.looksAt; exact Y0 _ (List.mem_filterMap.2 ⟨.tmp t, Yd.2 hx, rfl⟩))
  | _ => rfl
 unfold QG at hq ⊢
 split at hq
 . exact zp8 hev hq
 .
  rename_i j want hg
  split at hq
  .
   rename_i d hd
   have : E d = E' d := h d (by
    unfold Oper.looksAt; refine Yx _ ?_; rw [hg]; unfold q1n at hd; simp [hd])
   rw [<- this]
   split at hq
   . obtain ⟨r0, h1, h2⟩ := hq; exact ⟨r0, fun hgt => zp8 hev (h1 hgt), h2⟩
   . exact hq.elim
  . exact hq.elim
structure Still (w w' : World) : Prop where
 os : w'.os = w.os
 tape : w'.tape = w.tape
 output : w'.output = w.output /\ (dkF = true -> w.drawn <= w'.drawn)
 size : w.heap.size <= w'.heap.size
 block : ∀ b, b < w.heap.size -> w'.heap[b]? = w.heap[b]?
theorem Still.refl (w : World) : Still w w := ⟨rfl, rfl, ⟨rfl, fun _ => by first | exact Xc _ | exact Yr _⟩, Xc _, fun _ _ => rfl⟩
section
variable {P : Program} {C : Ctx P} {s : St} {a : Act} {w : World} {β : Ghost}
theorem Rel.still (h : Rel C s a w β) {w' : World} (hs : Still w w') : Rel C s a w' β := by
 have hA : Agree w w' (own β s.hp C.A) (own β s.hp C.A) := ⟨hs.size, fun b hb hlt => ⟨hs.block b hlt, hb⟩⟩; exact h.step (Xc _) (fun _ _ => rfl) hs.size (fun b hb _ => hs.block b hb) (fun _ _ hb => hb)
  ⟨fun p hp => q3m hA (Xc _) (fun _ _ => rfl) (h.hp.lt p hp) (fun b hbc => hs.block b (h.hp.bofLt p hp b hbc)) (fun _ => rfl) (h.hp.obj p hp), h.hp.lt, h.hp.nd, h.hp.inj, h.hp.av, h.hp.i0, fun p hp b hb => ⟨Yi (h.hp.ib p hp b hb).1 hs.size, (h.hp.ib p hp b hb).2⟩⟩
  (fun p hp => .inl (Xj hp)) hs.os hs.tape hs.output
theorem z4a {w' : World} (hs : Still w w') {x : AV} {u : Value} (hr : rep w β s.nx (own β s.hp C.A) x u) : rep w' β s.nx (own β s.hp C.A) x u :=
 q4v ⟨hs.size, fun b hb hlt => ⟨hs.block b hlt, hb⟩⟩ s.nx s.nx (Xc _) (fun _ _ => rfl) x u hr
theorem z3p (h : Rel C s a w β) {ev : Operand -> AV} (hev : ∀ x, rep w β s.nx (own β s.hp C.A) (ev x) (a.eval x)) {o : Oper} {r : AV} (hq : QV P s.hp s.nx ev o.op r) {K : Act -> World -> Prop} {Q : Exit -> Act -> World -> Prop}
  (hK : ∀ v w', Still w w' -> rep w' β s.nx (own β s.hp C.A) r v -> K (a.put o.dst v) w') : o.wp P a w K Q := by
 unfold QV at hq
 split at hq
 .
  rename_i c r' hf
  obtain ⟨hc, rfl⟩ := hq; obtain ⟨z, hz, hr⟩ := z3g h.hp hev (fun _ _ e => by subst e; rfl) hf hc; unfold Oper.wp; rw [hz]; exact hK z w (Still.refl w) hr
 .
  split at hq
  .
   rename_i cl ho
   split at hq
   .
    rename_i fo e1
    split at hq
    .
     rename_i f caps hf
     obtain ⟨⟨c1, c2, c3, c4⟩, hS0⟩ := hq; have hS := hS0.up c4 s.nx; have h1 := q1b (hev fo) c2; rw [hf] at h1; simp only [rep] at h1; obtain ⟨l, h1, h2⟩ := h1; have h3 := z2v hev cl.args.toList c3; have hargs : cl.args.map a.eval = ⟨cl.args.toList.map a.eval⟩ := Xn (by simp); have hown : ∀ β', own β' [] (own β s.hp C.A) = own β s.hp C.A := fun β' => by
      funext b
      apply propext
      constructor
      .
       rintro (hx | ⟨q, hq, _⟩)
       . exact hx
       . cases hq
      . exact fun hx => .inl hx
     have e0 : (⟨cl.args.toList.map a.eval⟩ : Array Value) ++ (⟨l⟩ : Array Value) = ⟨cl.args.toList.map a.eval ++ l⟩ := Xn (by simp); have hcall := hS w β (own β s.hp C.A) _ (by
      rintro b (hx | ⟨q, hq, hc⟩)
      . exact h.alt b hx
      . exact h.hp.bofLt q hq b hc) (by rw [hown]; exact q5g h3 h2) HpRel.nil ((h.gs.ext h.ext).sub fun _ ⟨_, hq, _⟩ => by cases hq)
     cases hB : q00 P f with
     | true =>
      have hrun : (execOp a.eval o).run P w = .ok (.enter f ⟨cl.args.toList.map a.eval ++ l⟩) w := by
       unfold execOp; simp only [ho]; simp only [resolve, e1, h1, hargs, Deferred.ofValue, Sem.run_bind, Sem.run_pure, Result.andThen_ok, invoke, X8, e0, zc4 hB]
      unfold Oper.wp; rw [hrun]; simp only [Oper.upon]; refine (hcall.1 hB).mono ?_; rintro e w' ⟨v, r', hp', nx', β', rfl, ⟨rfl, rfl, rfl⟩, hr, _, hext⟩; rw [hown] at hr; refine hK v w' ⟨hext.os, hext.tape, hext.output, hext.size, fun b hb => hext.keep b hb fun ⟨q, hq, _⟩ => by cases hq⟩ ?_; exact q4v (Agree.refl _ _) s.nx s.nx (Xc _) (fun id hid => (hext.gh id hid).symm) _ _ hr
     | false =>
      obtain ⟨v0, w', hr0, v, r', hp', nx', β', hv0, ⟨rfl, rfl, rfl⟩, hr, _, hext⟩ := hcall.2 hB
      cases hv0
      have hrun : (execOp a.eval o).run P w = .ok (.value v0) w' := by
       unfold execOp; simp only [ho]; simp only [resolve, e1, h1, hargs, Deferred.ofValue, Sem.run_bind, Sem.run_pure, Result.andThen_ok, invoke, X8, e0, hr0]
      unfold Oper.wp; rw [hrun]; simp only [Oper.upon]; rw [hown] at hr; refine hK v0 w' ⟨hext.os, hext.tape, hext.output, hext.size, fun b hb => hext.keep b hb fun ⟨q, hq, _⟩ => by cases hq⟩ ?_; exact q4v (Agree.refl _ _) s.nx s.nx (Xc _) (fun id hid => (hext.gh id hid).symm) _ _ hr
    . exact hq.elim
   . exact hq.elim
  .
   rename_i t n parts ho
   split at hq
   .
    rename_i e rs he hr
    split at hq
    .
     rename_i zs hz
     obtain ⟨⟨c1, c2, c3, c4, c5, c6, c7, c8, c9, c10⟩, ns, rfl⟩ := hq; obtain ⟨g1, g2, g3⟩ := qu7 hev c7 hr; have hrun := zj3 (w := w) ho he c1 hz c3 c4 c5 c6 (g3 _ c8); unfold Oper.wp; rw [hrun]; have hst : Still w (w.alloc (.cells ⟨(parts.toList.map fun p => (a.eval p.2).cells.toList).flatten⟩ e)) := ⟨rfl, rfl, ⟨rfl, fun _ => by first | exact Xc _ | exact Yr _⟩, by simp, fun b hb => Below.heap_alloc w _ b hb⟩; refine hK _ _ hst ?_; simp only [rep]; refine .inr ⟨w.heap.size, 0, n, by rw [Xy, g1, c6], by rw [Xy]; omega, ?_, by simp, ?_⟩
     .
      rintro (hx | ⟨q, hq, hc⟩)
      . have := h.alt _ hx; have := h.ext.size; omega
      . exact Nat.lt_irrefl _ (h.hp.bofLt q hq _ hc)
     .
      refine q5m (us := (parts.toList.map fun p => (a.eval p.2).cells.toList).flatten) (fun r hr' => by
       obtain ⟨r2, hr2, rfl⟩ := Xs.1 hr'; rw [q9e]; exact qz1 c8 r2 hr2) ?_ (q6w c9 g2) ?_
      . exact q8s (q1h ⟨hst.size, fun b hb hlt => ⟨hst.block b hlt, hb⟩⟩ 0 0 (Xc _) (fun _ _ => rfl) _ _ (q9c c10 g2))
      .
       intro j u hj; rw [X2, cell_of_row _ w.heap.size j _ e (0, 0) (heap_alloc_new w _)]
       simpa using hj
    . exact hq.elim
   . exact hq.elim
  .
   rename_i t l c ho
   split at hq
   .
    rename_i k n k' m e hl hc he
    split at hq
    .
     rename_i zs hz
     obtain ⟨⟨c1, c2, rfl, c4, c5, c6, c7, c8, c9, c10⟩, ns, rfl⟩ := hq; have hu1 := q1b (hev l) c1; have hu2 := q1b (hev c) c2; rw [hl] at hu1; rw [hc] at hu2; simp only [rep] at hu1 hu2; have hrun := j1h (w := w) (a := a) ho hu1 hu2 he c4 hz c5 c6 c7 c8 c9; unfold Oper.wp; rw [hrun]; have hst : Still w (w.alloc (.cells ⟨(Xb m.toNat zs).flatten⟩ e)) := ⟨rfl, rfl, ⟨rfl, fun _ => by first | exact Xc _ | exact Yr _⟩, by simp, fun b hb => Below.heap_alloc w _ b hb⟩; refine hK _ _ hst ?_; simp only [rep]; refine .inr ⟨w.heap.size, 0, m.toNat, by simp, by simp, ?_, by simp, ?_⟩
     .
      rintro (hx | ⟨q, hq, hc⟩)
      . have := h.alt _ hx; have := h.ext.size; omega
      . exact Nat.lt_irrefl _ (h.hp.bofLt q hq _ hc)
     .
      refine q5m (us := (Xb m.toNat zs).flatten) ?_ (by rw [<- X7]; exact q8s (qy6 _ _ _ _ _ _)) ?_ ?_
      . intro r hr; rw [Xl hr, q9e]; simp [c5]
      . intro u hu; obtain ⟨l', hl', hul⟩ := Yn.1 hu; rw [Xl hl'] at hul; exact X5.1 c10 u hul
      .
       intro j u hj; rw [X2, cell_of_row _ w.heap.size j _ e (0, 0) (heap_alloc_new w _)]
       simpa using hj
    . exact hq.elim
   . exact hq.elim
  . exact hq.elim
end
end
section
open Go Go.RowKit
def EnvIs (ops : Array Oper) (r : Nat -> AV) (E0 : Nat -> AV) (L : Nat -> Prop) (E : Nat -> AV) : Prop :=
 ∀ t, (∃ i, i < ops.size /\ L i /\ q1n ops i = some t /\ (∀ k, i < k -> k < ops.size -> L k -> q1n ops k ≠ some t) /\ E t = r i) \/ ((∀ i, i < ops.size -> L i -> q1n ops i ≠ some t) /\ E t = E0 t)
def q4u (E : Nat -> AV) : Option Nat -> AV -> Nat -> AV
 | none, _ => E
 | some d, x => fun t => if d = t then x else E t
theorem EnvIs.uniq {ops : Array Oper} {r E0 : Nat -> AV} {L : Nat -> Prop} {E E' : Nat -> AV} (h : EnvIs ops r E0 L E) (h' : EnvIs ops r E0 L E') (t : Nat) : E t = E' t := by
 rcases h t with ⟨i, h1, h2, h3, h4, h5⟩ | ⟨h1, h2⟩ <;> rcases h' t with ⟨k, k1, k2, k3, k4, k5⟩ | ⟨k1, k2⟩
 .
  rcases Yl i k with hlt | heq | hgt
  . exact absurd k3 (h4 k hlt k1 k2)
  . subst heq; rw [h5, k5]
  . exact absurd h3 (k4 i hgt h1 h2)
 . exact absurd h3 (k1 i h1 h2)
 . exact absurd k3 (h1 k k1 k2)
 . rw [h2, k2]
theorem EnvIs.iff {ops : Array Oper} {r E0 : Nat -> AV} {L L' : Nat -> Prop} {E : Nat -> AV} (h : EnvIs ops r E0 L E) (hl : ∀ i, i < ops.size -> (L i ↔ L' i)) : EnvIs ops r E0 L' E := by
 intro t; rcases h t with ⟨i, h1, h2, h3, h4, h5⟩ | ⟨h1, h2⟩
 . exact .inl ⟨i, h1, (hl i h1).1 h2, h3, fun k hk hk' hL => h4 k hk hk' ((hl k hk').2 hL), h5⟩
 . exact .inr ⟨fun i hi hL => h1 i hi ((hl i hi).2 hL), h2⟩
theorem EnvIs.step {ops : Array Oper} {r E0 : Nat -> AV} {L : Nat -> Prop} {E : Nat -> AV} (h : EnvIs ops r E0 L E) {j : Nat} (hj : j < ops.size) (hlast : ∀ k, j < k -> k < ops.size -> L k -> ∀ d, q1n ops j = some d -> q1n ops k ≠ some d) :
  EnvIs ops r E0 (fun i => L i \/ i = j) (q4u E (q1n ops j) (r j)) := by
 intro t
 by_cases hd : q1n ops j = some t
 .
  refine .inl ⟨j, hj, .inr rfl, hd, fun k hk hk' hL => ?_, ?_⟩
  .
   rcases hL with hL | hL
   . exact hlast k hk hk' hL t hd
   . omega
  . rw [hd]; simp [q4u]
 .
  have hE : q4u E (q1n ops j) (r j) t = E t := by
   cases hdj : q1n ops j with
   | none => rfl
   | some d => rw [hdj] at hd; simp only [q4u]; rw [if_neg (fun e => hd (by rw [e]))]
  rw [hE]; rcases h t with ⟨i, h1, h2, h3, h4, h5⟩ | ⟨h1, h2⟩
  .
   refine .inl ⟨i, h1, .inl h2, h3, fun k hk hk' hL => ?_, h5⟩; rcases hL with hL | rfl
   . exact h4 k hk hk' hL
   . exact hd
  .
   refine .inr ⟨fun i hi hL => ?_, h2⟩; rcases hL with hL | rfl
   . exact h1 i hi hL
   . exact hd
theorem EnvIs.agree {ops : Array Oper} {r E0 : Nat -> AV} {L : Nat -> Prop} {E Ej : Nat -> AV} {j : Nat} {oj : Oper} (h : EnvIs ops r E0 L E) (hE : EnvIs ops r E0 (· < j) Ej) (hj : j < ops.size) (hLj : ¬ L j)
  (h1 : ∀ i, i < j -> ¬ L i -> ∀ d, q1n ops i = some d -> d ∉ oj.looksAt ops) (h2 : ∀ i, j < i -> i < ops.size -> L i -> ∀ d, q1n ops i = some d -> d ∉ oj.looksAt ops) :
  ∀ t ∈ oj.looksAt ops, E t = Ej t := by
 intro t ht; rcases h t with ⟨i, k1, k2, k3, k4, k5⟩ | ⟨k1, k2⟩
 .
  have hij : i < j := by
   rcases Yl i j with hlt | heq | hgt
   . exact hlt
   . subst heq; exact absurd k2 hLj
   . exact absurd ht (h2 i hgt k1 k2 t k3)
  rcases hE t with ⟨i', m1, m2, m3, m4, m5⟩ | ⟨m1, m2⟩
  .
   rcases Yl i i' with hlt | heq | hgt
   .
    by_cases hL : L i'
    . exact absurd m3 (k4 i' hlt m1 hL)
    . exact absurd ht (h1 i' m2 hL t m3)
   . subst heq; rw [k5, m5]
   . exact absurd k3 (m4 i hgt k1 hij)
  . exact absurd k3 (m1 i k1 hij)
 .
  rcases hE t with ⟨i', m1, m2, m3, m4, m5⟩ | ⟨m1, m2⟩
  .
   by_cases hL : L i'
   . exact absurd m3 (k1 i' m1 hL)
   . exact absurd ht (h1 i' m2 hL t m3)
  . rw [k2, m2]
theorem z3n {α : Type} {p q : α -> Bool} {x : α} : ∀ {l : List α}, l.Nodup -> x ∈ l -> p x = true -> q x = false -> (∀ y, y ≠ x -> q y = p y) -> (l.filter p).length = (l.filter q).length + 1
 | y :: l, hn, hx, hp, hq, h => by
  simp only [List.nodup_cons] at hn
  by_cases hy : y = x
  . subst hy; have : l.filter p = l.filter q := List.filter_congr fun z hz => (h z (fun e => hn.1 (by rw [<- e]; exact hz))).symm; simp [hp, hq, this]
  .
   have hxl : x ∈ l := by
    rcases Y1.1 hx with e | hx
    . exact absurd e.symm hy
    . exact hx
   have ih := z3n hn.2 hxl hp hq h; simp only [List.filter_cons, h y hy]
   split
   . simp [ih]
   . exact ih
 | [], _, hx, _, _, _ => by simp at hx
section
variable {P : Program} {C : Ctx P} {hp : Hp} {nx nb nt : Nat} {β : Ghost}
theorem qv3 {ops : Array Oper} (h : z2l ops = true) : (∀ j oj, ops[j]? = some oj -> ∀ e ∈ oj.after, Region.binds .any e = true -> e.on < j) /\
  (∀ i j oi oj, i < j -> ops[i]? = some oi -> ops[j]? = some oj -> (∀ e ∈ oj.after, Region.binds .any e = true -> e.on ≠ i) -> oi.apart ops oj = true) := by
 simp only [z2l, Xd, X5, List.mem_range] at h; obtain ⟨_, h⟩ := h; refine ⟨fun j oj hj e he hb => ?_, fun i j oi oj hij hi hj hne => ?_⟩
 . have := h j (X6.1 hj).1; rw [hj] at this; simp only [Xd] at this; have h1 := Array.all_eq_true_iff_forall_mem.1 this.1 e he; simp only [hb, Bool.not_true, Bool.false_or, decide_eq_true_eq] at h1; exact h1
 .
  have := h j (X6.1 hj).1; rw [hj] at this; simp only [Xd, X5, List.mem_range] at this; have h1 := this.2 i hij; rw [hi] at h1; simp only [Bool.or_eq_true] at h1; rcases h1 with h1 | h1
  . obtain ⟨e, he, hb⟩ := Array.any_eq_true'.1 h1; simp only [Xd, beq_iff_eq] at hb; exact absurd hb.2 (hne e he hb.1)
  . exact h1
def bsO : Op -> Bool
 | .buildSlice .. => true
 | _ => false
def qG (P : Program) (ops : Array Oper) (s : St) (o : Oper) (K : AV -> Prop) : Prop :=
 match o.guard with
 | none => qO P s o.op K
 | some (j, want) => match q1n ops j with
  | some d => match qw1 (q0u s.env d) want with
   | some g => if z7s o.op = true then (g = true -> qO P s o.op fun r => K (mkG true r)) /\ (g = false -> K (mkG false .junk)) else match qh8 P s.hp (u6 s.env) o.op with
    | some (c, r) => (g = true -> c) /\ K (mkG g r)
    | none => if bsO o.op = true then qX P s o.op g fun r => K (mkG g r) else (g = true -> qO P s o.op fun r => K (mkG true r)) /\ (g = false -> K (mkG false .junk))
   | none => False
  | none => False
  where
 qO (P : Program) (s : St) (op : Op) (K : AV -> Prop) : Prop := match qh8 P s.hp (u6 s.env) op with
  | some (c, r) => c /\ K r
  | none => qX P s op true K
 qX (P : Program) (s : St) (op : Op) (g : Bool) (K : AV -> Prop) : Prop := match op with
  | .call c => match c.callee, c.args.toList, c.argTypes.toList with
   | .value fo, args, _ => match (u6 s.env fo).st with
    | .clo f caps => ∃ r, (g = true -> (True /\ (u6 s.env fo).need /\ needs (args.map (u6 s.env)) /\ q0f ((args.map fun x => (u6 s.env x).st) ++ caps) = true) /\ PureS P f ((args.map fun x => (u6 s.env x).st) ++ caps) 0 r) /\ K r
    | _ => False
   | _, _, _ => False
  | .buildSlice t n parts => match sliceT P t, qq4 (parts.toList.map fun p => (u6 s.env p.2).st) with
   | some e, some rs => match q1i P e with
    | some zs => (g = true -> q12 P e = true /\ zs.length = szT P e /\ 0 < szT P e /\ n * szT P e <= 16777216 /\ q8t parts.toList 0 = true /\ parts.toList.length = n /\ needs (parts.toList.map fun p => u6 s.env p.2) /\ qj8 (szT P e) rs = true /\
       rs.flatten.all q8n = true /\ rs.flatten.all q8j = true) /\ K (.sl (szT P e) (rs.map (q1l (qv0 s.hp P e))))
    | none => False
   | _, _ => False
  | .makeSlice t l c => match (u6 s.env l).st, (u6 s.env c).st, sliceT P t with
   | .v (.int _ n), .v (.int _ m), some e => match q1i P e with
    | some zs => (g = true -> (u6 s.env l).need /\ (u6 s.env c).need /\ m = n /\ q12 P e = true /\ zs.length = szT P e /\ 0 < szT P e /\ 0 < q1v P e /\ 0 <= n /\ n * q1v P e <= 140737488355328 /\ zs.all (·.oneCell') = true) /\
      K (.sl (szT P e) (Xb n.toNat (q1l (qv0 s.hp P e) (zs.map AV.v))))
    | none => False
   | _, _, _ => False
  | _ => False
def vcQ (P : Program) (ops : Array Oper) : List Oper -> St -> (St -> Prop) -> Prop
 | [], s, K => K s
 | o :: r, s, K => qG P ops s o fun x => vcQ P ops r (s.put o.dst x) K
theorem zn2 (env : List (Nat × AV)) : evF (q0u env) = u6 env := by
 funext x
 cases x <;> rfl
theorem zt6 {s : St} {op : Op} {g : Bool} {K : AV -> Prop} (hf : qh8 P s.hp (u6 s.env) op = none) (h : qG.qX P s op g K) : ∃ r, (g = true -> QV P s.hp s.nx (u6 s.env) op r) /\ K r := by
 unfold qG.qX at h
 split at h
 .
  split at h
  .
   split at h
   .
    rename_i f caps hfo
    obtain ⟨r, h1, h2⟩ := h; refine ⟨r, fun hg => ?_, h2⟩; unfold QV; rw [hf]; simp only [*]; simp
   . exact h.elim
  . exact h.elim
 .
  split at h
  .
   split at h
   .
    rename_i he hr _ zs hz
    refine ⟨_, fun hg => ?_, h.2⟩; unfold QV; rw [hf]; simp only [he, hr, hz]; exact ⟨h.1 hg, _, rfl⟩
   . exact h.elim
  . exact h.elim
 .
  split at h
  .
   rename_i hl hc he
   split at h
   .
    rename_i zs hz
    refine ⟨_, fun hg => ?_, h.2⟩; unfold QV; rw [hf]; simp only [hl, hc, he, hz]; exact ⟨h.1 hg, _, rfl⟩
   . exact h.elim
  . exact h.elim
 . exact h.elim
theorem z9o {s : St} {op : Op} {K : AV -> Prop} (h : qG.qO P s op K) : ∃ r, QV P s.hp s.nx (u6 s.env) op r /\ K r := by
 unfold qG.qO at h
 split at h
 .
  rename_i c r hf
  exact ⟨r, by unfold QV; rw [hf]; exact ⟨h.1, rfl⟩, h.2⟩
 .
  rename_i hf
  obtain ⟨r, h1, h2⟩ := zt6 hf h; exact ⟨r, h1 rfl, h2⟩
theorem zt7 {ops : Array Oper} {s : St} {o : Oper} {K : AV -> Prop} (h : qG P ops s o K) : ∃ r, QG P s.hp s.nx ops (q0u s.env) o r /\ K r := by
 unfold qG at h
 split at h
 .
  rename_i hg
  unfold QG; rw [hg]; simp only [zn2]; exact z9o h
 .
  rename_i j want hg
  unfold QG; rw [hg]; simp only [zn2]
  split at h
  .
   rename_i d hd
   try rw [hd]
   try simp only
   split at h
   .
    rename_i g hgb
    try rw [hgb]
    try simp only
    split at h
    .
     cases g with
     | true =>
      obtain ⟨r, h1, h2⟩ := z9o (h.1 rfl); exact ⟨mkG true r, ⟨r, fun _ => h1, rfl⟩, h2⟩
     | false => exact ⟨mkG false .junk, ⟨.junk, (fun hx => by cases hx), rfl⟩, h.2 rfl⟩
    .
     split at h
     .
      rename_i c r hf
      exact ⟨mkG g r, ⟨r, fun hgt => by unfold QV; rw [hf]; exact ⟨h.1 hgt, rfl⟩, rfl⟩, h.2⟩
     .
      rename_i hf
      split at h
      . obtain ⟨r, h1, h2⟩ := zt6 hf h; exact ⟨mkG g r, ⟨r, h1, rfl⟩, h2⟩
      .
       cases g with
       | true =>
        obtain ⟨r, h1, h2⟩ := z9o (h.1 rfl); exact ⟨mkG true r, ⟨r, fun _ => h1, rfl⟩, h2⟩
       | false => exact ⟨mkG false .junk, ⟨.junk, (fun hx => by cases hx), rfl⟩, h.2 rfl⟩
   . exact h.elim
  . exact h.elim
def q1j (ops : List Oper) (r : Nat -> AV) (k : Nat) (s : St) : St := match ops with
 | [] => s
 | o :: rest => q1j rest r (k + 1) (s.put o.dst (r k))
theorem zi0 {ops : Array Oper} {K : St -> Prop} : ∀ (l : List Oper) (s : St) (k : Nat), vcQ P ops l s K -> ∃ r : Nat -> AV, (∀ j o, l[j]? = some o -> QG P s.hp s.nx ops (q0u (q1j (l.take j) r k s).env) o (r (k + j))) /\ K (q1j l r k s)
 | [], s, k, h => ⟨fun _ => .junk, by simp, h⟩
 | o :: l, s, k, h => by
  obtain ⟨x, h1, h2⟩ := zt7 h; obtain ⟨r, h3, h4⟩ := zi0 l (s.put o.dst x) (k + 1) h2; have hhp : (s.put o.dst x).hp = s.hp /\ (s.put o.dst x).nx = s.nx := by cases o.dst <;> exact ⟨rfl, rfl⟩
  let r' : Nat -> AV := fun i => if i = k then x else r i
  have hpe : ∀ (l : List Oper) (m : Nat) (s : St), k < m -> q1j l r' m s = q1j l r m s := by
   intro l
   induction l with
   | nil => intro m s _; rfl
   | cons o' l ih =>
    intro m s hm; simp only [q1j]; have : r' m = r m := by simp only [r']; rw [if_neg (by omega)]
    rw [this, ih (m + 1) _ (by omega)]
  have hx : r' k = x := by simp [r']
  refine ⟨r', ?_, ?_⟩
  .
   intro j o' hj
   cases j with
   | zero =>
    simp only [List.getElem?_cons_zero, Xa] at hj; subst hj; simp only [Ys, q1j, Xm, hx]; exact h1
   | succ j =>
    have := h3 j o' (by simpa using hj); simp only [Y5, q1j, hx, hpe _ (k + 1) _ (X4 k)]; rw [hhp.1, hhp.2] at this; have hrj : r' (k + (j + 1)) = r (k + 1 + j) := by simp only [r']; rw [if_neg (by omega), show k + (j + 1) = k + 1 + j by omega]
    rw [hrj]; exact this
  . simp only [q1j, hx, hpe _ (k + 1) _ (X4 k)]; exact h4
theorem z2w (r : Nat -> AV) : ∀ (l : List Oper) (k : Nat) (s : St), (q1j l r k s).hp = s.hp /\ (q1j l r k s).nx = s.nx /\ (q1j l r k s).nt = s.nt /\ (q1j l r k s).nb = s.nb
 | [], k, s => ⟨rfl, rfl, rfl, rfl⟩
 | o :: l, k, s => by
  obtain ⟨h1, h2, h3, h4⟩ := z2w r l (k + 1) (s.put o.dst (r k)); simp only [q1j, h1, h2, h3, h4]
  cases o.dst <;> exact ⟨rfl, rfl, rfl, rfl⟩
theorem z8b (r : Nat -> AV) : ∀ (l : List Oper) (o : Oper) (k : Nat) (s : St), q1j (l ++ [o]) r k s = (q1j l r k s).put o.dst (r (k + l.length))
 | [], o, k, s => by simp [q1j]
 | o' :: l, o, k, s => by
  simp only [List.cons_append, q1j, z8b r l o (k + 1), Zb]; rw [show k + 1 + l.length = k + (l.length + 1) by omega]
theorem qh1 {ops : Array Oper} (r : Nat -> AV) (s : St) : ∀ (n : Nat), n <= ops.size -> EnvIs ops r (q0u s.env) (· < n) (q0u (q1j (ops.toList.take n) r 0 s).env)
 | 0, _ => fun t => .inr ⟨fun i _ hL => absurd hL (Xz _), rfl⟩
 | n + 1, hn => by
  have ih := qh1 (ops := ops) r s n (by omega); have hlt : n < ops.size := by omega
  have htake : ops.toList.take (n + 1) = ops.toList.take n ++ [ops[n]] := by
   rw [List.take_succ_eq_append_getElem (by simpa using hlt)]; simp
  have hd : q1n ops n = ops[n].dst := by simp [q1n, hlt]
  have hstep := (ih.step hlt (fun k hk _ hL => by omega)).iff (L' := (· < n + 1)) (fun i _ => by constructor <;> intro h <;> omega); have hlen : (ops.toList.take n).length = n := by rw [Xh]; simp; omega
  rw [htake, z8b, X2, hlen]; have hee : q0u ((q1j (ops.toList.take n) r 0 s).put ops[n].dst (r n)).env = q4u (q0u (q1j (ops.toList.take n) r 0 s).env) (q1n ops n) (r n) := by
   rw [hd]
   funext t
   cases ops[n].dst <;> simp [St.put, q4u, q0u]
  rw [hee]; exact hstep
end
end
section
open Go Go.RowKit
theorem lits : ((2 : Nat) : Int) = 2 /\ ((3 : Nat) : Int) = 3 /\ ((4 : Nat) : Int) = 4 /\ ((5 : Nat) : Int) = 5 /\ ((6 : Nat) : Int) = 6 /\ ((7 : Nat) : Int) = 7 /\ ((8 : Nat) : Int) = 8 /\ ((9 : Nat) : Int) = 9 /\ ((10 : Nat) : Int) = 10 /\ ((11 : Nat) : Int) = 11 /\ ((12 : Nat) : Int) = 12 /\ ((13 : Nat) : Int) = 13 /\ ((14 : Nat) : Int) = 14 /\ ((15 : Nat) : Int) = 15 /\ ((16 : Nat) : Int) = 16 /\ ((17 : Nat) : Int) = 17 /\ ((18 : Nat) : Int) = 18 /\ ((19 : Nat) : Int) = 19 /\ ((20 : Nat) : Int) = 20 := ⟨rfl, rfl, rfl, rfl, rfl, rfl, rfl, rfl, rfl, rfl, rfl, rfl, rfl, rfl, rfl, rfl, rfl, rfl, rfl⟩
theorem zx5 (c y : Bool) : (c || (!c && y)) = (c || y) := by cases c <;> simp
theorem z8f : ((1 : Nat) = 0) = False := by simp
theorem zy5 (a b : Nat) : (a + b < a) = False := by simp
theorem zq6 (n : Int) : IntKind.i64.wrap n = if n % 18446744073709551616 ≥ 9223372036854775808 then n % 18446744073709551616 - 18446744073709551616 else n % 18446744073709551616 := by
 simp [IntKind.wrap, IntKind.signed, IntKind.bits]
theorem wrap_i64 (n : Int) (h : -9223372036854775808 <= n /\ n < 9223372036854775808) : IntKind.i64.wrap n = n := by
 rw [zq6]; split <;> omega
def j98 (b : List UInt8) : List (List AV) := b.map fun x => [.v (.int .u8 x.toNat)]
theorem j4y (b : List UInt8) : (j98 b).length = b.length := by simp [j98]
theorem q2p {nx : Nat} {s : St} {r r' : AV} (hb : s.nb = nx) (h : AvLe (q6a s.nb []) s.hp (fun _ => True) s.nb r r') : z0b s r (z9e r' nx) := by
 subst hb; refine ⟨[], [], s.nb, r', ?_, ?_, rfl, rfl, rfl⟩
 . exact ⟨rfl, rfl, Xc _, trivial, trivial, trivial⟩
 . exact h
end
end Go.Proofs.YteibkihbdgphnaaGreat

/- What the functions of kids come to. -/
import Derived.Test.YtdbbdfmkglgjdaaPmKids
set_option linter.unusedVariables false
set_option linter.unusedSimpArgs false
namespace Go.Proofs.Ytdbbdfmkglgjdaa.Pi
open Go.Ab Go.Feed Go.Kids
set_option maxRecDepth 100000
def Kid.v (k : Kid) : AV := .agg [.int .i64 k.id, .int .i64 k.inc, .int .i64 k.heard]
theorem YM (k : Kid) : Kid.v k = .agg [.int .i64 k.id, .int .i64 k.inc, .int .i64 k.heard] := rfl
abbrev kds (l : List Kid) : AV := .fz 3 (l.map Kid.v)
theorem kAt {l : List Kid} {i : Nat} (hi : i < l.length) : l[i]? = some (l.getD i default) := z3s hi
section
variable {Q : z3}
theorem z4e {l : List Kid} {v : AV} (h : Sl 3 (l.map Kid.v) v) (hl : l.length ≤ 1000000) : zf (za P1) 65 [v] Q = some (.ow 3 (l.map Kid.v), Q) := by
 rw [KQ (g := Za 3 24) rfl, h.clone (by rw [List.length_map]; exact kX (by omega) (by omega))]; rfl
theorem zfJ (l : List Kid) (i : Nat) (k : Kid) : (l.map Kid.v).set i (Kid.v k) = (l.set i k).map Kid.v := List.map_set.symm
theorem zac {l : List Kid} {f : Kid → Bool} {c : Nat} {cp : List AV} (hc : c < jT) (hf : ∀ (x : Kid) Q, zf (za P1) c (Kid.v x :: cp) Q = some (.bool (f x), Q)) (hl : l.length ≤ 900000) : ∀ (m i : Nat), i + m = l.length →
  yw P1 (kds l) (.fn c [] cp) (.int .i64 l.length) (.int .i64 i) Q = match (l.drop i).findIdx? f with
   | some j => jr (.int .i64 ((i + j : Nat) : Int)) Q
   | none => jB Q := by
 intro m
 induction m with
 | zero =>
  intro i hi
  obtain rfl : i = l.length := by omega
  rw [List.drop_length, xc, xA]
  simp
 | succ m ih =>
  intro i hi
  have c1 : ((i : Int) < l.length) = True := eq_true (by omega)
  have hx := kAt (l := l) (i := i) (by omega)
  have e := (Sl.fz 3 (l.map Kid.v)).get (k := .i64) hx
  have hf := fun Q => hf (l.getD i default) Q
  have w := w64 (i := (i : Int) + 1) (by omega) (by omega)
  have ih := ih (i + 1) (by omega)
  have ed : l.drop i = l.getD i default :: l.drop (i + 1) := by
   rw [List.drop_eq_getElem_cons (by omega), List.getD_eq_getElem?_getD, List.getElem?_eq_getElem (by omega)]; rfl
  rw [ed, List.findIdx?_cons]
  generalize l.getD i default = x at *
  rw [YM] at e hf
  rw [show ((i + 1 : Nat) : Int) = (i : Int) + 1 by push_cast; rfl] at ih
  rw [xc, xA]
  cases hfx : f x with
  | true =>
   rw [hfx] at hf
   simp [c1, e, hf, hc]
  | false =>
   rw [hfx] at hf
   simp [c1, e, hf, hc, w]
   rw [y8, ih]
   cases (l.drop (i + 1)).findIdx? f with
   | none => rfl
   | some j =>
    simp only [Option.map_some]
    rw [show ((i + 1 + j : Nat) : Int) = (i : Int) + ((j + 1 : Nat) : Int) by push_cast; omega]
theorem zfK {l : List Kid} {f : Kid → Bool} {c : Nat} {cp : List AV} (hc : c < jT) (hf : ∀ (x : Kid) Q, zf (za P1) c (Kid.v x :: cp) Q = some (.bool (f x), Q)) (hl : l.length ≤ 900000) : zf (za P1) 75 [kds l, .fn c [] cp] Q = some (.int .i64 (match l.findIdx? f with
  | some j => (j : Int)
  | none => -1), Q) := by
 rw [vd rfl]
 have lp := zac (Q := Q) hc hf hl l.length 0 (by omega)
 rw [show ((0 : Nat) : Int) = 0 from rfl, List.drop_zero] at lp
 cases e : l.findIdx? f with
 | none => rw [e] at lp; simp [y8, lp, kB]
 | some j => rw [e] at lp; simp [y8, lp]
end
end Go.Proofs.Ytdbbdfmkglgjdaa.Pi
/- What the functions of kids come to: who is left out. -/
namespace Go.Proofs.Ytdbbdfmkglgjdaa.Pi
open Go.Ab Go.Feed Go.Kids
set_option maxRecDepth 100000
structure Dl (l L : List Kid) (f : Kid → Bool) (i j : Nat) : Prop where
 len : L.length = l.length
 ij : i < j
 jn : j ≤ l.length
 kept : L.take i = outs f (l.take j)
 rest : L.drop j = l.drop j
theorem Dl.at {l L : List Kid} {f : Kid → Bool} {i j : Nat} (h : Dl l L f i j) (hj : j < l.length) : L[j]? = l[j]? := by
 have := congrArg List.head? h.rest
 rwa [List.head?_drop, List.head?_drop] at this
theorem Dl.skip {l L : List Kid} {f : Kid → Bool} {i j : Nat} (h : Dl l L f i j) (hj : j < l.length) (hf : f (l.getD j default) = true) : Dl l L f i (j + 1) := by
 have hx : l[j]? = some (l.getD j default) := kAt hj
 refine ⟨h.len, by have := h.ij; omega, by omega, ?_, ?_⟩
 ·rw [h.kept, List.take_add_one, hx]
  generalize l.getD j default = x at *
  simp [outs, hf]
 ·have := congrArg (List.drop 1) h.rest
  rwa [List.drop_drop, List.drop_drop] at this
theorem Dl.keep {l L : List Kid} {f : Kid → Bool} {i j : Nat} (h : Dl l L f i j) (hj : j < l.length) (hf : f (l.getD j default) = false) : Dl l (L.set i (l.getD j default)) f (i + 1) (j + 1) := by
 have hx : l[j]? = some (l.getD j default) := kAt hj
 have hij := h.ij
 refine ⟨by rw [List.length_set]; exact h.len, by omega, by omega, ?_, ?_⟩
 ·rw [List.take_add_one, List.take_add_one (l := l), hx, List.getElem?_set_self (by rw [h.len]; omega), List.take_set_of_le (by omega), h.kept]
  generalize l.getD j default = x at *
  simp [outs, hf]
 ·rw [List.drop_set_of_lt (by omega)]
  have := congrArg (List.drop 1) h.rest
  rwa [List.drop_drop, List.drop_drop] at this
section
variable {Q : z3}
theorem zad {l : List Kid} {f : Kid → Bool} {c : Nat} {cp : List AV} (hc : c < jT) (hf : ∀ (x : Kid) Q, zf (za P1) c (Kid.v x :: cp) Q = some (.bool (f x), Q)) (hl : l.length ≤ 900000) : ∀ (m i j : Nat) (L : List Kid), j + m = l.length → Dl l L f i j →
  ∃ (i' : Nat) (L' : List Kid), yn P1 (.fn c [] cp) (.int .i64 i) (.int .i64 j) (L.map Kid.v) Q = jq (.int .i64 (i' : Int)) (L'.map Kid.v) Q ∧ Dl l L' f i' l.length := by
 intro m
 induction m with
 | zero =>
  intro i j L hj hd
  obtain rfl : j = l.length := by omega
  have c1 : ((l.length : Int) < L.length) = False := eq_false (by rw [hd.len]; omega)
  refine ⟨i, L, ?_, hd⟩
  rw [yc, ym]
  simp [c1]
 | succ m ih =>
  intro i j L hj hd
  have hjl : j < l.length := by omega
  have c1 : ((j : Int) < L.length) = True := eq_true (by rw [hd.len]; omega)
  have c1' : j < L.length := by rw [hd.len]; exact hjl
  have hx := kAt hjl
  have hL : L[j]? = some (l.getD j default) := by rw [hd.at hjl]; exact hx
  have e : (L.map Kid.v)[j]? = some (Kid.v (l.getD j default)) := by rw [List.getElem?_map, hL]; rfl
  have hf := fun Q => hf (l.getD j default) Q
  have w := w64 (i := (j : Int) + 1) (by omega) (by omega)
  have hij := hd.ij
  have w2 := w64 (i := (i : Int) + 1) (by omega) (by omega)
  have eN : elN (L.map Kid.v) j 0 3 = some [.int .i64 (l.getD j default).id, .int .i64 (l.getD j default).inc, .int .i64 (l.getD j default).heard] := by
   unfold elN; rw [e]; rfl
  cases hfx : f (l.getD j default) with
  | true =>
   rw [hfx] at hf
   obtain ⟨i', L', g1, g2⟩ := ih i (j + 1) L (by omega) (hd.skip hjl hfx)
   refine ⟨i', L', ?_, g2⟩
   generalize l.getD j default = x at *
   rw [YM] at hf
   rw [show ((j + 1 : Nat) : Int) = (j : Int) + 1 by push_cast; rfl] at g1
   rw [yc, ym]
   simp [c1, c1', eN, hf, hc, xp, w]
   simpa [y4] using g1
  | false =>
   rw [hfx] at hf
   obtain ⟨i', L', g1, g2⟩ := ih (i + 1) (j + 1) _ (by omega) (hd.keep hjl hfx)
   refine ⟨i', L', ?_, g2⟩
   have hi : i < L.length := by omega
   have ei := kAt hi
   have ei2 : (L.map Kid.v)[i]? = some (Kid.v (L.getD i default)) := by rw [List.getElem?_map, ei]; rfl
   have ks := zfJ L i (l.getD j default)
   generalize l.getD j default = x at *
   generalize L.getD i default = y at *
   rw [YM] at hf ks ei2
   rw [show ((j + 1 : Nat) : Int) = (j : Int) + 1 by push_cast; rfl, show ((i + 1 : Nat) : Int) = (i : Int) + 1 by push_cast; rfl, ← ks] at g1
   have hi2 : ((i : Int) < L.length) = True := eq_true (by omega)
   rw [yc, ym]
   simp [c1, c1', eN, hf, hc, hi, hi2, ei, Kid.v, z4J, splice, xp, w, w2]
   simpa [y4, Kid.v] using g1
theorem zfL {l : List Kid} {f : Kid → Bool} {c : Nat} {cp : List AV} (hc : c < jT) (hf : ∀ (x : Kid) Q, zf (za P1) c (Kid.v x :: cp) Q = some (.bool (f x), Q)) (hl : l.length ≤ 900000) : zf (za P1) (66 + 1000000) [.ow 3 (l.map Kid.v), .fn c [] cp] Q = some (kds (outs f l), Q) := by
 have ix := fun (Q : z3) => zfK (Q := Q) hc hf hl
 refine (kK (s := P1) rfl (l.map Kid.v) (.fn c [] cp) Q).trans ?_
 cases e : l.findIdx? f with
 | none =>
  rw [e] at ix
  have : outs f l = l := List.filter_eq_self.2 fun x hx => by
   have := List.findIdx?_eq_none_iff.1 e x hx
   simp [this]
  simp only [kds] at ix
  simp [ix, wZ, J1, this, kds]
 | some j =>
  rw [e] at ix
  obtain ⟨hj, h1, h2⟩ := List.findIdx?_eq_some_iff_getElem.1 e
  have d0 : Dl l l f j (j + 1) := by
   refine ⟨rfl, by omega, by omega, ?_, rfl⟩
   rw [List.take_add_one, List.getElem?_eq_getElem hj]
   have : outs f (l.take j) = l.take j := List.filter_eq_self.2 fun x hx => by
    obtain ⟨k, hk, rfl⟩ := List.getElem_of_mem hx
    have hk2 : k < j := by simp at hk; omega
    have := h2 k hk2
    simp only [List.getElem_take]
    simpa using this
   unfold outs at this ⊢
   rw [List.filter_append, this]
   simp [h1]
  obtain ⟨i', L', g1, g2⟩ := zad (Q := Q) hc hf hl (l.length - (j + 1)) j (j + 1) l (by omega) d0
  have w := w64 (i := (j : Int) + 1) (by omega) (by omega)
  have c1 : ((j : Int) = -1) = False := eq_false (by omega)
  have hi := g2.ij
  have hi2 : i' < L'.length := by rw [g2.len]; exact hi
  have hi3 : ((i' : Int) < L'.length) = True := eq_true (by omega)
  have hk := g2.kept
  rw [List.take_length] at hk
  rw [show ((j + 1 : Nat) : Int) = (j : Int) + 1 by push_cast; rfl] at g1
  simp only [kds] at ix
  have sl : QZ 3 (.fz 3 ((L'.map Kid.v).take i' ++ List.replicate (L'.length - i') (mkE [.int .i64 0, .int .i64 0, .int .i64 0]))) none (some (.int .i64 (i' : Int))) = some (.fz 3 ((outs f l).map Kid.v)) := by
   have hlen : ((L'.map Kid.v).take i' ++ List.replicate (L'.length - i') (mkE [.int .i64 0, .int .i64 0, .int .i64 0])).length = L'.length := by simp; omega
   have b : (0 ≤ (i' : Int) ∧ (i' : Int) ≤ (L'.length : Int)) = True := eq_true (by omega)
   rw [W1 (by omega)]
   simp only [jj, Xu, hlen, b, if_true, Int.toNat_natCast, List.drop_zero]
   rw [List.take_append_of_le_length (by simp; omega), List.take_take, Nat.min_self, ← List.map_take, hk]
  simp [ix, wZ, J1, c1, w, y4, g1, jS, hi2, hi3, sl, kds]
theorem zae {l : List Kid} {v : AV} (h : Sl 3 (l.map Kid.v) v) (hl : l.length ≤ 900000) {now : Int} (hn : -4000000000000 ≤ now ∧ now ≤ 4000000000000) (hh : ∀ x ∈ l, -4000000000000 ≤ x.heard ∧ x.heard ≤ 4000000000000) : zf (za P1) 39 [v, .int .i64 now] Q = some (kds (outs (fun x => decide (20 < now - x.heard)) l), Q) := by
 have cl := fun (Q : z3) => z4e (Q := Q) h (by omega)
 have df := fun (Q : z3) => zfL (Q := Q) (l := l) (f := fun x => decide (20 < IntKind.i64.wrap (now - x.heard))) (c := 67) (cp := [.cp [.int .i64 now] 0]) (by decide) (fun x Q => by rw [YM, z17 rfl]; simp) hl
 have e : outs (fun x => decide (20 < IntKind.i64.wrap (now - x.heard))) l = outs (fun x => decide (20 < now - x.heard)) l := by
  unfold outs
  refine List.filter_congr fun x hx => ?_
  have := hh x hx
  have w := w64 (i := now - x.heard) (by omega) (by omega)
  show (!decide (20 < IntKind.i64.wrap (now - x.heard))) = _
  rw [w]
 rw [e] at df
 simp only [Nat.reduceAdd] at df
 rw [z3r rfl]
 simp [cl, df, kds]
end
end Go.Proofs.Ytdbbdfmkglgjdaa.Pi

/- The document's answer, on. -/
import Derived.Test.YtdbbdfmkglgjdaaPcTieD
set_option linter.unusedVariables false
set_option linter.unusedSimpArgs false
namespace Go.Proofs.Ytdbbdfmkglgjdaa.Pi
open Go.Ab Go.Feed Go.Kids Go.Tie
set_option maxRecDepth 100000
section
variable {Q:z3} {t:Tie} {ms:List Msg} {pv kv:AV}
theorem z6R (hp:Sl 1 (ints t.path) pv) (hk:Sl 3 (t.kids.map Kid.v) kv) {k:Nat} (hb:Bd t k) (hk':k≤40000) {m:Msg} (hmb:Mb m) (hf:m.frm≠0) {v:AV} (hv:Sl 1 (ints m.path) v):∃ pv' kv',Sl 1 (ints (accept t m).1.path) pv'∧Sl 3 ((accept t m).1.kids.map Kid.v) kv'∧zc (z6 P1) 57 [Tv t pv kv,Mv m v] Q=some (.tup [Tv (accept t m).1 pv' kv',Mz (accept t m).2],Q):=by
 have hw:=hb.step
 have hn:=hb.now
 have ha:=hmb.age
 have w1:=w64 (i:=t.step+1) (by omega) (by omega)
 have w2:=w64 (i:=t.now - m.age) (by omega) (by omega)
 have ad:=fun Q=>JP (Q:=Q) hv (by have:=hmb.path;omega) t.id
 have gr:=fun Q=>z7E (Q:=Q) hv (by have:=hmb.path;omega)
 have ve:=KM t m.frm 0 (kind:=6) (by decide)
 have sy:=fun Q=>KN (Q:=Q) hp hk 6 m.frm
 unfold accept
 rw [Qr rfl]
 by_cases c:t.asked=m.frm∧t.parent=0
 ·rw [if_neg (by simp [c.1,c.2])]
  obtain⟨c1,c2⟩:=c
  have c1':=eq_true c1
  have c2':=eq_true c2
  have c3':(t.asked=0)=False:=eq_false (by rw [c1];exact hf)
  generalize m.path++[t.id]=P at *
  by_cases c3:kj P
  ·simp only [if_pos c3] at ad
   by_cases c4:m.age≤20
   ·rw [if_neg (by rintro (c | c);exact c c3;omega)]
    have c4':¬ 20 < m.age:=by omega
    refine⟨.fz 1 (ints P),kv,Sl.fz _ _,hk,?_⟩
    simp [hp.one,hk.one,hv.one,c1',c2',c3',ad,c4',gr,w2]
   ·rw [if_pos (Or.inr (by omega))]
    have c4':20 < m.age:=by omega
    have sy2:=fun Q=>KN (Q:=Q) (t:={ t with asked:=0,step:=t.step+1 }) (pv:=pv) (kv:=kv) hp hk 6 m.frm
    refine⟨pv,kv,hp,hk,?_⟩
    simp [hp.one,hk.one,hv.one,c1',c2',c3',ad,c4',sy2,w1,ve]
  ·rw [if_pos (Or.inl c3)]
   simp only [if_neg c3] at ad
   have sy2:=fun Q=>KN (Q:=Q) (t:={ t with asked:=0,step:=t.step+1 }) (pv:=pv) (kv:=kv) hp hk 6 m.frm
   refine⟨pv,kv,hp,hk,?_⟩
   simp [hp.one,hk.one,hv.one,c1',c2',c3',ad,sy2,w1,ve]
 ·rw [if_pos (by
   by_cases c1:t.asked=m.frm
   ·exact Or.inr fun c2=>c ⟨c1,c2⟩
   ·exact Or.inl c1)]
  refine⟨pv,kv,hp,hk,?_⟩
  rcases em2 (m.frm=t.parent) with c3 | c3
  ·have c2:(t.parent=0)=False:=eq_false (by rw [← of_eq_true c3];exact hf)
   rw [if_neg (fun x=>x (of_eq_true c3).symm)]
   simp [hp.one,hk.one,hv.one,c2,c3]
  ·rw [if_pos (fun x=>of_eq_false c3 x.symm)]
   simp only [List.map_singleton,ve]
   rcases em2 (t.asked=0) with c4 | c4
   ·rcases em2 (t.parent=0) with c2 | c2
    ·simp [hp.one,hk.one,hv.one,c2,c3,c4,sy,ve]
    ·simp [hp.one,hk.one,hv.one,c2,c3,c4,sy,ve]
   ·rcases em2 (t.asked=m.frm) with c1 | c1
    ·rcases em2 (t.parent=0) with c2 | c2
     ·exact absurd ⟨of_eq_true c1,of_eq_true c2⟩ c
     ·simp [hp.one,hk.one,hv.one,c1,c2,c3,c4,sy,ve]
    ·rcases em2 (t.parent=0) with c2 | c2
     ·simp [hp.one,hk.one,hv.one,c1,c2,c3,c4,sy,ve]
     ·simp [hp.one,hk.one,hv.one,c1,c2,c3,c4,sy,ve]
def zes (Q:z3) (t:Tie) (pv kv:AV) (m:Msg) (v:AV) (lo:Int) (g:Tie × List Msg):Prop :=
 ∃ pv' kv',Sl 1 (ints g.1.path) pv'∧Sl 3 (g.1.kids.map Kid.v) kv'∧z5 (zc (z6 P1)) (zi (z6 P1)) qk [(2,.v (.int .i64 lo)),(3,.lp 3 0),(4,.lp 4 0),(6,.lp 6 0)] [(3,.cells [.int .i64 t.id,.int .i64 t.inc,.int .i64 t.now,.int .i64 t.parent,.int .i64 t.pinc,.int .i64 t.grand,pv,.int .i64 t.epoch,.int .i64 t.born,.int .i64 t.asked,.int .i64 t.till,.int .i64 t.step,kv]),(4,.cells [.int .i64 m.kind,.int .i64 m.frm,.int .i64 m.to,.int .i64 m.inc,.int .i64 m.epoch,.int .i64 m.age,v,.int .i64 m.lo,.int .i64 m.hi,.str m.text]),(6,.cells [.int .i64 0,.int .i64 0,.int .i64 0,.int .i64 0,.int .i64 0,.int .i64 0,.nils,.int .i64 0,.int .i64 0,.int .i64 0,.int .i64 0,.int .i64 0,.nils])] Q (zp [.cell 6 (some 13),.tmp 7] [.n,.f 10])=some (.tup [Tv g.1 pv' kv',Mz g.2],Q)
theorem z5b (hp : Sl 1 (ints t.path) pv) (hk : Sl 3 (t.kids.map Kid.v) kv) {k : Nat} (hb : Bd t k) (hk' : k ≤ 30000) (hi : t.parent = 0 ∨ t.asked = 0) {m : Msg} (hmb : Mb m) (hf : m.frm ≠ 0) {v : AV} (hv : Sl 1 (ints m.path) v) (lo : Int) : zes Q t pv kv m v lo (comesK t m lo) := by
  have hw := hb.step
  have hn := hb.now
  have ha := hmb.age
  have w1 := w64 (i := t.step + 1) (by omega) (by omega)
  have w2 := w64 (i := t.now - m.age) (by omega) (by omega)
  have ve3 := KM t m.frm 0 (kind := 3) (by decide)
  have ve6 := KM t m.frm 0 (kind := 6) (by decide)
  have sy := fun Q kind => KN (Q := Q) hp hk kind m.frm
  have fi := fun Q => z7z (Q := Q) hk (by have := hb.kids; omega) m.frm
  have he := fun Q => zbk (Q := Q) hk (by have := hb.kids; omega) hb.ks ⟨m.frm, m.inc, t.now⟩
  simp only [wg] at fi
  simp only [kds] at he
  have up : ∃ b, b = decide (m.frm = t.parent) ∧ ((t.parent = 0) = True ∧ b = false ∨ (t.parent = 0) = False ∧ (m.frm = t.parent) = (b = true)) := by
    refine ⟨_, rfl, ?_⟩
    rcases em2 (t.parent = 0) with c | c
    · exact Or.inl ⟨c, decide_eq_false (by rw [of_eq_true c]; exact hf)⟩
    · exact Or.inr ⟨c, by simp⟩
  obtain ⟨u, hu, hup⟩ := up
  have upE : ∀ {β : Type} (f : AV → Option β), (bnP (z9 .neq (.int .i64 t.parent) (.int .i64 0)) fun w55_1 => bnP (gdQ w55_1 true (some (.int .i64 m.frm))) fun w58_2 => bnP (gdQ w55_1 true (some (.int .i64 t.parent))) fun w60_3 => bnP (gdQ w55_1 true (z9 .eql w58_2 w60_3)) fun w61_4 => bnP (zF w55_1 w61_4 (.bool false)) f) = f (.bool u) := fun f => by
    rcases hup with ⟨h1, rfl⟩ | ⟨h1, h2⟩
    · simp [h1]
    · cases u with
      | true => have h2 : (m.frm = t.parent) = True := by rw [h2]; simp
                simp [h1, h2]
      | false => have h2 : (m.frm = t.parent) = False := by rw [h2]; simp
                 simp [h1, h2]
  unfold comesK zes
  rw [QS, upE]
  clear upE
  rcases em2 (m.kind = 1) with c1 | c1
  · rw [if_pos (of_eq_true c1)]
    have fr := fun Q => z44 (Q := Q) hp hk hb (by omega)
    have hs := fun Q => zbZ (Q := Q) hp (by have := hb.path; omega) m.frm
    unfold attach
    have bno : ∀ (hr : ¬ z26 t m.frm), (if z26 t m.frm then (hears t m, [full (hears t m) 2 m.frm lo]) else (t, [says t 3 m.frm 0])) = (t, [says t 3 m.frm 0]) := fun hr => if_neg hr
    by_cases c2 : jq t
    · rw [decide_eq_true c2] at fr
      by_cases c3 : m.frm ∈ t.path
      · rw [decide_eq_true c3] at hs
        rw [bno (fun c => c.2.1 c3)]
        refine ⟨pv, kv, hp, hk, ?_⟩
        simp only [Mz, List.map_singleton, ve3]
        rcases Bool.eq_false_or_eq_true (x6 t.kids m.frm).isSome with c4 | c4 <;> rw [c4] at fi <;> rcases em2 (t.id = 1) with c5 | c5 <;> simp [hp.one, hk.one, hv.one, c1, fi, c5, fr, hs, sy, ye]
      · rw [decide_eq_false c3] at hs
        by_cases hr : z26 t m.frm
        · rw [if_pos hr]
          have fu := fun Q => za5 (Q := Q) (t := hears t m) (pv := pv) (kv := kds (hears t m).kids) hp (Sl.fz _ _) (hb.hears m) (by omega) (kind := 2) m.frm (Or.inl rfl)
          have vf := z1U (hears t m) m.frm 0 (kind := 2) (Or.inl rfl)
          have vf2 := z1U (hears t m) m.frm lo (kind := 2) (Or.inl rfl)
          rw [vf] at fu
          refine ⟨pv, kds (hears t m).kids, hp, Sl.fz _ _, ?_⟩
          simp only [Mz, List.map_singleton, vf2]
          simp only [hears, kds] at fu ⊢
          rcases Bool.eq_false_or_eq_true (x6 t.kids m.frm).isSome with c4 | c4
          · rw [c4] at fi
            rcases em2 (t.id = 1) with c5 | c5 <;> simp [hp.one, hk.one, hv.one, c1, fi, c5, fr, hs, he, fu, ye]
          · have c6 : (t.kids.length : Int) < z5E t := by
              rcases hr.2.2 with c | c
              · rw [c4] at c; cases c
              · exact c
            rw [c4] at fi
            unfold z5E at c6
            rcases em2 (t.id = 1) with c5 | c5
            · rw [if_pos (of_eq_true c5)] at c6
              have c7 : ((8 : Int) ≤ t.kids.length) = False := eq_false (by omega)
              simp [hp.one, hk.one, hv.one, c1, fi, c5, fr, hs, hk.len, c7, he, fu, ye]
            · rw [if_neg (of_eq_false c5)] at c6
              have c7 : ((3 : Int) ≤ t.kids.length) = False := eq_false (by omega)
              simp [hp.one, hk.one, hv.one, c1, fi, c5, fr, hs, hk.len, c7, he, fu, ye]
        · rw [bno hr]
          refine ⟨pv, kv, hp, hk, ?_⟩
          simp only [Mz, List.map_singleton, ve3]
          have c4 : (x6 t.kids m.frm).isSome = false := by
            rcases Bool.eq_false_or_eq_true (x6 t.kids m.frm).isSome with c | c
            · exact absurd ⟨c2, c3, Or.inl c⟩ hr
            · exact c
          have c6 : ¬ (t.kids.length : Int) < z5E t := fun c => hr ⟨c2, c3, Or.inr c⟩
          rw [c4] at fi
          unfold z5E at c6
          rcases em2 (t.id = 1) with c5 | c5
          · rw [if_pos (of_eq_true c5)] at c6
            have c7 : ((8 : Int) ≤ t.kids.length) = True := eq_true (by omega)
            simp [hp.one, hk.one, hv.one, c1, fi, c5, fr, hs, hk.len, c7, sy, ye]
          · rw [if_neg (of_eq_false c5)] at c6
            have c7 : ((3 : Int) ≤ t.kids.length) = True := eq_true (by omega)
            simp [hp.one, hk.one, hv.one, c1, fi, c5, fr, hs, hk.len, c7, sy, ye]
    · rw [decide_eq_false c2] at fr
      rw [bno (fun c => c2 c.1)]
      refine ⟨pv, kv, hp, hk, ?_⟩
      simp only [Mz, List.map_singleton, ve3]
      rcases Bool.eq_false_or_eq_true (x6 t.kids m.frm).isSome with c4 | c4 <;> rw [c4] at fi <;> rcases em2 (t.id = 1) with c5 | c5 <;> simp [hp.one, hk.one, hv.one, c1, fi, c5, fr, sy, ye]
  rw [if_neg (of_eq_false c1)]
  rcases em2 (m.kind = 2) with c2 | c2
  · rw [if_pos (of_eq_true c2)]
    obtain ⟨pv', kv', h1, h2, e⟩ := z6R (Q := Q) hp hk hb (by omega) hmb hf hv
    refine ⟨pv', kv', h1, h2, ?_⟩
    simp [c1, c2, e, h1.one, h2.one]
  rw [if_neg (of_eq_false c2)]
  rcases em2 (m.kind = 3) with c3 | c3
  · rw [if_pos (of_eq_true c3)]
    unfold refuse
    rcases em2 (m.frm = t.asked) with c4 | c4
    · rw [if_pos (of_eq_true c4)]
      have ca : (t.asked = 0) = False := eq_false (by rw [← of_eq_true c4]; exact hf)
      have cp : t.parent = 0 := hi.resolve_right (of_eq_false ca)
      have c4' := eq_true (of_eq_true c4).symm
      have uf : u = false := by rw [hu]; exact decide_eq_false (by rw [cp]; exact hf)
      subst uf
      refine ⟨pv, kv, hp, hk, ?_⟩
      simp [hp.one, hk.one, hv.one, c1, c2, c3, c4', ca, w1, jJ, zX]
    · rw [if_neg (of_eq_false c4)]
      have c4' : (t.asked = m.frm) = False := eq_false fun x => of_eq_false c4 x.symm
      rcases em2 (m.frm = t.parent) with c5 | c5
      · rw [if_pos (of_eq_true c5)]
        have of_ := fun Q => z7D (Q := Q) hp hk 0
        have ut : u = true := by rw [hu]; exact decide_eq_true (of_eq_true c5)
        subst ut
        refine ⟨.nils, kv, Sl.nil 1, hk, ?_⟩
        simp only [lets] at of_ ⊢
        rcases em2 (t.asked = 0) with ca | ca <;> simp [hp.one, hk.one, hv.one, c1, c2, c3, c4', ca, of_, jJ, zX]
      · rw [if_neg (of_eq_false c5)]
        have uf : u = false := by rw [hu]; exact decide_eq_false (of_eq_false c5)
        subst uf
        refine ⟨pv, kv, hp, hk, ?_⟩
        rcases em2 (t.asked = 0) with ca | ca <;> simp [hp.one, hk.one, hv.one, c1, c2, c3, c4', ca, jJ, zX]
  rw [if_neg (of_eq_false c3)]
  rcases em2 (m.kind = 4) with c4 | c4
  · rw [if_pos (of_eq_true c4)]
    unfold beatUp
    rcases Bool.eq_false_or_eq_true (x6 t.kids m.frm).isSome with c | c
    · rw [if_pos c]
      rw [c] at fi
      refine ⟨pv, kds (hears t m).kids, hp, Sl.fz _ _, ?_⟩
      simp only [hears, kds]
      simp [hp.one, hk.one, hv.one, c1, c2, c3, c4, fi, he, zX]
    · rw [if_neg (by rw [c]; decide)]
      rw [c] at fi
      refine ⟨pv, kv, hp, hk, ?_⟩
      simp only [Mz, List.map_singleton, ve3]
      simp [hp.one, hk.one, hv.one, c1, c2, c3, c4, fi, sy]
  rw [if_neg (of_eq_false c4)]
  rcases em2 (m.kind = 5) with c5 | c5
  · rw [if_pos (of_eq_true c5)]
    unfold beatDn
    rcases em2 (m.frm = t.parent) with c6 | c6
    · have ut : u = true := by rw [hu]; exact decide_eq_true (of_eq_true c6)
      subst ut
      rw [if_neg (fun x => x (of_eq_true c6))]
      have ad := fun Q => JP (Q := Q) hv (by have := hmb.path; omega) t.id
      have gr := fun Q => z7E (Q := Q) hv (by have := hmb.path; omega)
      generalize m.path ++ [t.id] = P at *
      by_cases c7 : kj P
      · simp only [if_pos c7] at ad
        rw [if_neg (fun x => x c7)]
        unfold z0Y
        rcases em2 (t.born < t.now - m.age) with c8 | c8
        · rw [if_pos (show (way t m P).born < (way t m P).now - m.age from of_eq_true c8)]
          refine ⟨.fz 1 (ints P), kv, Sl.fz _ _, hk, ?_⟩
          simp only [way]
          simp [hp.one, hk.one, hv.one, c1, c2, c3, c4, c5, ad, gr, w2, c8, zX]
        · rw [if_neg (show ¬ (way t m P).born < (way t m P).now - m.age from of_eq_false c8)]
          refine ⟨.fz 1 (ints P), kv, Sl.fz _ _, hk, ?_⟩
          simp only [way]
          simp [hp.one, hk.one, hv.one, c1, c2, c3, c4, c5, ad, gr, w2, c8, zX]
      · simp only [if_neg c7] at ad
        rw [if_pos c7]
        have of_ := fun Q => z7D (Q := Q) hp hk 1
        refine ⟨.nils, kv, Sl.nil 1, hk, ?_⟩
        simp only [Mz, List.map_singleton, ve6]
        simp only [lets] at of_ ⊢
        simp [hp.one, hk.one, hv.one, c1, c2, c3, c4, c5, ad, of_, sy]
    · have uf : u = false := by rw [hu]; exact decide_eq_false (of_eq_false c6)
      subst uf
      rw [if_pos (of_eq_false c6)]
      refine ⟨pv, kv, hp, hk, ?_⟩
      simp only [Mz, List.map_singleton, ve6]
      simp [hp.one, hk.one, hv.one, c1, c2, c3, c4, c5, sy]
  rw [if_neg (of_eq_false c5)]
  rcases em2 (m.kind = 6) with c6 | c6
  · rw [if_pos (of_eq_true c6)]
    have dr := fun Q => z7A (Q := Q) hk (by have := hb.kids; omega) m.frm
    refine ⟨pv, kds (detach t m).kids, hp, Sl.fz _ _, ?_⟩
    simp only [detach, kds]
    simp [hp.one, hk.one, hv.one, c1, c2, c3, c4, c5, c6, dr, zX]
  rw [if_neg (of_eq_false c6)]
  refine ⟨pv, kv, hp, hk, ?_⟩
  simp [hp.one, hk.one, hv.one, c1, c2, c3, c4, c5, c6, zX]
theorem zbq (hp:Sl 1 (ints t.path) pv) (hk:Sl 3 (t.kids.map Kid.v) kv) {k:Nat} (hb:Bd t k) (hk':k≤20000) (hi:t.parent=0∨t.asked=0) {m:Msg} (hmb:Mb m) (hf:m.frm≠0) {v:AV} (hv:Sl 1 (ints m.path) v) (lo:Int):∃ pv' kv',Sl 1 (ints (comes t m lo).1.path) pv'∧Sl 3 ((comes t m lo).1.kids.map Kid.v) kv'∧zc (z6 P1) 23 [Tv t pv kv,Mv m v,.int .i64 lo] Q=some (.tup [Tv (comes t m lo).1 pv' kv',Mz (comes t m lo).2],Q):=by
 have ol:∀ Q,zc (z6 P1) 55 [kv,.int .i64 m.frm,.int .i64 m.inc] Q=some (.bool (z2W t.kids m.frm m.inc),Q):=fun Q=>z9W hk (by have:=hb.kids;omega) m.frm m.inc
 have of_:=fun Q=>z7D (Q:=Q) hp hk 0
 unfold comes
 rw [Ke rfl]
 rcases Bool.eq_false_or_eq_true (z2W t.kids m.frm m.inc) with co1 | co1
 ·rw [if_pos (Or.inl co1)]
  rw [co1] at ol
  refine⟨pv,kv,hp,hk,?_⟩
  simp [hp.one,hk.one,hv.one,ol]
 ·rw [co1] at ol
  by_cases co2:m.frm=t.parent∧m.inc < t.pinc
  ·rw [if_pos (Or.inr co2)]
   have c1:=eq_true co2.1
   have c2:=eq_true co2.2
   refine⟨pv,kv,hp,hk,?_⟩
   simp [hp.one,hk.one,hv.one,ol,c1,c2]
  ·rw [if_neg (by rintro (c | c);rw [co1] at c;cases c;exact co2 c)]
   by_cases co3:m.frm=t.parent∧t.pinc < m.inc
   ·have eg:gone t m=lets t 0:=if_pos ⟨by rw [← co3.1];exact hf,co3⟩
    rw [eg]
    obtain⟨pv',kv',h1,h2,e⟩:=z5b (Q:=Q) (t:=lets t 0) (pv:=.nils) (kv:=kv) (Sl.nil 1) hk (hb.lets (by omega)) (by omega) (Or.inl rfl) hmb hf hv lo
    refine⟨pv',kv',h1,h2,?_⟩
    have c2:=eq_true co3.1
    have c3:=eq_true co3.2
    have c4:(m.inc < t.pinc)=False:=eq_false (by have:=co3.2;omega)
    rw [← e]
    simp only [lets] at of_ ⊢
    simp [hp.one,hk.one,hv.one,ol,c2,c3,c4,of_]
   ·have eg:gone t m=t:=if_neg (fun c=>co3 c.2)
    rw [eg]
    obtain⟨pv',kv',h1,h2,e⟩:=z5b (Q:=Q) hp hk hb (by omega) hi hmb hf hv lo
    refine⟨pv',kv',h1,h2,?_⟩
    rw [← e]
    rcases em2 (m.frm=t.parent) with c2 | c2
    ·have c4:(m.inc < t.pinc)=False:=eq_false fun c=>co2 ⟨of_eq_true c2,c⟩
     have c3:(t.pinc < m.inc)=False:=eq_false fun c=>co3 ⟨of_eq_true c2,c⟩
     simp [hp.one,hk.one,hv.one,ol,c2,c3,c4]
    ·simp [hp.one,hk.one,hv.one,ol,c2]
end
end Go.Proofs.Ytdbbdfmkglgjdaa.Pi

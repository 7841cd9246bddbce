/- The player of a day in memory. No condition beyond each law's own; nothing of the program. -/
import Derived.Test.YtjjglonmaajjoaaPdr
namespace Go.Proofs.Ytjjglonmaajjoaa.AX
open Go
set_option maxRecDepth 10000
set_option maxHeartbeats 4000000
set_option linter.unusedSimpArgs false
set_option linter.unusedVariables false
def sl1 (a L : Nat) : Value := .slice (some ⟨a, 0, none⟩) L 1
def fB (b : Bool) : List Value := [.bool b]
def plC (n : Int) (v w : Value) (L E a b c t : Nat) (R : Value) (m : Int) : List Value := [.int .i64 n, v, w, sl1 a L, sl1 b L, sl1 c L, sl1 t E, R, .int .i64 m]
section
variable {α : Type} {f : α → List Value} {H H1 : Heap} {a L i : Nat} {xs : List α} {x : Value} {y : α}
theorem ix1 {k : IntKind} (hi : i < L) : vidx H1 1 (sl1 a L) (.int k (i : Int)) = some (adr (sl1 a L) i 1 0, H1) := by
  have e : ((i : Int)).toNat = i := Int.toNat_natCast i
  simp only [adr, sl1, vidx, e]
  have hc : True ∧ 0 ≤ (i : Int) ∧ (i : Int) < (L : Int) := ⟨trivial, by omega, by omega⟩
  rw [if_pos hc]
  rfl
theorem tr1 {ix o : Nat} : trL ix (adr (sl1 a L) i 1 o) = [.L ix a] := rfl
theorem ld1 {v : Value} (hg : H.get a = some (.own (fcells f xs))) (hl : ∀ y, (f y).length = 1) (hi : i < xs.length) (hv : f xs[i] = [v]) (hc : lkC H (some v) = some (v, H)) : vld1 H (adr (sl1 a L) i 1 0) = some (v, H) := by
  simp only [adr, sl1, Zcl, hg, Zcm]
  have e : (fcells f xs)[0 + i * 1 + 0]? = some v := by
    rw [show 0 + i * 1 + 0 = i by omega]
    clear hg
    induction xs generalizing i with
    | nil => simp at hi
    | cons z xs ih =>
      rw [fcells_cons]
      obtain ⟨z0, hz⟩ := List.length_eq_one_iff.1 (hl z)
      cases i with
      | zero =>
        simp only [List.getElem_cons_zero] at hv
        rw [hv]; rfl
      | succ i =>
        rw [hz]
        simp only [List.cons_append, List.nil_append, List.getElem?_cons_succ]
        exact ih (by simpa using hi) (by simpa using hv)
  rw [e, hc]
theorem st1 (hg : H.get a = some (.own (fcells f xs))) (hl : ∀ y, (f y).length = 1) (hx : noTup x = true) (hv : vcells x = f y) (hi : i < xs.length) : vst H 1 x (adr (sl1 a L) i 1 0) = some (undef, H.set a (fcells f (xs.set i y))) := by
  simp only [adr, sl1, Zcq, hg]
  rw [show 0 + i * 1 + 0 = i * 1 by omega]
  exact stO_elem hl hx hv hi
end
structure PH (H0 H : Heap) (n : Int) (v w : Value) (L E q a b c t : Nat) (P : Ps) : Prop where
  hk : Keep H0 H
  hq : ∃ R F, H.get q = some (.own (plC n v w L E a b c t R P.pw)) ∧ (rSlc rRun).own H [R] P.ps F ∧ F.Nodup ∧ ∀ x, x ∈ F → H0.nxt ≤ x ∧ x < H.nxt ∧ x ≠ q ∧ x ≠ a ∧ x ≠ b ∧ x ≠ c ∧ x ≠ t
  ha : H.get a = some (.own (fcells (fZ .i64) (zs P.pa)))
  hb : H.get b = some (.own (fcells (fZ .i64) P.pr))
  hc : H.get c = some (.own (fcells (fZ .i64) P.pe))
  ht : H.get t = some (.own (fcells fB P.pt))
  la : P.pa.length = L
  lb : P.pr.length = L
  lc : P.pe.length = L
  lt : P.pt.length = E
  hn : (H0.nxt ≤ q ∧ q < H.nxt) ∧ (H0.nxt ≤ a ∧ a < H.nxt) ∧ (H0.nxt ≤ b ∧ b < H.nxt) ∧ (H0.nxt ≤ c ∧ c < H.nxt) ∧ (H0.nxt ≤ t ∧ t < H.nxt)
  hd : q ≠ a ∧ q ≠ b ∧ q ≠ c ∧ q ≠ t ∧ a ≠ b ∧ a ≠ c ∧ a ≠ t ∧ b ≠ c ∧ b ≠ t ∧ c ≠ t
section
variable {H0 H H2 : Heap} {n : Int} {v w : Value} {L E q a b c t i : Nat} {P : Ps}
theorem PH.keep (h : PH H0 H n v w L E q a b c t P) (k : Keep H H2) : PH H0 H2 n v w L E q a b c t P := by
  obtain ⟨⟨q1, q2⟩, ⟨a1, a2⟩, ⟨b1, b2⟩, ⟨c1, c2⟩, ⟨t1, t2⟩⟩ := h.hn
  obtain ⟨R, F, e1, e2, e3, e4⟩ := h.hq
  have kn := k.nxt
  exact ⟨h.hk.trans k, ⟨R, F, (k.get q q2).trans e1, (rSlc rRun).ownk e2 kn (fun x hx => k.get x (e4 x hx).2.1), e3, fun x hx => by have := e4 x hx; exact ⟨this.1, by omega, this.2.2⟩⟩, (k.get a a2).trans h.ha, (k.get b b2).trans h.hb, (k.get c c2).trans h.hc, (k.get t t2).trans h.ht, h.la, h.lb, h.lc, h.lt, ⟨⟨q1, by omega⟩, ⟨a1, by omega⟩, ⟨b1, by omega⟩, ⟨c1, by omega⟩, ⟨t1, by omega⟩⟩, h.hd⟩
theorem PH.ldA (h : PH H0 H n v w L E q a b c t P) (hi : i < L) : vld1 H (adr (sl1 a L) i 1 0) = some (.int .i64 (gn P.pa i), H) := by
  have hl := h.la
  have hz : i < (zs P.pa).length := by rw [zs_len]; omega
  exact ld1 h.ha (fZ_len .i64) hz (by rw [← zs_get, getD_get _ _ hz]; rfl) rfl
theorem PH.ldR (h : PH H0 H n v w L E q a b c t P) (hi : i < L) : vld1 H (adr (sl1 b L) i 1 0) = some (.int .i64 (gi P.pr i), H) := by
  have hl := h.lb
  have hz : i < P.pr.length := by omega
  exact ld1 h.hb (fZ_len .i64) hz (by rw [gi, getD_get _ _ hz]; rfl) rfl
theorem PH.ldE (h : PH H0 H n v w L E q a b c t P) (hi : i < L) : vld1 H (adr (sl1 c L) i 1 0) = some (.int .i64 (gi P.pe i), H) := by
  have hl := h.lc
  have hz : i < P.pe.length := by omega
  exact ld1 h.hc (fZ_len .i64) hz (by rw [gi, getD_get _ _ hz]; rfl) rfl
theorem PH.ldT (h : PH H0 H n v w L E q a b c t P) (hi : i < E) : vld1 H (adr (sl1 t E) i 1 0) = some (.bool (gb P.pt i), H) := by
  have hl := h.lt
  have hz : i < P.pt.length := by omega
  exact ld1 h.ht (fun _ => rfl) hz (by rw [gb, getD_get _ _ hz]; rfl) rfl
theorem PH.stA (h : PH H0 H n v w L E q a b c t P) (hi : i < L) (x : Nat) : ∃ H2, vst H 1 (.int .i64 (x : Int)) (adr (sl1 a L) i 1 0) = some (undef, H2) ∧ PH H0 H2 n v w L E q a b c t { P with pa := P.pa.set i x } ∧ H2.nxt = H.nxt ∧ ∀ z, z ≠ a → H2.get z = H.get z := by
  have hl := h.la
  obtain ⟨d1, d2, d3, d4, d5, d6, d7, d8, d9, d10⟩ := h.hd
  obtain ⟨R, F, e1, e2, e3, e4⟩ := h.hq
  have hg : ∀ cs z, z ≠ a → (H.set a cs).get z = H.get z := fun cs z hz => by rw [Zbi, if_neg (by omega)]
  refine ⟨_, st1 (y := (x : Int)) h.ha (fZ_len .i64) rfl rfl (by rw [zs_len]; omega), ⟨h.hk.set' h.hn.2.1.1, ⟨R, F, (hg _ q d1).trans e1, (rSlc rRun).ownk e2 (by rw [Zbh]; exact Nat.le_refl _) (fun y hy => hg _ y (e4 y hy).2.2.2.1), e3, by rw [Zbh]; exact e4⟩, by rw [Zbi, if_pos rfl, zs_set], (hg _ b (by omega)).trans h.hb, (hg _ c (by omega)).trans h.hc, (hg _ t (by omega)).trans h.ht, by simp only [List.length_set]; exact hl, h.lb, h.lc, h.lt, by rw [Zbh]; exact h.hn, h.hd⟩, Zbh .., hg _⟩
theorem PH.stR (h : PH H0 H n v w L E q a b c t P) (hi : i < L) (x : Int) : ∃ H2, vst H 1 (.int .i64 x) (adr (sl1 b L) i 1 0) = some (undef, H2) ∧ PH H0 H2 n v w L E q a b c t { P with pr := P.pr.set i x } ∧ H2.nxt = H.nxt ∧ ∀ z, z ≠ b → H2.get z = H.get z := by
  have hl := h.lb
  obtain ⟨d1, d2, d3, d4, d5, d6, d7, d8, d9, d10⟩ := h.hd
  obtain ⟨R, F, e1, e2, e3, e4⟩ := h.hq
  have hg : ∀ cs z, z ≠ b → (H.set b cs).get z = H.get z := fun cs z hz => by rw [Zbi, if_neg (by omega)]
  refine ⟨_, st1 (y := x) h.hb (fZ_len .i64) rfl rfl (by omega), ⟨h.hk.set' h.hn.2.2.1.1, ⟨R, F, (hg _ q d2).trans e1, (rSlc rRun).ownk e2 (by rw [Zbh]; exact Nat.le_refl _) (fun y hy => hg _ y (e4 y hy).2.2.2.2.1), e3, by rw [Zbh]; exact e4⟩, (hg _ a (by omega)).trans h.ha, by rw [Zbi, if_pos rfl], (hg _ c (by omega)).trans h.hc, (hg _ t (by omega)).trans h.ht, h.la, by simp only [List.length_set]; exact hl, h.lc, h.lt, by rw [Zbh]; exact h.hn, h.hd⟩, Zbh .., hg _⟩
theorem PH.stE (h : PH H0 H n v w L E q a b c t P) (hi : i < L) (x : Int) : ∃ H2, vst H 1 (.int .i64 x) (adr (sl1 c L) i 1 0) = some (undef, H2) ∧ PH H0 H2 n v w L E q a b c t { P with pe := P.pe.set i x } ∧ H2.nxt = H.nxt ∧ ∀ z, z ≠ c → H2.get z = H.get z := by
  have hl := h.lc
  obtain ⟨d1, d2, d3, d4, d5, d6, d7, d8, d9, d10⟩ := h.hd
  obtain ⟨R, F, e1, e2, e3, e4⟩ := h.hq
  have hg : ∀ cs z, z ≠ c → (H.set c cs).get z = H.get z := fun cs z hz => by rw [Zbi, if_neg (by omega)]
  refine ⟨_, st1 (y := x) h.hc (fZ_len .i64) rfl rfl (by omega), ⟨h.hk.set' h.hn.2.2.2.1.1, ⟨R, F, (hg _ q d3).trans e1, (rSlc rRun).ownk e2 (by rw [Zbh]; exact Nat.le_refl _) (fun y hy => hg _ y (e4 y hy).2.2.2.2.2.1), e3, by rw [Zbh]; exact e4⟩, (hg _ a (by omega)).trans h.ha, (hg _ b (by omega)).trans h.hb, by rw [Zbi, if_pos rfl], (hg _ t (by omega)).trans h.ht, h.la, h.lb, by simp only [List.length_set]; exact hl, h.lt, by rw [Zbh]; exact h.hn, h.hd⟩, Zbh .., hg _⟩
theorem PH.stT (h : PH H0 H n v w L E q a b c t P) (hi : i < E) (x : Bool) : ∃ H2, vst H 1 (.bool x) (adr (sl1 t E) i 1 0) = some (undef, H2) ∧ PH H0 H2 n v w L E q a b c t { P with pt := P.pt.set i x } ∧ H2.nxt = H.nxt ∧ ∀ z, z ≠ t → H2.get z = H.get z := by
  have hl := h.lt
  obtain ⟨d1, d2, d3, d4, d5, d6, d7, d8, d9, d10⟩ := h.hd
  obtain ⟨R, F, e1, e2, e3, e4⟩ := h.hq
  have hg : ∀ cs z, z ≠ t → (H.set t cs).get z = H.get z := fun cs z hz => by rw [Zbi, if_neg (by omega)]
  refine ⟨_, st1 (y := x) h.ht (fun _ => rfl) rfl rfl (by omega), ⟨h.hk.set' h.hn.2.2.2.2.1, ⟨R, F, (hg _ q d4).trans e1, (rSlc rRun).ownk e2 (by rw [Zbh]; exact Nat.le_refl _) (fun y hy => hg _ y (e4 y hy).2.2.2.2.2.2), e3, by rw [Zbh]; exact e4⟩, (hg _ a (by omega)).trans h.ha, (hg _ b (by omega)).trans h.hb, (hg _ c (by omega)).trans h.hc, by rw [Zbi, if_pos rfl], h.la, h.lb, h.lc, by simp only [List.length_set]; exact hl, by rw [Zbh]; exact h.hn, h.hd⟩, Zbh .., hg _⟩
theorem PH.stW (h : PH H0 H n v w L E q a b c t P) {R : Value} (hR : H.get q = some (.own (plC n v w L E a b c t R P.pw))) (x : Int) : PH H0 (H.set q (plC n v w L E a b c t R x)) n v w L E q a b c t { P with pw := x } := by
  obtain ⟨d1, d2, d3, d4, d5, d6, d7, d8, d9, d10⟩ := h.hd
  obtain ⟨R', F, e1, e2, e3, e4⟩ := h.hq
  have hRR : R' = R := by
    rw [e1] at hR
    simp only [plC, Option.some.injEq, Obj.own.injEq, List.cons.injEq, true_and] at hR
    exact hR.1
  subst hRR
  have hg : ∀ cs z, z ≠ q → (H.set q cs).get z = H.get z := fun cs z hz => by rw [Zbi, if_neg (by omega)]
  exact ⟨h.hk.set' h.hn.1.1, ⟨R', F, by rw [Zbi, if_pos rfl], (rSlc rRun).ownk e2 (by rw [Zbh]; exact Nat.le_refl _) (fun y hy => hg _ y (e4 y hy).2.2.1), e3, by rw [Zbh]; exact e4⟩, (hg _ a (by omega)).trans h.ha, (hg _ b (by omega)).trans h.hb, (hg _ c (by omega)).trans h.hc, (hg _ t (by omega)).trans h.ht, h.la, h.lb, h.lc, h.lt, by rw [Zbh]; exact h.hn, h.hd⟩
/-- A run more. -/
theorem PH.app (h : PH H0 H n v w L E q a b c t P) {R : Value} (hR : H.get q = some (.own (plC n v w L E a b c t R P.pw))) (y : Rn) (hb : P.ps.length ≤ 1000) : ∃ u H2, vapp (H.push (runC y)) 4 32 R (.slice (some ⟨H.nxt, 0, none⟩) 1 4) = some (u, H2) ∧ PH H0 (H2.set q (plC n v w L E a b c t u P.pw)) n v w L E q a b c t { P with ps := P.ps ++ [y] } ∧ H.nxt ≤ H2.nxt ∧ (∃ F, (∀ x, x ∈ F → x ≠ q ∧ x ≠ a ∧ x ≠ b ∧ x ≠ c ∧ x ≠ t) ∧ (∀ x, x ∈ F → H0.nxt ≤ x) ∧ Chg F H H2) ∧ H2.get q = H.get q ∧ noTup u = true ∧ vcells u = [u] := by
  obtain ⟨⟨q1, q2⟩, ⟨a1, a2⟩, ⟨b1, b2⟩, ⟨c1, c2⟩, ⟨t1, t2⟩⟩ := h.hn
  obtain ⟨d1, d2, d3, d4, d5, d6, d7, d8, d9, d10⟩ := h.hd
  obtain ⟨R', F, e1, e2, e3, e4⟩ := h.hq
  have hRR : R' = R := by
    rw [e1] at hR
    simp only [plC, Option.some.injEq, Obj.own.injEq, List.cons.injEq, true_and] at hR
    exact hR.1
  subst hRR
  obtain ⟨u, H2, F2, g1, g2, g3, g4, g5, _⟩ := own_app (bytes := 32) (r := rRun) (sz := 4) rfl (by omega) e2 (row := runC y) (y := y) (G := []) ⟨rfl, rfl⟩ e3 (by simp) (by simp) (by omega)
  have n2 := g3.nxt
  have hF : ∀ z, z = q ∨ z = a ∨ z = b ∨ z = c ∨ z = t → z ∉ F := fun z hz hf => by
    have := e4 z hf
    omega
  have hF2 : ∀ x, x ∈ F2 → H0.nxt ≤ x ∧ x < H2.nxt ∧ x ≠ q ∧ x ≠ a ∧ x ≠ b ∧ x ≠ c ∧ x ≠ t := fun x hx => by
    have kn := h.hk.nxt
    rcases g4 x hx with h1 | h1 | h1
    · have := e4 x h1; exact ⟨this.1, by omega, this.2.2⟩
    · cases h1
    · exact ⟨by omega, by omega, by omega, by omega, by omega, by omega, by omega⟩
  have hg : ∀ cs z, z ≠ q → z < H.nxt → z ∉ F → (H2.set q cs).get z = H.get z := fun cs z hz hz2 hz3 => by rw [Zbi, if_neg (by omega)]; exact g3.get z hz2 hz3
  obtain ⟨x1, x2⟩ := slc_cell ((rSlc rRun).ownrd g2)
  refine ⟨u, H2, g1, ⟨(g3.keep h.hk fun i hi => (e4 i hi).1).set' q1, ⟨u, F2, by rw [Zbi, if_pos rfl], (rSlc rRun).ownk g2 (by rw [Zbh]; exact Nat.le_refl _) (fun z hz => by rw [Zbi, if_neg (by have := hF2 z hz; omega)]), g5, by rw [Zbh]; exact hF2⟩, (hg _ a (by omega) a2 (hF a (by simp))).trans h.ha, (hg _ b (by omega) b2 (hF b (by simp))).trans h.hb, (hg _ c (by omega) c2 (hF c (by simp))).trans h.hc, (hg _ t (by omega) t2 (hF t (by simp))).trans h.ht, h.la, h.lb, h.lc, h.lt, by rw [Zbh]; omega, h.hd⟩, n2, ⟨F, fun x hx => (e4 x hx).2.2, fun x hx => (e4 x hx).1, g3⟩, g3.get q q2 (hF q (by simp)), x2, x1⟩
end
end Go.Proofs.Ytjjglonmaajjoaa.AX

/- The pure statement of the law FnExactCrc8: at every argument within the sizes that the statement names, the printed law answers true after some number of rounds. No condition beyond those of the statement. -/
import Derived.Test.YtdilinjockobaaaPFnExactCrc8x1
import Derived.Test.YtdilinjockobaaaPl
namespace Go.Proofs.Ytdilinjockobaaa.Pure
open Go.RowKit Go.Proofs.Ytdilinjockobaaa.PFnExactCrc8 Go.Proofs.YtdilinjockobaaaW.PrintWords Go.Proofs.YtdilinjockobaaaW.PrintLast Go.Proofs.YtdilinjockobaaaW.PrintMore Go.Proofs.Ytdilinjockobaaa.Pl
set_option linter.unusedVariables false
set_option linter.unusedSimpArgs false
namespace FnExactCrc8
def crcBit (x : Int) : Int := if wrap64 (x * 2) > 255 then Go.bits .xor .i64 (wrap64 (wrap64 (x * 2) - 256)) 7 else wrap64 (x * 2)
def crcBits : Nat → Int → Int
  | 0, x => x
  | n + 1, x => crcBits n (crcBit x)
def crcAll : List Int → Int → Int
  | [], x => x
  | b :: l, x => crcAll l (crcBits 8 (Go.bits .xor .i64 x (wrap64 b)))
theorem ev_spec_crc_l1 (l : List Int) (x : Int) (i : Int) (r : Int) (h : Ev (fun k => spec_Crc8.l0 k l (crcBits 8 x) (wrap64 (i + 1))) r) : Ev (fun k => spec_Crc8.l1 k l x i 0) r := by
  have H : ∀ j, j ≤ 8 → ∀ x, crcBits (8 - j) x = crcBits (8 - j) x → Ev (fun k => spec_Crc8.l0 k l (crcBits (8 - j) x) (wrap64 (i + 1))) r → Ev (fun k => spec_Crc8.l1 k l x i (j : Nat)) r := by
    refine down 8 ?_ ?_
    · intro x _ h
      refine Ev.step (fun k => by rw [spec_Crc8.l1]) ?_
      exact Ev.neg (by omega) h
    · intro j hj ih x _ h
      refine Ev.step (fun k => by rw [spec_Crc8.l1]) ?_
      refine Ev.pos (by omega) ?_
      have e : crcBits (8 - j) x = crcBits (8 - (j + 1)) (crcBit x) := by
        rw [show 8 - j = (8 - (j + 1)) + 1 by omega]; rfl
      rw [e] at h
      rw [w1 (by omega) (by omega)]
      have h' := ih (crcBit x) rfl h
      unfold crcBit at h'
      split at h'
      · rename_i hc
        exact Ev.pos hc h'
      · rename_i hc
        exact Ev.neg hc h'
  exact H 0 (by omega) x rfl h
theorem ev_spec_crc (l : List Int) (hl : l.length ≤ 3000) : Ev (fun k => spec_Crc8.f k l) (crcAll l 0) := by
  unfold spec_Crc8.f
  refine Ev.neg (by omega) ?_
  have H : ∀ i, i ≤ l.length → ∀ x, Ev (fun k => spec_Crc8.l0 k l x (i : Nat)) (crcAll (l.drop i) x) := by
    refine down l.length ?_ ?_
    · intro x
      refine Ev.step (fun k => by rw [spec_Crc8.l0]) ?_
      exact Ev.neg (by omega) (Ev.nowIs (by simp [crcAll]))
    · intro i hi ih x
      refine Ev.step (fun k => by rw [spec_Crc8.l0]) ?_
      refine Ev.pos (by omega) (Ev.pos (by omega) ?_)
      refine ev_spec_crc_l1 l _ _ _ ?_
      rw [w1 (by omega) (by omega), List.drop_eq_getElem_cons hi, rd_lt l i hi]
      exact ih _
  simpa using H 0 (Nat.zero_le _) 0

theorem ev_toByteS (l : List Int) (hl : l.length ≤ 1048576) : Ev (fun k => laws_toByteS.f k l) l := by
  unfold laws_toByteS.f
  refine Ev.pos (by omega) (Ev.pos (by omega) ?_)
  exact Ev.is (copy_loop laws_toByteS.l0 rd l 0 (by omega) (fun k x i => by rw [laws_toByteS.l0])) (copy_int l)

theorem ev_impl_crc_l1 (l : List Int) (x : Int) (i : Int) (r : Int) (h : Ev (fun k => impl_Crc8.l0 k (crcBits 8 x) l l.length (wrap64 (i + 1))) r) : Ev (fun k => impl_Crc8.l1 k x l l.length i 0) r := by
  have H : ∀ j, j ≤ 8 → ∀ x, crcBits (8 - j) x = crcBits (8 - j) x → Ev (fun k => impl_Crc8.l0 k (crcBits (8 - j) x) l l.length (wrap64 (i + 1))) r → Ev (fun k => impl_Crc8.l1 k x l l.length i (j : Nat)) r := by
    refine down 8 ?_ ?_
    · intro x _ h
      refine Ev.step (fun k => by rw [impl_Crc8.l1]) ?_
      exact Ev.neg (by omega) h
    · intro j hj ih x _ h
      refine Ev.step (fun k => by rw [impl_Crc8.l1]) ?_
      refine Ev.pos (by omega) ?_
      have e : crcBits (8 - j) x = crcBits (8 - (j + 1)) (crcBit x) := by
        rw [show 8 - j = (8 - (j + 1)) + 1 by omega]; rfl
      rw [e] at h
      rw [w1 (by omega) (by omega)]
      have h' := ih (crcBit x) rfl h
      unfold crcBit at h'
      split at h'
      · rename_i hc
        exact Ev.pos hc h'
      · rename_i hc
        exact Ev.neg hc h'
  exact H 0 (by omega) x rfl h
theorem ev_impl_crc (l : List Int) (hl : l.length ≤ 3000) : Ev (fun k => impl_Crc8.f k l) (crcAll l 0) := by
  unfold impl_Crc8.f
  refine Ev.neg (by omega) ?_
  have H : ∀ i, i ≤ l.length → ∀ x, Ev (fun k => impl_Crc8.l0 k x l l.length (i : Nat)) (crcAll (l.drop i) x) := by
    refine down l.length ?_ ?_
    · intro x
      refine Ev.step (fun k => by rw [impl_Crc8.l0]) ?_
      exact Ev.neg (by omega) (Ev.nowIs (by simp [crcAll]))
    · intro i hi ih x
      refine Ev.step (fun k => by rw [impl_Crc8.l0]) ?_
      refine Ev.pos (by omega) (Ev.pos (by omega) (Ev.pos (by omega) ?_))
      refine ev_impl_crc_l1 l _ _ _ ?_
      rw [w1 (by omega) (by omega), List.drop_eq_getElem_cons hi, rd_lt l i hi]
      exact ih _
  simpa using H 0 (Nat.zero_le _) 0

theorem ev_eqByteS (l : List Int) (hl : l.length ≤ 1048576) : Ev (fun k => laws_eqByteS.f k l l) true := by
  unfold laws_eqByteS.f
  refine Ev.pos rfl ?_
  exact eq_loop laws_eqByteS.l0 rd l (by omega) (fun k i => by rw [laws_eqByteS.l0])
end FnExactCrc8
open FnExactCrc8
theorem FnExactCrc8 : laws_FnExactCrc8.Pure := by
  intro l _ _ _
  refine Ev.rounds ?_
  unfold laws_FnExactCrc8.f
  by_cases hb : (l.length : Int) > 1048576
  · exact Ev.pos hb (Ev.now _)
  refine Ev.neg hb ?_
  refine (ev_toByteS l (by omega)).bind ?_
  have hs : ∃ r, Ev (fun k => spec_Crc8.f k l) r ∧ Ev (fun k => impl_Crc8.f k l) r := by
    by_cases hc : (l.length : Int) > 3000
    · exact ⟨0, by unfold spec_Crc8.f; exact Ev.pos hc (Ev.now _), by unfold impl_Crc8.f; exact Ev.pos hc (Ev.now _)⟩
    · exact ⟨_, ev_spec_crc l (by omega), ev_impl_crc l (by omega)⟩
  obtain ⟨r, h1, h2⟩ := hs
  refine h1.bind ((ev_toByteS l (by omega)).bind (h2.bind (Ev.pos rfl ((ev_toByteS l (by omega)).bind ?_))))
  exact (ev_eqByteS l (by omega)).bind (Ev.pos rfl (Ev.now _))
end Go.Proofs.Ytdilinjockobaaa.Pure

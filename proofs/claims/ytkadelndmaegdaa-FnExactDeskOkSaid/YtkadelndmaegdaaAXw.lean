/- Stepping the executor: slices. No condition beyond each law's own; nothing of the program. -/
import Derived.Test.YtkadelndmaegdaaAXv
namespace Go.Proofs.Ytkadelndmaegdaa.AX
open Go

theorem Zfh {a b : Int} (h : a < b) : decide (a < b) = true := decide_eq_true h
theorem Zfi {a b : Int} (h : ¬ a < b) : decide (a < b) = false := decide_eq_false h
theorem Zfj {a b : Int} (h : a ≤ b) : decide (a ≤ b) = true := decide_eq_true h
theorem Zfk {a b : Int} (h : ¬ a ≤ b) : decide (a ≤ b) = false := decide_eq_false h
theorem Zfl {a b : Int} (h : a = b) : decide (a = b) = true := decide_eq_true h
theorem Zfm {a b : Int} (h : ¬ a = b) : decide (a = b) = false := decide_eq_false h
theorem Zfn {i : Nat} (h : i < 4611686018427387904) : IntKind.i64.wrap ((i : Int) + 1) = ((i + 1 : Nat) : Int) := by rw [wrap64 (by omega) (by omega)]; omega
/-- Where cell o of element i of a slice lies. -/
def adr (v : Value) (i sz o : Nat) : Value := match v with
  | .slice (some ⟨b, o', none⟩) _ _ => ptr b (o' + i * sz + o)
  | _ => undef
section
variable {H H1 : Heap} {v : Value} {sz n : Nat} {cs : List Value} {i o : Nat} {k : IntKind}
theorem Sl.len_ (h : Sl H v sz n cs) : vlen H1 v = some (.int .i64 n, H1) := by
  rcases h.2 with ⟨rfl, rfl⟩ | ⟨i, o, rfl, _⟩
  · rfl
  · exact Zde
theorem Sl.noTup_ (h : Sl H v sz n cs) : noTup v = true := by
  rcases h.2 with ⟨rfl, rfl⟩ | ⟨i, o, rfl, _⟩ <;> rfl
theorem Sl.cells_ (h : Sl H v sz n cs) : vcells v = [v] := by
  rcases h.2 with ⟨rfl, rfl⟩ | ⟨i, o, rfl, _⟩ <;> rfl
theorem Sl.some_ (h : Sl H v sz n cs) (hi : i < n) : ∃ b o, v = .slice (some ⟨b, o, none⟩) n sz ∧ b < H.nxt ∧ ∀ j c, cs[j]? = some c → ∃ ob, H.get b = some ob ∧ ob.cells[o + j]? = some c := by
  rcases h.2 with ⟨_, rfl⟩ | h
  · omega
  · exact h
theorem Zfo {p : Nat} (h : i < n) : vidx H1 sz (.slice (some ⟨p, o, none⟩) n sz) (.int k (i : Int)) = some (ptr p (o + i * sz), H1) := by
  have e : vidx H1 sz (.slice (some ⟨p, o, none⟩) n sz) (.int k (i : Int)) = if sz = sz ∧ 0 ≤ (i : Int) ∧ (i : Int) < n then some (.pointer (some ⟨p, o + (i : Int).toNat * sz, none⟩), H1) else none := rfl
  rw [e, if_pos ⟨rfl, by omega, by omega⟩]
  simp [ptr]
theorem Sl.idx (h : Sl H v sz n cs) (hi : i < n) : vidx H1 sz v (.int k (i : Int)) = some (adr v i sz 0, H1) := by
  obtain ⟨b, o, rfl, _⟩ := h.some_ hi
  rw [Zfo hi]
  rfl
theorem Sl.fad {off : Nat} (h : Sl H v sz n cs) (hi : i < n) : vfad H1 off (adr v i sz o) = some (adr v i sz (o + off), H1) := by
  obtain ⟨b, o', rfl, _⟩ := h.some_ hi
  simp only [adr, Zcs, Nat.add_assoc]
theorem Sl.ld {c : Value} (h : Sl H v sz n cs) (hi : i < n) (hc : cs[i * sz + o]? = some c) : vld1 H (adr v i sz o) = some (c, H) := by
  obtain ⟨b, o', rfl, _, h2⟩ := h.some_ hi
  obtain ⟨ob, h3, h4⟩ := h2 _ _ hc
  simp only [adr, Zcl, h3, lkO]
  rw [show o' + i * sz + o = o' + (i * sz + o) by omega, h4]
  rfl
theorem Sl.ldN {m : Nat} (h : Sl H v sz n cs) (hi : i < n) (hm : 0 < m) (ho : o + m ≤ sz) : vldN H m (adr v i sz o) = some (.agg ((cs.drop (i * sz + o)).take m).toArray, H) := by
  have hmul : (i + 1) * sz ≤ n * sz := Nat.mul_le_mul_right _ hi
  rw [Nat.add_mul, Nat.one_mul] at hmul
  have hl := h.1
  obtain ⟨b, o', rfl, _, h2⟩ := h.some_ hi
  have hlast : cs[i * sz + o + m - 1]? = some cs[i * sz + o + m - 1] := List.getElem?_eq_getElem (by omega)
  obtain ⟨ob, h3, h4⟩ := h2 _ _ hlast
  have hob : o' + (i * sz + o + m - 1) < ob.cells.length := (List.getElem?_eq_some_iff.1 h4).1
  simp only [adr, Zco, h3, ldN]
  rw [if_pos (by omega)]
  congr 3
  congr 1
  refine List.ext_getElem? fun j => ?_
  rw [List.getElem?_take, List.getElem?_take]
  split
  · rename_i hj
    rw [List.getElem?_drop, List.getElem?_drop]
    have hx : cs[i * sz + o + j]? = some cs[i * sz + o + j] := List.getElem?_eq_getElem (by omega)
    obtain ⟨ob', h5, h6⟩ := h2 _ _ hx
    rw [h3] at h5
    injection h5 with h5
    subst h5
    rw [hx, show o' + i * sz + o + j = o' + (i * sz + o + j) by omega, h6]
  · rfl
theorem IntsK.idx {xs : List Int} {k' : IntKind} (h : IntsK k H v xs) (hi : i < xs.length) : vidx H1 1 v (.int k' (i : Int)) = some (adr v i 1 0, H1) := Sl.idx h hi
theorem IntsK.ld {xs : List Int} (h : IntsK k H v xs) (hi : i < xs.length) : vld1 H (adr v i 1 0) = some (.int k (xs.getD i 0), H) := by
  refine Sl.ld h hi ?_
  simp [List.getD, List.getElem?_eq_getElem hi]
theorem IntsK.len_ {xs : List Int} (h : IntsK k H v xs) : vlen H1 v = some (.int .i64 xs.length, H1) := Sl.len_ h
/-- Own memory from its beginning. -/
theorem sl_own {p : Nat} (hp : p < H.nxt) (hg : H.get p = some (.own cs)) (hl : cs.length = n * sz) : Sl H (.slice (some ⟨p, 0, none⟩) n sz) sz n cs :=
  ⟨hl, .inr ⟨p, 0, rfl, hp, fun j c hj => ⟨_, hg, by simpa [Obj.cells] using hj⟩⟩⟩
/-- A new slice of numbers. -/
def NewK (k : IntKind) (H H' : Heap) (v : Value) (xs : List Int) : Prop := ∃ p, H.nxt ≤ p ∧ p < H'.nxt ∧ v = .slice (some ⟨p, 0, none⟩) xs.length 1 ∧ H'.get p = some (.own (xs.map (Value.int k)))
theorem NewK.ints {H' : Heap} {xs : List Int} (h : NewK k H H' v xs) : IntsK k H' v xs := by
  obtain ⟨p, _, h1, rfl, h2⟩ := h
  exact sl_own h1 h2 (by simp)
theorem wr_one {x : Value} (h : i < cs.length) : wr cs i [x] = cs.set i x := by
  unfold wr
  refine List.ext_getElem? fun j => ?_
  rw [List.getElem?_set]
  by_cases hj : j < i
  · rw [if_neg (by omega), List.append_assoc, List.getElem?_append_left (by simp; omega), List.getElem?_take_of_lt hj]
  · by_cases hij : i = j
    · subst hij
      rw [if_pos rfl, if_pos h, List.append_assoc, List.getElem?_append_right (by simp; omega)]
      simp [Nat.min_eq_left (Nat.le_of_lt h)]
    · rw [if_neg hij, List.getElem?_append_right (by simp; omega), List.getElem?_drop]
      simp only [List.length_append, List.length_take, List.length_cons, List.length_nil]
      congr 1
      omega
theorem stO_one {p : Nat} {x : Value} (hx : noTup x = true) (hv : vcells x = [x]) (hi : i < cs.length) : stO H1 1 p i x (some (.own cs)) = some (undef, H1.set p (cs.set i x)) := by
  rw [stO_own, hv, if_pos ⟨hx, rfl, by omega⟩, wr_one hi]
theorem Zfq {p : Nat} {z : Int} (hi : i < cs.length) : stO H1 1 p i (.int k z) (some (.own cs)) = some (undef, H1.set p (cs.set i (.int k z))) := stO_one rfl rfl hi
theorem Zfr {p : Nat} {z : Bool} (hi : i < cs.length) : stO H1 1 p i (.bool z) (some (.own cs)) = some (undef, H1.set p (cs.set i (.bool z))) := stO_one rfl rfl hi
theorem Zfs {p : Nat} {a : Option Addr} {l c : Nat} (hi : i < cs.length) : stO H1 1 p i (.slice a l c) (some (.own cs)) = some (undef, H1.set p (cs.set i (.slice a l c))) := stO_one rfl rfl hi
/-- As far as i what is to come, behind it what was. -/
def upTo (i : Nat) (xs ys : List Value) : List Value := xs.take i ++ ys.drop i
theorem upTo_len {xs ys : List Value} (h : xs.length = ys.length) : (upTo i xs ys).length = xs.length := by
  simp [upTo]; omega
theorem upTo_set {xs ys : List Value} {x : Value} (h : xs.length = ys.length) (hx : xs[i]? = some x) : (upTo i xs ys).set i x = upTo (i + 1) xs ys := by
  have hi := (List.getElem?_eq_some_iff.1 hx).1
  refine List.ext_getElem? fun j => ?_
  simp only [upTo, List.getElem?_set, List.getElem?_append, List.length_append, List.length_take, List.length_drop, List.getElem?_take, List.getElem?_drop]
  by_cases hij : i = j
  · subst hij
    rw [if_pos rfl, if_pos (by omega), if_pos (by omega), if_pos (by omega), hx]
  · rw [if_neg hij]
    by_cases hj : j < i
    · rw [if_pos (by omega), if_pos (by omega), if_pos (by omega), if_pos (by omega)]
    · rw [if_neg (by omega), if_neg (by omega)]
      congr 1
      omega
theorem upTo_all {xs ys : List Value} (h : xs.length = ys.length) : upTo xs.length xs ys = xs := by
  rw [upTo, List.take_of_length_le (Nat.le_refl _), List.drop_of_length_le (by omega), List.append_nil]
theorem upTo_0 {xs ys : List Value} : upTo 0 xs ys = ys := by simp [upTo]
theorem Zfp {bytes : Nat} {z : List Value} (h : bytes * n ≤ 140737488355328) (hn : n ≤ 9223372036854775807) : vmks H1 sz bytes z (.int .i64 (n : Int)) (.int .i64 (n : Int)) = some (.slice (some ⟨H1.nxt, 0, none⟩) n sz, H1.push (List.replicate n z).flatten) := by
  have e : vmks H1 sz bytes z (.int .i64 (n : Int)) (.int .i64 (n : Int)) = if 0 ≤ (n : Int) ∧ (n : Int) ≤ n ∧ (n : Int) ≤ 9223372036854775807 ∧ (bytes : Int) * n ≤ 140737488355328 then some (.slice (some ⟨H1.nxt, 0, none⟩) (n : Int).toNat sz, H1.push ((List.replicate (n : Int).toNat z).flatten)) else none := rfl
  have h2 : (bytes : Int) * n ≤ 140737488355328 := by
    have : ((bytes * n : Nat) : Int) ≤ 140737488355328 := by omega
    simpa using this
  rw [e, if_pos ⟨by omega, by omega, by omega, h2⟩, Int.toNat_natCast]
/-- A slice's part from a to b. -/
def subV (v : Value) (a b sz : Nat) : Value := match v with
  | .slice (some ⟨p, o, none⟩) _ _ => .slice (some ⟨p, o + a * sz, none⟩) (b - a) sz
  | v => v
theorem bnd_nat {a y : Nat} (h : a ≤ y) : bnd y (.int k (a : Int)) = some a := by
  have e : bnd y (.int k (a : Int)) = if 0 ≤ (a : Int) ∧ (a : Int) ≤ y then some (a : Int).toNat else none := rfl
  rw [e, if_pos ⟨by omega, by omega⟩, Int.toNat_natCast]
theorem Sl.slc_both {a b : Nat} {k' : IntKind} (h : Sl H v sz n cs) (ha : a ≤ b) (hb : b ≤ n) : vslc H1 sz (some (.int k (a : Int))) (some (.int k' (b : Int))) none v = some (subV v a b sz, H1) := by
  rcases h.2 with ⟨rfl, rfl⟩ | ⟨i, o, rfl, _⟩
  · obtain rfl : b = 0 := by omega
    obtain rfl : a = 0 := by omega
    simp only [vslc, bnds, Option.bind_some, bnd_nat (Nat.le_refl 0), Option.map_some, subV]
  · simp only [vslc, if_true, bnds, Option.bind_some, bnd_nat hb, bnd_nat ha, Option.map_some, subV]
theorem Sl.slc_lo {a : Nat} (h : Sl H v sz n cs) (ha : a ≤ n) : vslc H1 sz (some (.int k (a : Int))) none none v = some (subV v a n sz, H1) := by
  rcases h.2 with ⟨rfl, rfl⟩ | ⟨i, o, rfl, _⟩
  · obtain rfl : a = 0 := by omega
    simp only [vslc, bnds, Option.bind_some, bnd_nat (Nat.le_refl 0), Option.map_some, subV]
  · simp only [vslc, if_true, bnds, Option.bind_some, bnd_nat ha, Option.map_some, subV]
theorem Sl.slc_hi {b : Nat} (h : Sl H v sz n cs) (hb : b ≤ n) : vslc H1 sz none (some (.int k (b : Int))) none v = some (subV v 0 b sz, H1) := by
  rcases h.2 with ⟨rfl, rfl⟩ | ⟨i, o, rfl, _⟩
  · obtain rfl : b = 0 := by omega
    simp only [vslc, bnds, Option.bind_some, bnd_nat (Nat.le_refl 0), Option.map_some, subV]
  · simp only [vslc, if_true, bnds, Option.bind_some, bnd_nat hb, Option.map_some, subV]
theorem Sl.sub {a b : Nat} (h : Sl H v sz n cs) (ha : a ≤ b) (hb : b ≤ n) : Sl H (subV v a b sz) sz (b - a) ((cs.drop (a * sz)).take ((b - a) * sz)) := by
  have h1 : b * sz ≤ n * sz := Nat.mul_le_mul_right _ hb
  have h2 : (b - a) * sz = b * sz - a * sz := Nat.sub_mul _ _ _
  have h3 : a * sz ≤ b * sz := Nat.mul_le_mul_right _ ha
  refine ⟨by rw [List.length_take, List.length_drop, h.1]; omega, ?_⟩
  rcases h.2 with ⟨rfl, rfl⟩ | ⟨i, o, rfl, hi, hc⟩
  · exact .inl ⟨rfl, by omega⟩
  · refine .inr ⟨i, o + a * sz, rfl, hi, fun j c hj => ?_⟩
    rw [List.getElem?_take] at hj
    split at hj
    · rw [List.getElem?_drop] at hj
      obtain ⟨ob, h4, h5⟩ := hc _ _ hj
      exact ⟨ob, h4, by rw [Nat.add_assoc]; exact h5⟩
    · cases hj
theorem IntsK.sub {xs : List Int} {a b : Nat} (h : IntsK k H v xs) (ha : a ≤ b) (hb : b ≤ xs.length) : IntsK k H (subV v a b 1) ((xs.drop a).take (b - a)) := by
  have h1 := Sl.sub h ha hb
  unfold IntsK
  rw [List.length_take, List.length_drop, Nat.min_eq_left (by omega)]
  simpa [List.map_take, List.map_drop] using h1
theorem vapp_one {p j bytes : Nat} {x : Value} (hp : H1.get p = some (.own cs)) (hj : H1.get j = some (.own [x])) (hc : cs.length = n) (hb : (n + 1) * bytes ≤ 140737488355328) :
    vapp H1 1 bytes (.slice (some ⟨p, 0, none⟩) n 1) (.slice (some ⟨j, 0, none⟩) 1 1) = some (.slice (some ⟨H1.nxt, 0, none⟩) (n + 1) 1, H1.moved p (cs ++ [x])) := by
  have e : vapp H1 1 bytes (.slice (some ⟨p, 0, none⟩) n 1) (.slice (some ⟨j, 0, none⟩) 1 1) = (match H1.get j with
      | some ob => if 1 = 1 ∧ 0 + 1 * 1 ≤ ob.cells.length then
          (match H1.get p with
            | some (.own cs) => if 1 = 1 ∧ 0 + n * 1 ≤ cs.length ∧ (n + 1) * bytes ≤ 140737488355328 then some (.slice (some ⟨H1.nxt, 0, none⟩) (n + 1) 1, H1.moved p ((cs.drop 0).take (n * 1) ++ (ob.cells.drop 0).take (1 * 1))) else none
            | _ => none)
        else none
      | none => none) := rfl
  rw [e, hj, hp]
  simp only [Obj.cells, true_and]
  rw [if_pos (by simp), if_pos ⟨by omega, hb⟩, List.drop_zero, Nat.mul_one, ← hc, List.take_length]
  rfl
theorem NewK.keep {k : IntKind} {H0 H2 : Heap} {xs : List Int} (h : NewK k H0 H1 v xs) (kp : Keep H1 H2) : NewK k H0 H2 v xs := by
  obtain ⟨p, h1, h2, h3, h4⟩ := h
  exact ⟨p, h1, Nat.lt_of_lt_of_le h2 kp.nxt, h3, by rw [kp.get p h2]; exact h4⟩
/-- One more number behind those that are there. -/
theorem NewK.one {k : IntKind} {H0 : Heap} {xs : List Int} {z : Int} {bytes : Nat} (h : NewK k H0 H1 v xs) (hb : (xs.length + 1) * bytes ≤ 140737488355328) :
    ∃ w H2, vapp (H1.push [.int k z]) 1 bytes v (.slice (some ⟨H1.nxt, 0, none⟩) 1 1) = some (w, H2) ∧ NewK k H0 H2 w (xs ++ [z]) ∧ (Keep H0 H1 → Keep H0 H2) ∧ H1.nxt ≤ H2.nxt := by
  obtain ⟨p, h1, h2, rfl, h4⟩ := h
  have hp : (H1.push [.int k z]).get p = some (.own (xs.map (Value.int k))) := by rw [push_get', if_neg (by omega), h4]
  have hj : (H1.push [.int k z]).get H1.nxt = some (.own [.int k z]) := by rw [push_get', if_pos rfl]
  refine ⟨_, _, vapp_one hp hj (by simp) hb, ⟨H1.nxt + 1, ?_, ?_, ?_, ?_⟩, fun hk => ?_, ?_⟩
  · omega
  · rw [Zbj, Zbg]; omega
  · simp [Zbg]
  · rw [Zbk, Zbg, if_pos rfl, List.map_append]; rfl
  · exact (hk.push').moved' h1
  · rw [Zbj, Zbg]; omega
end
end Go.Proofs.Ytkadelndmaegdaa.AX

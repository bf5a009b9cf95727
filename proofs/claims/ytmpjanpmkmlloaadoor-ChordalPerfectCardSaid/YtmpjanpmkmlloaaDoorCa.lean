/- Contracts of the leaves: bits, searching by a function, cloning, comparing slices of ints. The table of bits is laid (Tab). -/
import Derived.Test.YtmpjanpmkmlloaaDoorGr
import Derived.Test.YtmpjanpmkmlloaaDoorGs
namespace Go.Proofs.YtmpjanpmkmlloaaDoor
open Go Go.RowKit VC
set_option linter.unusedSimpArgs false
set_option linter.unusedVariables false

/-- It returns v, and nothing that was there has turned. -/
def Ret (w : World) (v : Value) : Ending → World → Prop := fun e w' => e = .returned v ∧ Grow w w'
theorem el_int : ElT Tryd.prog 22 3 1 8 (.int .i64 0) := ⟨by kernel_rfl, ⟨Tryd.t3, by kernel_rfl, by kernel_rfl, by kernel_rfl, by kernel_rfl⟩, rfl⟩
/-! ## math/bits -/
def tab64 : List Nat := [0, 1, 56, 2, 57, 49, 28, 3, 61, 58, 42, 50, 38, 29, 17, 4, 62, 47, 59, 36, 45, 43, 51, 22, 53, 39, 33, 30, 24, 18, 12, 5, 63, 55, 48, 27, 60, 41, 37, 16, 46, 35, 44, 21, 52, 32, 23, 11, 54, 26, 40, 15, 34, 20, 31, 10, 25, 14, 19, 9, 13, 8, 7, 6]
/-- The table of package math/bits stands where it stood at the start. -/
def Tab (w : World) : Prop := ∀ j, j < 64 → w.cell? (Addr.add ⟨1, 0, none⟩ j) = some (.int .u8 (tab64.getD j 0 : Nat))
theorem Tab.grow {w w' : World} (h : Tab w) (hg : Grow w w') : Tab w' := fun j hj => hg.cell (h j hj)
theorem Tab.dr {w : World} (h : Tab w) (m : Nat) : Tab (dr w m) := h
def tzIdx (s : Nat) : Int := iShr .u64 (IntKind.wrap .u64 ((iAnd .u64 (s : Int) (IntKind.wrap .u64 (0 - (s : Int)))) * 285870213051353865)) 58
def tzOk (s : Nat) : Bool := s == 0 || (decide (0 ≤ tzIdx s) && decide (tzIdx s < 64) && tab64.getD (tzIdx s).toNat 0 == tz s)
theorem tzAll' : ∀ a, a < 64 → ∀ b, b < 64 → tzOk (a * 64 + b) = true := by decide +kernel
theorem tz64_c {s : Nat} (h : s < 4096) (h0 : s ≠ 0) {w : World} (hT : Tab w) : Calls Tryd.prog 118 #[.int .u64 (s : Int)] w (Ret w (.int .i64 (tz s : Int))) := by
  refine f118_calls _ ?_
  have hk := all4096 (p := fun s => tzOk s = true) tzAll' s h
  simp only [tzOk, Bool.or_eq_true, beq_iff_eq, h0, false_or, Bool.and_eq_true, decide_eq_true_eq] at hk
  obtain ⟨⟨h1, h2⟩, h3⟩ := hk
  have h4 := (els_step h h0).2.2
  have h5 : ¬ (s : Int) = 0 := by omega
  refine condD (fun e => absurd e h5) fun _ => ⟨by decide, ⟨h1, h2⟩, (tz s : Int), ?_, ?_⟩
  · have hlt : (tzIdx s).toNat < 64 := by clear h3; generalize tzIdx s = z at *; omega
    have hc := hT (tzIdx s).toNat hlt
    rw [h3, ← Nat.mul_one (tzIdx s).toNat] at hc
    exact hc
  · refine ⟨?_, Grow.refl w⟩
    rw [wrap_nat (by omega)]
theorem tz_c {s : Nat} (h : s < 4096) (h0 : s ≠ 0) {w : World} (hT : Tab w) : Calls Tryd.prog 104 #[.int .u64 (s : Int)] w (Ret w (.int .i64 (tz s : Int))) := by
  refine f104_calls _ ?_
  refine (tz64_c h h0 hT).mono ?_
  rintro e w' ⟨rfl, hg⟩
  exact ⟨_, rfl, rfl, hg⟩
theorem wrapU {n : Nat} (h : n < 9223372036854775808) : IntKind.u64.wrap (n : Int) = n := by
  have : IntKind.u64.wrap (n : Int) = (n : Int) % 2 ^ 64 := by simp [IntKind.wrap, IntKind.signed, IntKind.bits]
  rw [this]; omega

/-! ## Searching by a function -/
/-- The function value f answers p x, at each x of xs, in every world that has come of w. -/
def Asks (w : World) (f : Value) (xs : List Int) (p : Int → Bool) : Prop :=
  ∃ g fst cap, f = .func (.func g) fst cap ∧ callOK g = true ∧ ∀ x ∈ xs, ∀ w', Grow w w' → Calls Tryd.prog g (fst ++ #[.int .i64 x] ++ cap) w' (Ret w' (.bool (p x)))
def idxOf (p : Int → Bool) (xs : List Int) : Int := match xs.findIdx? p with | some i => i | none => -1
theorem indexFunc_c {w : World} {v f : Value} {xs : List Int} {p : Int → Bool} (hs : SlI w v xs) (hf : Asks w f xs p) : Calls Tryd.prog 80 #[v, f] w (Ret w (.int .i64 (idxOf p xs))) := by
  refine f80_calls _ _ ?_
  obtain ⟨g, fst, cap, rfl, hg, hcall⟩ := hf
  have hle := hs.len_le
  refine hs.ln ⟨fun t w' => ∃ k : Nat, t = k ∧ k ≤ xs.length ∧ Grow w w' ∧ ∀ j (hj : j < xs.length), j < k → p xs[j] = false, fun t _ => xs.length - t.toNat, ⟨0, rfl, by omega, Grow.refl w, fun j _ h => by omega⟩, ?_⟩
  rintro - t w1 ⟨k, rfl, hk, hw, hno⟩
  refine condD (fun hlt => ?_) (fun hge => ?_)
  · have hkl : k < xs.length := by omega
    refine (hs.grow hw).rd rfl hkl ⟨g, fst, cap, rfl, hg, ?_⟩
    refine (hcall xs[k] (List.getElem_mem hkl) w1 hw).mono ?_
    rintro e w2 ⟨rfl, hg2⟩
    refine ⟨_, rfl, condP_i (fun hp => ?_) (fun hp => ?_)⟩
    · refine ⟨?_, hw.trans hg2⟩
      have : xs.findIdx? p = some k := List.findIdx?_eq_some_iff_getElem.2 ⟨hkl, hp, fun j hj => by simpa using hno j (by omega) hj⟩
      rw [idxOf, this]
    · refine ⟨by unfold inR; omega, ⟨k + 1, by omega, by omega, hw.trans hg2, fun j hj hjk => ?_⟩, by dsimp only; omega⟩
      by_cases e : j = k
      · subst e; exact hp
      · exact hno j hj (by omega)
  · refine ⟨?_, hw⟩
    have : xs.findIdx? p = none := List.findIdx?_eq_none_iff.2 fun x hx => by
      obtain ⟨j, hj, rfl⟩ := List.mem_iff_getElem.1 hx
      exact hno j hj (by omega)
    rw [idxOf, this]
theorem idxOf_any (p : Int → Bool) (xs : List Int) : decide (0 ≤ idxOf p xs) = xs.any p := by
  unfold idxOf
  cases h : xs.findIdx? p with
  | none =>
    have := List.findIdx?_eq_none_iff.1 h
    have : xs.any p = false := List.any_eq_false.2 fun x hx => by simp [this x hx]
    simp [this]
  | some i =>
    obtain ⟨hi, hp, _⟩ := List.findIdx?_eq_some_iff_getElem.1 h
    have : xs.any p = true := List.any_eq_true.2 ⟨xs[i], List.getElem_mem hi, hp⟩
    simp [this]
theorem containsFunc_c {w : World} {v f : Value} {xs : List Int} {p : Int → Bool} (hs : SlI w v xs) (hf : Asks w f xs p) : Calls Tryd.prog 74 #[v, f] w (Ret w (.bool (xs.any p))) := by
  refine f74_calls _ _ ?_
  refine (indexFunc_c hs hf).mono ?_
  rintro e w' ⟨rfl, hg⟩
  refine ⟨_, rfl, ?_, hg⟩
  rw [idxOf_any]

/-! ## Cloning -/
theorem clone_c {w : World} {v : Value} {xs : List Int} (hs : SlI w v xs) (hlen : xs.length ≤ 1000000) : Calls Tryd.prog 68 #[v] w fun e w' => ∃ v', e = .returned v' ∧ Own w' w.heap.size 3 1 v' xs.length (xs.map encI) ∧ Grow w w' := by
  refine f68_calls _ ?_
  obtain ⟨a, c, rfl, h1, h2, h3, h4⟩ := hs.ex
  refine ⟨a.isNone, nilEq (e := 3) (by kernel_rfl), condP_i (fun ha => ?_) (fun ha => ?_)⟩
  · have : a = none := by simpa using ha
    have hc := h3 this
    have : xs = [] := by have : xs.length = 0 := by omega
                         simpa using this
    subst this
    exact ⟨_, rfl, Own.nil _ _ _ _, Grow.refl w⟩
  · intro w1 hw1
    have hl := Own.lit (B := w.heap.size) (n := 0) (sz := 1) hw1 (Nat.le_refl _) (by omega) (by simp)
    refine papp el_int (by omega) hl (hs.grow (alloc_grow hw1)) (by simp) (by simp [encI, Value.oneCell']) (by rw [alloc_size hw1]; omega) (by omega) (by omega) ?_
    intro v' w' ho hf hn
    refine ⟨v', rfl, by simpa using ho, (alloc_grow hw1).fr hf fun i hi e => ?_⟩
    simp [Value.ownBlock] at e
    omega

/-! ## The elements of a set -/
theorem equal_c {w : World} {u v : Value} {xs ys : List Int} (hx : SlI w u xs) (hy : SlI w v ys) : Calls Tryd.prog 23 #[u, v] w (Ret w (.bool (decide (xs = ys)))) := by
  refine f23_calls _ _ ?_
  have h1 := hx.len_le
  have h2 := hy.len_le
  refine hx.ln (hy.ln (condP_i (fun h => ?_) fun h => ?_))
  · refine ⟨?_, Grow.refl w⟩
    have : xs ≠ ys := fun e => by subst e; simp at h
    simp [this]
  · have hl : xs.length = ys.length := by simp at h; omega
    refine hx.ln ⟨fun t w' => ∃ k : Nat, t = k ∧ k ≤ xs.length ∧ Grow w w' ∧ xs.take k = ys.take k, fun t _ => xs.length - t.toNat, ⟨0, rfl, by omega, Grow.refl w, by simp⟩, ?_⟩
    rintro - t w1 ⟨k, rfl, hk, hw, heq⟩
    refine condD (fun hlt => ?_) (fun hge => ?_)
    · have hkl : k < xs.length := by omega
      refine (hx.grow hw).rd rfl hkl ((hy.grow hw).rd rfl (by omega) fun m => ?_)
      refine condP_i (fun h => ?_) fun h => ?_
      · refine ⟨?_, hw.dr m⟩
        have : xs ≠ ys := fun e => by subst e; simp at h
        simp [this]
      · have he : xs[k] = ys[k]'(by omega) := by simpa using h
        refine ⟨by unfold inR; omega, ⟨k + 1, by omega, by omega, hw.dr m, ?_⟩, by dsimp only; omega⟩
        rw [List.take_succ_eq_append_getElem hkl, List.take_succ_eq_append_getElem (show k < ys.length by omega), heq, he]
    · refine ⟨?_, hw⟩
      have hk2 : k = xs.length := by omega
      subst hk2
      rw [List.take_length, hl, List.take_length] at heq
      simp [heq]
end Go.Proofs.YtmpjanpmkmlloaaDoor

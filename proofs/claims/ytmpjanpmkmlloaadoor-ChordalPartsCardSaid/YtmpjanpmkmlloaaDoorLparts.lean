/- The law ChordalParts: its contract. The graph without a node: its holes and its nodes apart are the graph's. -/
import Derived.Test.YtmpjanpmkmlloaaDoorCs
import Derived.Test.YtmpjanpmkmlloaaDoorGa
import Derived.Test.YtmpjanpmkmlloaaDoorGe
namespace Go.Proofs.YtmpjanpmkmlloaaDoor
open Go Go.RowKit VC
set_option linter.unusedSimpArgs false
set_option linter.unusedVariables false

/-- A node's old number. -/
def sk (x j : Nat) : Nat := if j < x then j else j + 1
theorem sk_lt {x i j : Nat} (h : i < j) : sk x i < sk x j := by unfold sk; split <;> split <;> omega
theorem sk_inj {x i j : Nat} (h : sk x i = sk x j) : i = j := by unfold sk at h; split at h <;> split at h <;> omega
theorem sk_ne (x j : Nat) : sk x j ≠ x := by unfold sk; split <;> omega
theorem sk_bound {x j n : Nat} (h : j < n - 1) (hn : 1 ≤ n) : sk x j < n := by unfold sk; split <;> omega
def del (x s : Nat) : Nat := (s &&& (2 ^ x - 1)) ||| ((s >>> (x + 1)) * 2 ^ x)
theorem del_bit (x s j : Nat) : (del x s).testBit j = s.testBit (sk x j) := by
  unfold del sk
  rw [Nat.testBit_or, Nat.testBit_and, Nat.testBit_two_pow_sub_one, Nat.testBit_mul_two_pow, Nat.testBit_shiftRight]
  by_cases h : j < x
  · have h1 : ¬ x ≤ j := by omega
    simp [h, h1]
  · have h1 : x ≤ j := by omega
    have e : x + 1 + (j - x) = j + 1 := by omega
    simp [h, h1, e]
def rmN (N : List Nat) (x : Nat) : List Nat := (List.range (N.length - 1)).map fun i => del x (nb N (sk x i))
@[simp] theorem rmN_len (N : List Nat) (x : Nat) : (rmN N x).length = N.length - 1 := by simp [rmN]
theorem nb_rm {N : List Nat} {x i : Nat} (h : i < N.length - 1) : nb (rmN N x) i = del x (nb N (sk x i)) := by simp [nb, rmN, h]
theorem E_rm {N : List Nat} {x i j : Nat} (hi : i < N.length - 1) : E (rmN N x) i j ↔ E N (sk x i) (sk x j) := by
  unfold E
  rw [nb_rm hi, del_bit]
theorem VN.rm {N : List Nat} (hN : VN N) {x : Nat} (h2 : 2 ≤ N.length) (hx : x < N.length) : VN (rmN N x) := by
  refine ⟨by simp; omega, by have := hN.le; simp; omega, fun i hi => ?_, fun i hi => ?_, fun i j hi hj => ?_⟩
  · have hi' : i < N.length - 1 := by simpa using hi
    rw [nb_get hi, nb_rm hi', rmN_len]
    refine Nat.lt_pow_two_of_testBit _ fun j hj => ?_
    rw [del_bit]
    cases hb : (nb N (sk x i)).testBit (sk x j) with
    | false => rfl
    | true =>
      have := bit_lt (hN.nb_lt _) hb
      unfold sk at this
      split at this <;> omega
  · have hi' : i < N.length - 1 := by simpa using hi
    rw [nb_get hi, nb_rm hi', del_bit, hN.irr']
  · have hi' : i < N.length - 1 := by simpa using hi
    have hj' : j < N.length - 1 := by simpa using hj
    rw [nb_get hi, nb_get hj, nb_rm hi', nb_rm hj', del_bit, del_bit, hN.sym']
theorem hole_rm {N : List Nat} {x : Nat} {l : List Int} (h : HoleP (rmN N x) l) (hn : 1 ≤ N.length) : HoleP N (l.map fun v => ((sk x v.toNat : Nat) : Int)) := by
  have hg : ∀ i, i < l.length → gi (l.map fun v => ((sk x v.toNat : Nat) : Int)) i = ((sk x (gi l i).toNat : Nat) : Int) := fun i hi => by
    simp [gi, hi]
  have hlen : (l.map fun v => ((sk x v.toNat : Nat) : Int)).length = l.length := by simp
  have hr : ∀ i, i < l.length → 0 ≤ gi l i ∧ (gi l i).toNat < N.length - 1 := fun i hi => by
    have := h.rng i hi
    rw [rmN_len] at this; omega
  have mono : ∀ i j, i < l.length → j < l.length → gi l i < gi l j → sk x (gi l i).toNat < sk x (gi l j).toNat := fun i j hi hj hlt => sk_lt (by have := hr i hi; omega)
  have h4 := h.four
  refine ⟨by rw [hlen]; exact h4, fun i hi => ?_, fun i hi => ?_, fun i j hi hj => ?_, fun i j hi hj => ?_, ?_⟩
  · rw [hlen] at hi
    rw [hg i hi]
    have := sk_bound (x := x) (hr i hi).2 hn; omega
  · rw [hlen] at hi
    rw [hg i hi, hg 0 (by omega)]
    rcases Int.lt_or_eq_of_le (h.least i hi) with h1 | h1
    · have := mono 0 i (by omega) hi h1; omega
    · rw [h1]; exact Int.le_refl _
  · rw [hlen] at hi
    rw [hg i hi, hg j (by omega)]
    intro e
    have := sk_inj (x := x) (i := (gi l i).toNat) (j := (gi l j).toNat) (by omega)
    have h1 := hr i hi
    have h2 := hr j (by omega)
    exact h.ne i j hi hj (by omega)
  · rw [hlen] at hi ⊢
    rw [hg i hi, hg j (by omega), ← h.adj i j hi hj]
    unfold ed
    rw [Int.toNat_natCast, Int.toNat_natCast, nb_rm (hr i hi).2, del_bit]
  · rw [hlen, hg 1 (by omega), hg (l.length - 1) (by omega)]
    have := mono 1 (l.length - 1) (by omega) (by omega) h.turn
    omega
theorem away_rm {N : List Nat} {x z j : Nat} (hz : z < N.length - 1) (hn : 1 ≤ N.length) (h : (away (rmN N x) z).testBit j = true) : (away N (sk x z)).testBit (sk x j) = true := by
  rw [away_bit] at h ⊢
  obtain ⟨h1, h2, h3⟩ := h
  rw [rmN_len] at h1
  exact ⟨sk_bound h1 hn, fun e => h2 ((E_rm hz).2 e), fun e => h3 (sk_inj e)⟩
theorem link_rm {N : List Nat} {x z a b : Nat} (hz : z < N.length - 1) (hn : 1 ≤ N.length) (h : Link (rmN N x) z a b) : Link N (sk x z) (sk x a) (sk x b) := by
  induction h with
  | base h => exact .base (away_rm hz hn h)
  | @step c d hc he hd ih =>
    have hcl := (away_bit.1 hc.mem).1
    rw [rmN_len] at hcl
    exact .step ih ((E_rm hcl).1 he) (away_rm hz hn hd)
theorem AT_rm {N : List Nat} {x a b c : Nat} (hn : 1 ≤ N.length) (h : AT (rmN N x) a b c) : AT N (sk x a) (sk x b) (sk x c) := by
  obtain ⟨ha, hb, hc⟩ := h.lt
  rw [rmN_len] at ha hb hc
  exact ⟨fun e => h.ab (sk_inj e), fun e => h.ac (sk_inj e), fun e => h.bc (sk_inj e), fun e => h.nab ((E_rm ha).2 e), fun e => h.nac ((E_rm ha).2 e), fun e => h.nbc ((E_rm hb).2 e), link_rm ha hn h.la, link_rm hb hn h.lb, link_rm hc hn h.lc⟩
theorem ord_rm {N : List Nat} (hN : VN N) {x : Nat} (h2 : 2 ≤ N.length) (hx : x < N.length) (h : (ordG N).isSome = true) : (ordG (rmN N x)).isSome = true := by
  cases ho : ordG (rmN N x) with
  | some r => rfl
  | none =>
    have hs := ord_none (hN.rm h2 hx) ho
    obtain ⟨r, hr⟩ := Option.isSome_iff_exists.1 hs
    have := hole_rm (firstH_hole hr) hN.one
    exact absurd this ((firstH_none hN).1 (ord_some hN h) _)
theorem at_rm {N : List Nat} (hN : VN N) {x : Nat} (h2 : 2 ≤ N.length) (hx : x < N.length) (h : firstA N = none) : firstA (rmN N x) = none := by
  rw [firstA_none (hN.rm h2 hx)]
  intro a b c hat
  exact (firstA_none hN).1 h _ _ _ (AT_rm hN.one hat)
/-- What Model answers, as a number. -/
noncomputable def modE (N : List Nat) : Int := if (ordG N).isSome && (firstA N).isNone then 0 else 5
theorem Model_any {w : World} {v : Value} {N : List Nat} (hs : SlI w v (ofN N)) (hN : VN N) (hT : Tab w) : Calls Tryd.prog 31 #[v] w fun e w' => ∃ u, e = .returned (.tuple #[u, .int .i64 (modE N)]) ∧ (modE N = 0 → SlP w' u (spansOf N)) ∧ (modE N ≠ 0 → u = .slice none 0 0) ∧ Grow w w' := by
  by_cases h : (ordG N).isSome = true ∧ firstA N = none
  · have hE : modE N = 0 := by unfold modE; rw [h.1, h.2]; rfl
    refine (Model_c hs hN hT h.1 h.2).mono ?_
    rintro e w' ⟨u, rfl, hu, g⟩
    rw [hE]
    exact ⟨u, rfl, fun _ => hu, fun h => absurd rfl h, g⟩
  · have hbad : ordG N = none ∨ (firstA N).isSome = true := by
      cases ho : ordG N with
      | none => exact .inl rfl
      | some r =>
        cases ha : firstA N with
        | none => exact absurd ⟨by rw [ho]; rfl, ha⟩ h
        | some t => exact .inr rfl
    have hE : modE N = 5 := by
      unfold modE
      rcases hbad with hb | hb
      · rw [hb]; rfl
      · cases ha : firstA N with
        | none => rw [ha] at hb; cases hb
        | some t => simp
    refine (Model_none hs hN hT hbad).mono ?_
    rintro e w' ⟨rfl, g⟩
    rw [hE]
    exact ⟨_, rfl, fun h => by (simp at h), fun _ => rfl, g⟩
theorem modx {x : Int} {n : Nat} (h1 : 1 ≤ n) (h12 : n ≤ 12) : IntKind.wrap .u64 (n : Int) ≠ 0 ∧ ∃ k : Nat, k < n ∧ IntKind.wrap .i64 (Int.tmod (IntKind.wrap .u64 x) (IntKind.wrap .u64 (n : Int))) = (k : Int) := by
  have e := wrapU (n := n) (by omega)
  rw [e]
  have hz : 0 ≤ IntKind.wrap .u64 x := by
    have : IntKind.wrap .u64 x = x % 2 ^ 64 := by simp [IntKind.wrap, IntKind.signed, IntKind.bits]
    rw [this]; omega
  refine ⟨by omega, ?_⟩
  rw [Int.tmod_eq_emod_of_nonneg hz]
  have h2 := Int.emod_nonneg (IntKind.wrap .u64 x) (b := (n : Int)) (by omega)
  have h3 := Int.emod_lt_of_pos (IntKind.wrap .u64 x) (b := (n : Int)) (by omega)
  refine ⟨(IntKind.wrap .u64 x % (n : Int)).toNat, by omega, ?_⟩
  have h4 : IntKind.wrap .u64 x % (n : Int) = (((IntKind.wrap .u64 x % (n : Int)).toNat : Nat) : Int) := by omega
  rw [h4, wrap_nat (by omega)]
  simp
theorem parts_c {w : World} {v : Value} {G : List Int} {x : Int} (hs : SlI w v G) (hx : (Lit.int .i64 x).wf = true) (hT : Tab w) : Calls Tryd.prog 6 #[v, .int .i64 x] w (Ret w (.bool true)) := by
  refine f6_calls _ _ ?_
  have fin : ∀ {w'}, Grow w w' → Calls Tryd.prog 21 #[] w' fun e w'' => ∃ t : Bool, e = .returned (.bool t) ∧ Ret w (.bool true) (.returned (.bool t)) w'' := fun hg => (awake_c (hT.grow hg)).mono (by
    rintro e w'' ⟨rfl, g⟩
    exact ⟨_, rfl, rfl, hg.trans g⟩)
  refine (of_c hs).mono ?_
  rintro e w1 ⟨v1, rfl, h1, g1⟩
  by_cases hv : VG G
  · obtain ⟨N, rfl⟩ := VG_nat hv
    have hN : VN N := VG_ofN.1 hv
    have h12 := hN.le
    have hp := hN.pow
    rw [take_VN hN] at h1
    refine ⟨v1, rfl, (Order_c h1.slI hN (hT.grow g1)).mono ?_⟩
    rintro e w2 ⟨o, rfl, -, g2⟩
    have g02 := g1.trans g2
    refine ⟨o, _, rfl, (of_c (hs.grow g02)).mono ?_⟩
    rintro e w3 ⟨v3, rfl, h3, g3⟩
    have g03 := g02.trans g3
    rw [take_VN hN] at h3
    refine ⟨v3, rfl, (Model_any h3.slI hN (hT.grow g03)).mono ?_⟩
    rintro e w4 ⟨m, rfl, -, -, g4⟩
    have g04 := g03.trans g4
    refine ⟨m, _, rfl, condP_i (fun _ => fin g04) fun _ => hs.ln (condD (fun _ => fin g04) fun h2 => hs.ln (condD (fun _ => fin g04) fun _ => hs.ln ?_))⟩
    rw [ofN_len] at h2 ⊢
    obtain ⟨hne, k, hk, hxk⟩ := modx (x := x) hN.one h12
    rw [hxk]
    refine ⟨hne, (of_c (hs.grow g04)).mono ?_⟩
    rintro e w5 ⟨v5, rfl, h5, g5⟩
    have g05 := g04.trans g5
    rw [take_VN hN] at h5
    refine ⟨v5, rfl, h5.slI.ln ?_⟩
    rw [ofN_len]
    have h2' : 2 ≤ N.length := by omega
    refine ⟨fun h t w' => ∃ i : Nat, t = i ∧ i ≤ N.length ∧ OwnI w' w5.heap.size h (ofN ((rmN N k).take (if i ≤ k then i else i - 1))) ∧ Grow w5 w', fun _ t _ => N.length - t.toNat, ⟨0, rfl, by omega, by rw [if_pos (Nat.zero_le _), List.take_zero]; exact Own.nil _ _ _ _, Grow.refl _⟩, ?_⟩
    rintro - h t w6 ⟨i, rfl, hi, ho, g6⟩
    refine condD (fun hlt => ?_) (fun hge => ?_)
    · have hil : i < N.length := by omega
      refine (h5.slI.grow g6).rd rfl (by simpa using hil) ?_
      rw [ofN_get, nb_get]
      refine condP_i (fun hik => ?_) (fun hik => ?_)
      · have hik : i ≠ k := fun e => by subst e; simp at hik
        intro d
        have hmask : (iShl .i64 1 (k : Int)) - 1 = ((2 ^ k - 1 : Nat) : Int) := by
          have : 0 < 2 ^ k := Nat.pow_pos (by omega)
          rw [iShl_one (by omega)]; omega
        have hk4 : 2 ^ k ≤ 4096 := pow12 (by omega)
        have hk1 : ((k : Int) + 1) = ((k + 1 : Nat) : Int) := by omega
        rw [hmask, hk1]
        have hnb := hN.nb_lt' i
        have hsh : nb N i >>> (k + 1) < 4096 := by
          rw [Nat.shiftRight_eq_div_pow]
          exact Nat.lt_of_le_of_lt (Nat.div_le_self _ _) hnb
        have hmul : (nb N i >>> (k + 1)) * 2 ^ k < 9223372036854775808 := by
          have : (nb N i >>> (k + 1)) * 2 ^ k ≤ 4096 * 4096 := Nat.mul_le_mul (by omega) hk4
          omega
        have e1 : iOr .i64 (iAnd .i64 ((nb N i : Nat) : Int) ((2 ^ k - 1 : Nat) : Int)) (iShl .i64 (iShr .i64 ((nb N i : Nat) : Int) ((k + 1 : Nat) : Int)) (k : Int)) = ((del k (nb N i) : Nat) : Int) := by
          rw [iAnd_nat (by omega) (by omega), iShr_nat (by omega), iShl_nat (by omega) hmul, iOr_nat (Nat.lt_of_le_of_lt Nat.and_le_left (by omega)) hmul]
          rfl
        refine ⟨by omega, by unfold inR; omega, by unfold inR; omega, by omega, by omega, fun w7 hw7 => ?_⟩
        rw [e1] at hw7
        refine pappT el_cgraph hw7 (ho.dr d) (by simpa using g6.size) (by simp; omega) ?_
        intro v' w8 ho' hf'
        refine ⟨by unfold inR; omega, ⟨i + 1, by omega, by omega, ?_, own_grow (g6.dr d) (ho.dr d) (Nat.le_refl _) hw7 hf'⟩, by dsimp only; omega⟩
        have hidx : sk k (if i ≤ k then i else i - 1) = i := by unfold sk; split <;> split <;> omega
        have hlt' : (if i ≤ k then i else i - 1) < N.length - 1 := by split <;> omega
        have e2 : (if i + 1 ≤ k then i + 1 else i + 1 - 1) = (if i ≤ k then i else i - 1) + 1 := by split <;> split <;> omega
        rw [e2, List.take_succ_eq_append_getElem (by simpa using hlt'), ofN_app, nb_get, nb_rm hlt', hidx]
        exact ho'
      · have hik : i = k := by
          simp only [Bool.not_eq_false', decide_eq_true_eq] at hik
          omega
        subst hik
        refine ⟨by unfold inR; omega, ⟨i + 1, by omega, by omega, ?_, g6⟩, by dsimp only; omega⟩
        rw [if_neg (by omega), show i + 1 - 1 = i by omega]
        rw [if_pos (Nat.le_refl _)] at ho
        exact ho
    · have hil : i = N.length := by omega
      subst hil
      rw [if_neg (by omega), List.take_of_length_le (by simp)] at ho
      have g06 := g05.trans g6
      have hM := hN.rm h2' hk
      refine (Order_c ho.slI hM (hT.grow g06)).mono ?_
      rintro e w7 ⟨o7, rfl, -, g7⟩
      have g07 := g06.trans g7
      refine ⟨o7, _, rfl, (Model_any (ho.slI.grow g7) hM (hT.grow g07)).mono ?_⟩
      rintro e w8 ⟨m8, rfl, -, -, g8⟩
      have g08 := g07.trans g8
      refine ⟨m8, _, rfl, ?_⟩
      have ne2 : ((if (ordG (rmN N k)).isSome = true then (0 : Int) else 7) = 2) = False := by split <;> simp
      have m0 : modE N = 0 → modE (rmN N k) = 0 := fun h => by
        unfold modE at h ⊢
        split at h
        · rename_i hh
          rw [Bool.and_eq_true] at hh
          rw [ord_rm hN h2' hk hh.1, at_rm hN h2' hk (by simpa using hh.2)]
          rfl
        · simp at h
      have o0 : (ordG N).isSome = true → (if (ordG (rmN N k)).isSome = true then (0 : Int) else 7) = 0 := fun h => by rw [ord_rm hN h2' hk h]; rfl
      refine condP_i (fun hA => ?_) (fun hA => ?_)
      · refine condP_i (fun hB => cT (by simp [ne2]) (fin g08)) (fun hB => condD (fun _ => cT (by simp [ne2]) (fin g08)) fun h => ?_)
        exact absurd (m0 (by simpa using hB)) h
      · have hos : (ordG N).isSome = true := by
          cases h : (ordG N).isSome with
          | true => rfl
          | false => rw [h] at hA; simp at hA
        refine condD (fun _ => condP_i (fun hB => cT (by simp [ne2]) (fin g08)) (fun hB => condD (fun _ => cT (by simp [ne2]) (fin g08)) fun h => ?_)) fun h => absurd (o0 hos) h
        exact absurd (m0 (by simpa using hB)) h
  · refine ⟨v1, rfl, (Order_no h1.slI (VG_take hv)).mono ?_⟩
    rintro e w2 ⟨rfl, g2⟩
    have g02 := g1.trans g2
    refine ⟨_, _, rfl, (of_c (hs.grow g02)).mono ?_⟩
    rintro e w3 ⟨v3, rfl, h3, g3⟩
    have g03 := g02.trans g3
    refine ⟨v3, rfl, (Model_no h3.slI (VG_take hv)).mono ?_⟩
    rintro e w4 ⟨rfl, g4⟩
    exact ⟨_, _, rfl, cT rfl (fin (g03.trans g4))⟩
end Go.Proofs.YtmpjanpmkmlloaaDoor

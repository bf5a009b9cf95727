/- Plain: other names for the variables, and another order of the atoms. No program. No condition. -/
import Derived.Test.YtddpjdlhgggbkaaLacyclic
namespace Go.Proofs.Ytddpjdlhgggbkaa
open VC
set_option linter.unusedSimpArgs false
set_option linter.unusedVariables false

def trn (d : Nat) (x : Int) : Int := if x < 0 ∨ 7 < x then x else (x + d) % 8
def trnA (d : Nat) (a : Atm) : Atm := (a.1, a.2.map (trn d))
def trnB (d : Nat) (b : List Atm) : List Atm := b.map (trnA d)
def sg (d x : Nat) : Nat := if x < 8 then (x + d) % 8 else x
def renV (d : Nat) (m : Vals) : Vals := (List.range 8).map fun i => m.getD ((i + 8 - d) % 8) 0
theorem trn_inj {d : Nat} (hd : d < 8) {x y : Int} (h : trn d x = trn d y) : x = y := by
  unfold trn at h
  split at h <;> split at h <;> omega
theorem trn_rng {d : Nat} (hd : d < 8) {x : Int} : (0 ≤ trn d x ∧ trn d x ≤ 7) ↔ (0 ≤ x ∧ x ≤ 7) := by
  unfold trn
  split <;> omega
theorem okT_trn {d : Nat} (hd : d < 8) (x : Int) : okT (trn d x) = okT x := by
  unfold okT trn
  rw [Bool.eq_iff_iff]
  simp only [Bool.and_eq_true, decide_eq_true_eq]
  split <;> omega
theorem okA_trn {d : Nat} (hd : d < 8) (a : Atm) : okA (trnA d a) = okA a := by
  unfold okA trnA
  dsimp only
  rw [List.length_map, List.all_map]
  congr 1
  refine List.all_congr rfl fun x => ?_
  exact okT_trn hd x
theorem sg_trn {d : Nat} (hd : d < 8) (x : Nat) : trn d (x : Int) = (sg d x : Int) := by
  unfold trn sg
  split <;> split <;> omega
theorem sg_surj {d : Nat} (hd : d < 8) (y : Nat) : ∃ x, sg d x = y := by
  rcases Nat.lt_or_ge y 8 with h | h
  · refine ⟨(y + 8 - d) % 8, ?_⟩
    unfold sg
    rw [if_pos (by omega)]
    omega
  · refine ⟨y, ?_⟩
    unfold sg
    rw [if_neg (by omega)]
theorem mem_trn {d : Nat} (hd : d < 8) {xs : List Int} {x : Int} : trn d x ∈ xs.map (trn d) ↔ x ∈ xs := by
  rw [List.mem_map]
  constructor
  · rintro ⟨y, hy, e⟩
    exact trn_inj hd e ▸ hy
  · exact fun h => ⟨x, h, rfl⟩
theorem flat_trn {d : Nat} (hd : d < 8) (b : List Atm) : (trnB d b).flatMap Prod.snd = (b.flatMap Prod.snd).map (trn d) := by
  unfold trnB trnA
  rw [List.flatMap_map, List.map_flatMap]
theorem okH_trn {d : Nat} (hd : d < 8) (b : List Atm) (x : Int) : okH (varsB (trnB d b)) (trn d x) = okH (varsB b) x := by
  rw [Bool.eq_iff_iff]
  unfold okH
  simp only [Bool.and_eq_true, decide_eq_true_eq]
  rw [trn_rng hd]
  refine and_congr_right fun hx => ?_
  have hx2 := (trn_rng hd).2 hx
  rw [varsB_bit, varsB_bit, Int.toNat_of_nonneg hx2.1, Int.toNat_of_nonneg hx.1, flat_trn hd, mem_trn hd]
theorem okQ_trn {d : Nat} (hd : d < 8) (h : List Int) (b : List Atm) : okQ (h.map (trn d)) (trnB d b) = okQ h b := by
  unfold okQ
  rw [List.length_map]
  have e1 : (trnB d b).length = b.length := by simp [trnB]
  have e2 : (trnB d b).all okA = b.all okA := by
    unfold trnB
    rw [List.all_map]
    exact List.all_congr rfl fun a => okA_trn hd a
  have e3 : (h.map (trn d)).all (okH (varsB (trnB d b))) = h.all (okH (varsB b)) := by
    rw [List.all_map]
    exact List.all_congr rfl fun x => okH_trn hd b x
  rw [e1, e2, e3]
theorem renV_get {d : Nat} (hd : d < 8) (m : Vals) {i : Nat} (hi : i < 8) : (renV d m).getD i 0 = m.getD ((i + 8 - d) % 8) 0 := by simp [renV, List.getD, hi]
theorem renV_len {d : Nat} (m : Vals) : (renV d m).length = 8 := by simp [renV]
theorem ofV_ren {d : Nat} (hd : d < 8) (m : Vals) {x : Int} (hx : x ≤ 7) : ofV (renV d m) (trn d x) = ofV m x := by
  unfold ofV
  by_cases h0 : x < 0
  · have : trn d x = x := by unfold trn; rw [if_pos (.inl h0)]
    rw [this, if_pos h0, if_pos h0]
  · have hr := (trn_rng hd (x := x)).2 ⟨by omega, hx⟩
    rw [if_neg (by omega), if_neg h0, renV_get hd m (by omega)]
    congr 1
    unfold trn
    rw [if_neg (by omega)]
    omega
theorem IsM.ren {d : Nat} (hd : d < 8) {fs b : List Atm} {m : Vals} (hb : ∀ a ∈ b, TermA a) (h : IsM fs b m) : IsM fs (trnB d b) (renV d m) := by
  refine ⟨renV_len m, fun i hi => ?_, fun a ha => ?_⟩
  · rw [renV_get hd m hi, h.dom _ (by omega), flat_trn hd]
    have e : (i : Int) = trn d (((i + 8 - d) % 8 : Nat) : Int) := by
      unfold trn
      rw [if_neg (by omega)]
      omega
    rw [e, mem_trn hd]
  · unfold trnB at ha
    obtain ⟨a0, ha0, rfl⟩ := List.mem_map.1 ha
    have := h.hit a0 ha0
    unfold imgA at this ⊢
    unfold trnA
    dsimp only at this ⊢
    rw [List.map_map]
    have e : a0.2.map (ofV (renV d m) ∘ trn d) = a0.2.map (ofV m) := List.map_congr_left fun x hx => ofV_ren hd m (hb a0 ha0 x hx).2
    rw [e]
    exact this
theorem trn_back {d : Nat} (hd : d < 8) {x : Int} : trn ((8 - d) % 8) (trn d x) = x := by
  unfold trn
  by_cases h : x < 0 ∨ 7 < x
  · rw [if_pos h, if_pos h]
  · rw [if_neg h, if_neg (by omega)]
    omega
theorem trnB_back {d : Nat} (hd : d < 8) (b : List Atm) : trnB ((8 - d) % 8) (trnB d b) = b := by
  unfold trnB trnA
  rw [List.map_map]
  conv => rhs; rw [← List.map_id b]
  refine List.map_congr_left fun a _ => ?_
  obtain ⟨r, xs⟩ := a
  show (r, (xs.map (trn d)).map (trn ((8 - d) % 8))) = (r, xs)
  rw [List.map_map]
  congr 1
  conv => rhs; rw [← List.map_id xs]
  exact List.map_congr_left fun x _ => trn_back hd
theorem renV_back {d : Nat} (hd : d < 8) {m : Vals} (hm : m.length = 8) : renV ((8 - d) % 8) (renV d m) = m := by
  refine vals_ext (renV_len _) hm fun i hi => ?_
  rw [renV_get (d := (8 - d) % 8) (by omega) _ hi, renV_get hd _ (by omega)]
  congr 1
  omega
theorem term_trn {d : Nat} (hd : d < 8) {b : List Atm} (hb : ∀ a ∈ b, TermA a) : ∀ a ∈ trnB d b, TermA a := fun a ha => by
  unfold trnB at ha
  obtain ⟨a0, ha0, rfl⟩ := List.mem_map.1 ha
  intro x hx
  unfold trnA at hx
  obtain ⟨y, hy, rfl⟩ := List.mem_map.1 hx
  have := hb a0 ha0 y hy
  unfold trn
  split <;> omega
theorem len_trn {d : Nat} (hd : d < 8) {fs b : List Atm} (hf : PosF fs) (hn : fs.Nodup) (hb : ∀ a ∈ b, TermA a) : (allM fs b).length ≤ (allM fs (trnB d b)).length := by
  have h1 := (allM_st hf hn hb).nodup
  have h2 : ((allM fs b).map (renV d)).Nodup := by
    refine List.pairwise_map.2 (h1.imp_of_mem fun {a c} ha hc hne e => hne ?_)
    have la := ((mem_allM hf hb).1 ha).len
    have lc := ((mem_allM hf hb).1 hc).len
    rw [← renV_back hd la, ← renV_back hd lc, e]
  have := sub_len h2 (l' := allM fs (trnB d b)) fun m hm => by
    obtain ⟨m0, hm0, rfl⟩ := List.mem_map.1 hm
    exact (mem_allM hf (term_trn hd hb)).2 (((mem_allM hf hb).1 hm0).ren hd hb)
  rwa [List.length_map] at this
theorem len_trn_eq {d : Nat} (hd : d < 8) {fs b : List Atm} (hf : PosF fs) (hn : fs.Nodup) (hb : ∀ a ∈ b, TermA a) : (allM fs (trnB d b)).length = (allM fs b).length := by
  refine Nat.le_antisymm ?_ (len_trn hd hf hn hb)
  have := len_trn (d := (8 - d) % 8) (by omega) hf hn (term_trn hd hb)
  rwa [trnB_back hd] at this
theorem rows_trn {d : Nat} (hd : d < 8) {fs b : List Atm} {h : List Int} (hf : PosF fs) (hb : ∀ a ∈ b, TermA a) (hh : ∀ x ∈ h, x ≤ 7) : rowsOf (h.map (trn d)) (allM (srtF fs) (trnB d b)) = rowsOf h (allM (srtF fs) b) := by
  refine str_uniq (str_srt key_id _) (str_srt key_id _) fun y => ?_
  rw [mem_rows hf (term_trn hd hb), mem_rows hf hb]
  have row : ∀ m : Vals, (h.map (trn d)).map (ofV (renV d m)) = h.map (ofV m) := fun m => by
    rw [List.map_map]
    exact List.map_congr_left fun x hx => ofV_ren hd m (hh x hx)
  constructor
  · rintro ⟨m, hm, rfl⟩
    have h2 := hm.ren (d := (8 - d) % 8) (by omega) (term_trn hd hb)
    rw [trnB_back hd] at h2
    refine ⟨_, h2, ?_⟩
    rw [← row]
    have e := renV_back (d := (8 - d) % 8) (by omega) hm.len
    rw [show (8 - (8 - d) % 8) % 8 = d by omega] at e
    rw [e]
  · rintro ⟨m, hm, rfl⟩
    exact ⟨_, hm.ren hd hb, (row m).symm⟩
theorem resO_trn {d : Nat} (hd : d < 8) (h : List Int) (b l : List Atm) : resO (h.map (trn d)) (trnB d b) l = resO h b l := by
  unfold resO
  rw [okQ_trn hd]
  by_cases hq : (okQ h b && okFs l) = true
  · rw [if_pos hq, if_pos hq]
    rw [Bool.and_eq_true] at hq
    have hb := okB_term hq.1
    have hf := okF_pos hq.2
    have tk : ∀ k, (trnB d b).take k = trnB d (b.take k) := fun k => by unfold trnB; rw [List.map_take]
    have len : ∀ k, (allM (srtF l) ((trnB d b).take k)).length = (allM (srtF l) (b.take k)).length := fun k => by
      rw [tk]
      exact len_trn_eq hd (srtF_pos hf) (srtF_nodup l) fun a ha => hb a (List.mem_of_mem_take ha)
    have hl : (trnB d b).length = b.length := by simp [trnB]
    have h7 : ∀ x ∈ h, x ≤ 7 := fun x hx => by
      have := hq.1
      simp only [okQ, Bool.and_eq_true, List.all_eq_true] at this
      have := this.2 x hx
      simp only [okH, Bool.and_eq_true, decide_eq_true_eq] at this
      omega
    have rw1 := rows_trn (h := h) hd hf hb h7
    by_cases hk : ∀ k, 1 ≤ k → k ≤ b.length → (allM (srtF l) (b.take k)).length ≤ 20000
    · rw [runF_some.2 ⟨rfl, hk⟩, runF_some.2 ⟨rfl, fun k h1 h2 => by rw [len]; exact hk k h1 (by omega)⟩]
      show ((0 : Int), _) = (0, _)
      rw [rw1]
    · have n1 : runF l b = none := by
        cases e : runF l b with
        | none => rfl
        | some ms => exact absurd (runF_some.1 e).2 hk
      have n2 : runF l (trnB d b) = none := by
        cases e : runF l (trnB d b) with
        | none => rfl
        | some ms => exact absurd (fun k h1 h2 => by rw [← len]; exact (runF_some.1 e).2 k h1 (by omega)) hk
      rw [n1, n2]
  · rw [if_neg hq, if_neg hq]
/-! ## What is left -/
def Ren (d : Nat) (V V' : List Nat) : Prop := V'.length = V.length ∧ ∀ i x, (V'.getD i 0).testBit (sg d x) = (V.getD i 0).testBit x
theorem ren_init {d : Nat} (hd : d < 8) (b : List Atm) (hb : ∀ a ∈ b, TermA a) : Ren d (varsOf b) (varsOf (trnB d b)) := by
  refine ⟨by simp [varsOf, trnB], fun i x => ?_⟩
  rcases Nat.lt_or_ge i b.length with hi | hi
  · have e1 : (varsOf (trnB d b)).getD i 0 = varsL (b[i].2.map (trn d)) := by simp [varsOf, trnB, trnA, List.getD, hi]
    have e2 : (varsOf b).getD i 0 = varsL b[i].2 := by simp [varsOf, List.getD, hi]
    rw [e1, e2, Bool.eq_iff_iff, varsL_bit, varsL_bit, ← sg_trn hd, mem_trn hd]
  · have e1 : (varsOf (trnB d b)).getD i 0 = 0 := by simp [varsOf, trnB, List.getD, hi]
    have e2 : (varsOf b).getD i 0 = 0 := by simp [varsOf, List.getD, hi]
    rw [e1, e2, Nat.zero_testBit, Nat.zero_testBit]
theorem Ren.cutN {d : Nat} (hd : d < 8) {n left : Nat} {V V' : List Nat} (h : Ren d V V') (hl : V.length = n) {i : Nat} (hi : i < n) : Ren d (cutN n left V i) (cutN n left V' i) := by
  have hl' : V'.length = n := h.1.trans hl
  refine ⟨by unfold Go.Proofs.Ytddpjdlhgggbkaa.cutN; simp [h.1], fun j x => ?_⟩
  rw [cut_get hl hi, cut_get hl' hi]
  split
  · rw [Nat.testBit_and, Nat.testBit_and, h.2]
    congr 1
    rw [Bool.eq_iff_iff, oth_bit, oth_bit]
    exact ⟨fun ⟨k, a, b, c, e⟩ => ⟨k, a, b, c, by rw [← h.2]; exact e⟩, fun ⟨k, a, b, c, e⟩ => ⟨k, a, b, c, by rw [h.2]; exact e⟩⟩
  · exact h.2 j x
theorem cutK_len {n left : Nat} {V : List Nat} (hl : V.length = n) : ∀ k, (cutK n left V k).length = n
  | 0 => hl
  | k + 1 => by rw [cutK_succ]; unfold Go.Proofs.Ytddpjdlhgggbkaa.cutN; rw [List.length_set]; exact cutK_len hl k
theorem Ren.cutK {d : Nat} (hd : d < 8) {n left : Nat} {V V' : List Nat} (h : Ren d V V') (hl : V.length = n) : ∀ k, k ≤ n → Ren d (cutK n left V k) (cutK n left V' k)
  | 0, _ => h
  | k + 1, hk => by
    rw [cutK_succ, cutK_succ]
    exact Ren.cutN hd (Ren.cutK hd h hl k (by omega)) (cutK_len hl k) (by omega)
theorem Ren.ear {d : Nat} (hd : d < 8) {left : Nat} {V V' : List Nat} (h : Ren d V V') : earT left V' = earT left V := by
  funext i k
  rw [Bool.eq_iff_iff, earT_iff, earT_iff]
  refine and_congr_right fun _ => and_congr_right fun _ => and_congr_right fun _ => ⟨fun h1 x hx => ?_, fun h1 y hy => ?_⟩
  · rw [← h.2]
    exact h1 _ (by rw [h.2]; exact hx)
  · obtain ⟨x, rfl⟩ := sg_surj hd y
    rw [h.2] at hy ⊢
    exact h1 x hy
theorem pick_congr {n left : Nat} {V V' : List Nat} (h : earT left V' = earT left V) (m : Nat) : pickN n left V' m = pickN n left V m := by
  unfold pickN pickIn
  rw [h]
theorem EarsR.ren {d : Nat} (hd : d < 8) {n left : Nat} {V : List Nat} {p : List Int} {l2 : Nat} {p2 : List Int} (h : EarsR n left V p l2 p2) : ∀ {V' : List Nat}, V.length = n → Ren d V V' → EarsR n left V' p l2 p2 := by
  induction h with
  | @stop left V p h1 =>
    intro V' hl hr
    exact .stop (by rw [pick_congr (Ren.ear hd (Ren.cutK hd (left := left) hr hl n (Nat.le_refl n)))]; exact h1)
  | @go left V p i k l2 p2 h1 _ ih =>
    intro V' hl hr
    have h2 := Ren.cutK hd (left := left) hr hl n (Nat.le_refl n)
    exact .go (by rw [pick_congr (Ren.ear hd h2)]; exact h1) (ih (cutK_len hl n) h2)
/-! ## Turned around -/
theorem okQ_rev (h : List Int) (b : List Atm) : okQ h b.reverse = okQ h b := by
  unfold okQ
  rw [List.length_reverse, List.all_reverse]
  congr 1
  refine List.all_congr rfl fun x => ?_
  rw [Bool.eq_iff_iff]
  unfold okH
  simp only [Bool.and_eq_true, decide_eq_true_eq]
  refine and_congr_right fun _ => ?_
  rw [varsB_bit, varsB_bit, List.mem_flatMap, List.mem_flatMap]
  simp only [List.mem_reverse]
theorem IsM.rev {fs b : List Atm} {m : Vals} : IsM fs b.reverse m ↔ IsM fs b m := by
  have key : ∀ i : Nat, (i : Int) ∈ b.reverse.flatMap Prod.snd ↔ (i : Int) ∈ b.flatMap Prod.snd := fun i => by
    rw [List.mem_flatMap, List.mem_flatMap]
    simp only [List.mem_reverse]
  constructor
  · exact fun h => ⟨h.len, fun i hi => (h.dom i hi).trans (key i), fun a ha => h.hit a (List.mem_reverse.2 ha)⟩
  · exact fun h => ⟨h.len, fun i hi => (h.dom i hi).trans (key i).symm, fun a ha => h.hit a (List.mem_reverse.1 ha)⟩
theorem resO_rev (h : List Int) (b l : List Atm) : (resO h b l).1 = 3 ∨ (resO h b.reverse l).1 = 3 ∨ resO h b.reverse l = resO h b l := by
  by_cases hq : (okQ h b && okFs l) = true
  · rcases resO_cases h b l with h0 | h0 | h0
    · rcases resO_cases h b.reverse l with h1 | h1 | h1
      · refine .inr (.inr (Prod.ext (h1.trans h0.symm) ?_))
        obtain ⟨a1, a2, a3⟩ := resO_ok h0
        obtain ⟨b1, b2, b3⟩ := resO_ok h1
        rw [a3, b3]
        refine str_uniq (str_srt key_id _) (str_srt key_id _) fun y => ?_
        rw [mem_rows (okF_pos a2) (okB_term b1), mem_rows (okF_pos a2) (okB_term a1)]
        simp only [IsM.rev]
      · exfalso
        unfold resO at h1
        rw [okQ_rev, if_pos hq] at h1
        split at h1 <;> simp at h1
      · exact .inr (.inl h1)
    · exfalso
      unfold resO at h0
      rw [if_pos hq] at h0
      split at h0 <;> simp at h0
    · exact .inl h0
  · refine .inr (.inr ?_)
    unfold resO
    rw [okQ_rev, if_neg hq, if_neg hq]
/-- Atoms may be renamed, and their variables turned, if what any two share stays. -/
theorem Elim.map2 {vs vs' : Nat → Nat → Prop} {f : Nat → Nat} {S : Nat → Prop} {n : Nat} (h : Elim vs S n) : (∀ a b, S a → S b → f a = f b → a = b) → (∀ a b, S a → S b → a ≠ b → ∀ x, (vs a x ∧ vs b x ↔ vs' (f a) x ∧ vs' (f b) x)) → ∀ {S' : Nat → Prop}, (∀ j', S' j' ↔ ∃ j, S j ∧ f j = j') → Elim vs' S' n := by
  induction h with
  | @one S i hi =>
    intro _ _ S' hS'
    refine .one (i := f i) fun j' => ?_
    rw [hS']
    constructor
    · rintro ⟨j, hj, rfl⟩
      rw [(hi j).1 hj]
    · rintro rfl
      exact ⟨i, (hi i).2 rfl, rfl⟩
  | @step S i k n he hr ih =>
    intro hinj hsh S' hS'
    obtain ⟨h1, h2, h3, h4⟩ := he
    refine .step (i := f i) (k := f k) ⟨(hS' _).2 ⟨i, h1, rfl⟩, (hS' _).2 ⟨k, h2, rfl⟩, fun e => h3 (hinj _ _ h1 h2 e), fun j' hj' hne x hx hy => ?_⟩ ?_
    · obtain ⟨j, hj, rfl⟩ := (hS' _).1 hj'
      have hji : j ≠ i := fun e => hne (by rw [e])
      have h5 := (hsh i j h1 hj (Ne.symm hji) x).2 ⟨hx, hy⟩
      exact ((hsh i k h1 h2 h3 x).1 ⟨h5.1, h4 j hj hji x h5.1 h5.2⟩).2
    · refine ih (fun a b ha hb => hinj a b ha.1 hb.1) (fun a b ha hb => hsh a b ha.1 hb.1) fun j' => ?_
      unfold Wo
      rw [hS']
      constructor
      · rintro ⟨⟨j, hj, rfl⟩, hne⟩
        exact ⟨j, ⟨hj, fun e => hne (by rw [e])⟩, rfl⟩
      · rintro ⟨j, ⟨hj, hne⟩, rfl⟩
        exact ⟨⟨j, hj, rfl⟩, fun e => hne (hinj _ _ hj h1 e)⟩
theorem rest_rev {h : List Int} {b : List Atm} (ok : okQ h b = true) {l2 l3 : Nat} {p2 p3 : List Int} (hE : EarsR b.length (2 ^ b.length - 1) (varsOf b) (List.replicate b.length (-1)) l2 p2) (hl : l2 < 2 ^ b.length) (hE3 : EarsR b.length (2 ^ b.length - 1) (varsOf b.reverse) (List.replicate b.length (-1)) l3 p3) (hl3 : l3 < 2 ^ b.length) : restV l2 = 0 ↔ restV l3 = 0 := by
  have hbl := okQ_len ok
  have flip : ∀ {c : List Atm} {m : Nat}, Elim (fun i x => hasV c i x = true) (InS c.length (2 ^ c.length - 1)) m → Elim (fun i x => hasV c.reverse i x = true) (InS c.length (2 ^ c.length - 1)) m := fun {c m} he => by
    refine he.map2 (f := fun i => c.length - 1 - i) ?_ ?_ ?_
    · intro a b ha hb e
      have h1 := ha.1
      have h2 := hb.1
      omega
    · intro a b ha hb hne x
      have h1 := ha.1
      have h2 := hb.1
      have hv : ∀ i, i < c.length → hasV c.reverse (c.length - 1 - i) x = hasV c i x := fun i hi => by
        unfold hasV varsOf
        congr 1
        simp only [List.getD, List.getElem?_map, List.map_reverse]
        rw [List.getElem?_reverse (by simp; omega)]
        simp only [List.length_map, List.getElem?_map]
        rw [show c.length - 1 - (c.length - 1 - i) = i by omega]
      rw [hv a h1, hv b h2]
    · intro j'
      rw [inS_all]
      constructor
      · intro hj
        exact ⟨c.length - 1 - j', inS_all.2 (by omega), by omega⟩
      · rintro ⟨j, hj, rfl⟩
        have := inS_all.1 hj
        omega
  have hI3 := earI_init b.reverse
  rw [List.length_reverse] at hI3
  have e3 : b.reverse.length = b.length := List.length_reverse
  have s3 : restV l3 = 0 ↔ Single b.length l3 := by
    have := rest_single (b := b.reverse) (by omega) (by omega) (l2 := l3) (p2 := p3) (by rw [e3]; exact hE3) (by rw [e3]; exact hl3)
    rwa [e3] at this
  rw [rest_single hbl.1 hbl.2.1 hE hl, s3, ears_single hE (earI_init b), ears_single hE3 hI3]
  constructor
  · rintro ⟨m, hm⟩
    exact ⟨m, flip hm⟩
  · rintro ⟨m, hm⟩
    have := flip (c := b.reverse) (m := m) (by rw [e3]; exact hm)
    rw [List.reverse_reverse, e3] at this
    exact ⟨m, this⟩
end Go.Proofs.Ytddpjdlhgggbkaa

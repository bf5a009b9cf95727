/- The first homomorphism: what it is; the program's search. No condition. -/
import Derived.Test.YtjkphmbjdleppaaMw
namespace Go.Proofs.Ytjkphmbjdleppaa
open Go Go.RowKit VC
set_option linter.unusedSimpArgs false
set_option linter.unusedVariables false

/-! ## The first -/
/-- The first of what P holds of. -/
def FirstL (P : List Int → Prop) : Option (List Int) → Prop
  | some h => P h ∧ ∀ h', P h' → cmpL h h' ≤ 0
  | none => ∀ h, ¬ P h
theorem FirstL.uniq {P : List Int → Prop} : ∀ {o o' : Option (List Int)}, FirstL P o → FirstL P o' → o = o'
  | none, none, _, _ => rfl
  | none, some h, h1, h2 => absurd h2.1 (h1 h)
  | some h, none, h1, h2 => absurd h1.1 (h2 h)
  | some h, some g, h1, h2 => by
    have a := h1.2 g h2.1
    have b := h2.2 h h1.1
    have := cmpL_swap h g
    rw [cmpL_zero.1 (show cmpL h g = 0 by omega)]
theorem FirstL.congr {P Q : List Int → Prop} (hpq : ∀ h, P h ↔ Q h) {o : Option (List Int)} (h : FirstL P o) : FirstL Q o := by
  cases o with
  | none => exact fun g hg => h g ((hpq g).2 hg)
  | some x => exact ⟨(hpq x).1 h.1, fun g hg => h.2 g ((hpq g).2 hg)⟩
theorem cmpL_pre (p u v : List Int) : cmpL (p ++ u) (p ++ v) = cmpL u v := by
  induction p with
  | nil => rfl
  | cons a r ih =>
    rw [List.cons_append, List.cons_append, cmpL]
    have : cmpI a a = 0 := cmpI_zero.2 rfl
    rw [if_pos this, ih]
theorem cmpL_at {g h : List Int} {x : Nat} (hg : x < g.length) (hh : x < h.length) (hpre : g.take x = h.take x) (hlt : g[x] < h[x]) : cmpL g h < 0 := by
  rw [← List.take_append_drop x g, ← List.take_append_drop x h, hpre, cmpL_pre, List.drop_eq_getElem_cons hg, List.drop_eq_getElem_cons hh, cmpL]
  have : cmpI g[x] h[x] = -1 := by unfold cmpI; rw [if_pos hlt]
  rw [this, if_neg (by decide)]
  decide
theorem take_ext {g h : List Int} {x : Nat} (hg : x ≤ g.length) (hh : x ≤ h.length) (he : ∀ i, i < x → g.getD i 0 = h.getD i 0) : g.take x = h.take x := by
  apply List.ext_getElem (by simp; omega)
  intro i h1 h2
  have hi : i < x := by simp at h1; omega
  have := he i hi
  simp only [List.getElem_take]
  simpa [List.getD, show i < g.length by omega, show i < h.length by omega] using this
/-- A homomorphism that agrees with what is known (99: not known). -/
def AgH (hp : List Int) (bp : List Atm) (hq : List Int) (bq : List Atm) (h : List Int) (g : List Int) : Prop := IsHom hp bp hq bq g ∧ ∀ i, i < 8 → h.getD i 0 ≠ 99 → g.getD i 0 = h.getD i 0
/-- What the search begins with at variable x. -/
structure StH (hp : List Int) (bp : List Atm) (hq : List Int) (x : Nat) (h : List Int) : Prop where
  len : h.length = 8
  term : ∀ i, i < 8 → h.getD i 0 ≠ 99 → (varsB bp).testBit i = true ∧ -9 ≤ h.getD i 0 ∧ h.getD i 0 ≤ 7
  done : ∀ i, i < x → i < 8 → (varsB bp).testBit i = true → h.getD i 0 ≠ 99
  head : ∀ k (hk : k < hp.length), h.getD (hp[k]).toNat 0 = hq.getD k 0
/-- All variables of an atom are known. -/
def KnA (h : List Int) (a : Atm) : Prop := ∀ y ∈ a.2, y < 0 ∨ h.getD y.toNat 0 ≠ 99
section
variable {hp hq : List Int} {bp bq : List Atm} {h g : List Int}
theorem imgH_ag (hT : ∀ a ∈ bp, TermA a) {a : Atm} (ha : a ∈ bp) (hk : KnA h a) (hg : ∀ i, i < 8 → h.getD i 0 ≠ 99 → g.getD i 0 = h.getD i 0) : imgH g a = imgH h a := by
  unfold imgH
  congr 1
  refine List.map_congr_left fun y hy => ?_
  unfold imgT
  split
  · have := hT a ha y hy
    rcases hk y hy with h1 | h1
    · omega
    · exact hg _ (by omega) h1
  · rfl
/-- An atom all of whose variables are known is not there: nothing agrees. -/
theorem none_of_atom (hT : ∀ a ∈ bp, TermA a) {a : Atm} (ha : a ∈ bp) (hk : KnA h a) (hn : imgH h a ∉ bq) : FirstL (AgH hp bp hq bq h) none := fun g hg => hn (by
  rw [← imgH_ag hT ha hk hg.2]
  exact hg.1.atoms a ha)
/-- All is known: it is a homomorphism itself. -/
theorem first_all (hT : ∀ a ∈ bp, TermA a) (hS : StH hp bp hq 8 h) (hat : ∀ a ∈ bp, KnA h a → imgH h a ∈ bq) : FirstL (AgH hp bp hq bq h) (some h) := by
  have kn : ∀ a ∈ bp, KnA h a := fun a ha y hy => by
    have := hT a ha y hy
    rcases Int.lt_or_le y 0 with h1 | h1
    · exact .inl h1
    · refine .inr (hS.done _ (by omega) (by omega) (varsB_bit.2 (List.mem_flatMap.2 ⟨a, ha, ?_⟩)))
      rwa [Int.toNat_of_nonneg h1]
  have hom : IsHom hp bp hq bq h := ⟨hS.len, fun i hi => by
    split
    · rename_i hb
      exact (hS.term i hi (hS.done i hi hi hb)).2
    · rename_i hb
      exact Classical.byContradiction fun hn => hb (hS.term i hi hn).1, fun a ha => hat a ha (kn a ha), hS.head⟩
  refine ⟨⟨hom, fun _ _ _ => rfl⟩, fun g hg => ?_⟩
  have : h = g := vals_ext hS.len hg.1.len fun i hi => by
    by_cases hb : (varsB bp).testBit i = true
    · exact (hg.2 i hi (hS.done i hi hi hb)).symm
    · have h1 := hom.occ i hi
      have h2 := hg.1.occ i hi
      rw [if_neg hb] at h1 h2
      rw [h1, h2]
  rw [this, cmpL_self]
  omega
theorem getD_set' {l : List Int} {k i : Nat} (hk : k < l.length) (y : Int) : (l.set k y).getD i 0 = if i = k then y else l.getD i 0 := getD_set l hk y
/-- A variable is given a term. -/
theorem StH.put {x : Nat} {t : Int} (hS : StH hp bp hq x h) (hx : x < 8) (hb : (varsB bp).testBit x = true) (h0 : h.getD x 0 = 99) (ht : -9 ≤ t ∧ t ≤ 7) (hqt : ∀ k, k < hp.length → hq.getD k 0 ≤ 7) : StH hp bp hq (x + 1) (h.set x t) := by
  have hl := hS.len
  have gs : ∀ i, (h.set x t).getD i 0 = if i = x then t else h.getD i 0 := fun i => getD_set h (by omega) t
  refine ⟨by simpa using hl, fun i hi hn => ?_, fun i hi hi8 hbi => ?_, fun k hk => ?_⟩
  · rw [gs] at hn ⊢
    by_cases e : i = x
    · subst e; simp only [if_true]; exact ⟨hb, ht⟩
    · rw [if_neg e] at hn ⊢; exact hS.term i hi hn
  · rw [gs]
    by_cases e : i = x
    · rw [if_pos e]; omega
    · rw [if_neg e]; exact hS.done i (by omega) hi8 hbi
  · rw [gs]
    have h1 := hS.head k hk
    by_cases e : (hp[k]).toNat = x
    · rw [e, h0] at h1
      have := hqt k hk
      omega
    · rw [if_neg e]; exact h1
theorem AgH.set {x : Nat} {t : Int} (hl : h.length = 8) (hx : x < 8) (h0 : h.getD x 0 = 99) : AgH hp bp hq bq (h.set x t) g → t ≠ 99 → AgH hp bp hq bq h g ∧ g.getD x 0 = t := fun ⟨h1, h2⟩ ht => by
  have gs : ∀ i, (h.set x t).getD i 0 = if i = x then t else h.getD i 0 := fun i => getD_set h (by omega) t
  refine ⟨⟨h1, fun i hi hn => ?_⟩, ?_⟩
  · have hne : i ≠ x := fun e => hn (e ▸ h0)
    have := h2 i hi (by rw [gs, if_neg hne]; exact hn)
    rwa [gs, if_neg hne] at this
  · have := h2 x hx (by rw [gs, if_pos rfl]; exact ht)
    rwa [gs, if_pos rfl] at this
theorem AgH.put {x : Nat} (hl : h.length = 8) (hx : x < 8) (hg : AgH hp bp hq bq h g) : AgH hp bp hq bq (h.set x (g.getD x 0)) g := by
  have gs : ∀ i, (h.set x (g.getD x 0)).getD i 0 = if i = x then g.getD x 0 else h.getD i 0 := fun i => getD_set h (by omega) _
  refine ⟨hg.1, fun i hi hn => ?_⟩
  rw [gs] at hn ⊢
  by_cases e : i = x
  · subst e; rw [if_pos rfl]
  · rw [if_neg e] at hn ⊢
    exact hg.2 i hi hn
/-- Terms are tried from the least one on. -/
theorem first_some {x : Nat} {t : Int} {r : List Int} (hS : StH hp bp hq x h) (hx : x < 8) (hb : (varsB bp).testBit x = true) (h0 : h.getD x 0 = 99) (ht : -9 ≤ t ∧ t ≤ 7) (hno : ∀ t', -9 ≤ t' → t' < t → FirstL (AgH hp bp hq bq (h.set x t')) none) (hr : FirstL (AgH hp bp hq bq (h.set x t)) (some r)) : FirstL (AgH hp bp hq bq h) (some r) := by
  have hl := hS.len
  obtain ⟨hr1, hr2⟩ := hr
  obtain ⟨hr3, hr4⟩ := hr1.set hl hx h0 (by omega)
  refine ⟨hr3, fun g hg => ?_⟩
  have hgt := hg.1.occ x hx
  rw [if_pos hb] at hgt
  rcases Int.lt_trichotomy (g.getD x 0) t with h1 | h1 | h1
  · exact absurd (hg.put hl hx) (hno _ hgt.1 h1 g)
  · exact hr2 g (h1 ▸ hg.put hl hx)
  · have hrl := hr3.1.len
    have hgl := hg.1.len
    have e1 : r.getD x 0 = r[x] := by simp [List.getD, hrl, hx]
    have e2 : g.getD x 0 = g[x] := by simp [List.getD, hgl, hx]
    have := cmpL_at (g := r) (h := g) (x := x) (by omega) (by omega) (take_ext (by omega) (by omega) fun i hi => by
      by_cases hbi : (varsB bp).testBit i = true
      · have hk := hS.done i hi (by omega) hbi
        rw [hr3.2 i (by omega) hk, hg.2 i (by omega) hk]
      · have a1 := hr3.1.occ i (by omega)
        have a2 := hg.1.occ i (by omega)
        rw [if_neg hbi] at a1 a2
        rw [a1, a2]) (by omega)
    omega
theorem first_none {x : Nat} (hS : StH hp bp hq x h) (hx : x < 8) (hb : (varsB bp).testBit x = true) (hno : ∀ t', -9 ≤ t' → t' ≤ 7 → FirstL (AgH hp bp hq bq (h.set x t')) none) : FirstL (AgH hp bp hq bq h) none := fun g hg => by
  have hgt := hg.1.occ x hx
  rw [if_pos hb] at hgt
  exact hno _ hgt.1 hgt.2 g (hg.put hS.len hx)
theorem StH.skip {x y : Nat} (hS : StH hp bp hq x h) (hxy : ∀ i, x ≤ i → i < y → i < 8 → (varsB bp).testBit i = true → h.getD i 0 ≠ 99) : StH hp bp hq y h := ⟨hS.len, hS.term, fun i hi hi8 hb => by
  rcases Nat.lt_or_ge i x with h1 | h1
  · exact hS.done i h1 hi8 hb
  · exact hxy i h1 hi hi8 hb, hS.head⟩
end
/-! ## The program's search -/
structure HomEnv (w0 w1 : World) (g : Nat) (bpv bqv : Value) (bp bq : List Atm) (q1 q2 q3 q4 q5 : Addr) : Prop where
  c1 : w1.cell? (Addr.add q1 1) = some bpv
  c3 : w1.cell? (Addr.add q3 1) = some bqv
  c2 : w1.cell? q2 = some (.slice (some ⟨g, 0, none⟩) 8 8)
  c4 : w1.cell? q4 = some (.int .i64 (varsB bp : Nat))
  c5 : w1.cell? q5 = some (.func (.func 96) #[] #[.pointer (some q1), .pointer (some q2), .pointer (some q3), .pointer (some q4), .pointer (some q5)])
  n1 : q1.block ≠ g
  n2 : q2.block ≠ g
  n3 : q3.block ≠ g
  n4 : q4.block ≠ g
  n5 : q5.block ≠ g
  sp : SlA w0 bpv bp
  sq : SlA w0 bqv bq
  gr : Grow w0 w1
  hg : w0.heap.size ≤ g
abbrev OwnH (w : World) (g : Nat) (h : List Int) : Prop := OwnI w g (.slice (some ⟨g, 0, none⟩) 8 8) h
theorem try_c {w0 w1 : World} {g : Nat} {bpv bqv : Value} {hp hq : List Int} {bp bq : List Atm} {q1 q2 q3 q4 q5 : Addr} (E : HomEnv w0 w1 g bpv bqv bp bq q1 q2 q3 q4 q5) (okp : okQ hp bp = true) (okq : okQ hq bq = true) (hlen : hp.length = hq.length) : ∀ (n x : Nat) (h : List Int) (w : World), x ≤ 8 → 8 - x ≤ n → Fr (fun k => k = g) w1 w → OwnH w g h → StH hp bp hq x h →
    Calls Try.prog 96 #[.int .i64 (x : Int), .pointer (some q1), .pointer (some q2), .pointer (some q3), .pointer (some q4), .pointer (some q5)] w fun e w' => ∃ (b : Bool) (h' : List Int), e = .returned (.bool b) ∧ Fr (fun k => k = g) w w' ∧ OwnH w' g h' ∧ (if b = true then FirstL (AgH hp bp hq bq h) (some h') else h' = h ∧ FirstL (AgH hp bp hq bq h) none) := by
  intro n
  induction n using Nat.strongRecOn with
  | ind n IH =>
  intro x h w hx hn hf how hS
  have hT := okB_term okp
  have obp : ∀ a ∈ bp, okA a = true := fun a ha => by
    simp only [okQ, Bool.and_eq_true, List.all_eq_true] at okp
    exact okp.1.2 a ha
  have hbl := okQ_len okp
  have hhq := okQ_head okq
  have hqt : ∀ k, k < hp.length → hq.getD k 0 ≤ 7 := fun k hk => by
    have hk2 : k < hq.length := by omega
    have := hhq _ (List.getElem_mem hk2)
    simp only [List.getD, List.getElem?_eq_getElem hk2, Option.getD_some]
    omega
  have g0 : ∀ {w' : World}, Fr (fun k => k = g) w1 w' → Grow w0 w' := fun hf => E.gr.fr hf fun i hi e => by have := E.hg; omega
  have cell : ∀ {w' : World} {a : Addr} {v : Value}, w1.cell? a = some v → a.block ≠ g → Fr (fun k => k = g) w1 w' → w'.cell? a = some v := fun {w' a v} hc hne hf => hf.cell hc hne
  have hgw : g < w.heap.size := (Own.lt how rfl).2
  refine f96_calls _ _ _ _ _ _ ?_
  refine ⟨bpv, cell E.c1 (by rw [add_block]; exact E.n1) hf, SlX.ln (SlA.gr E.sp (g0 hf)) ?_⟩
  refine ⟨fun t w' => ∃ k : Nat, t = k ∧ k ≤ bp.length ∧ (∀ a ∈ bp.take k, KnA h a → imgH h a ∈ bq) ∧ Grow w w', fun t _ => bp.length - t.toNat, ⟨0, rfl, by omega, by simp, Grow.refl _⟩, ?_⟩
  rintro - t w9 ⟨k, rfl, hk, hat, g9⟩
  have hf9 : Fr (fun k => k = g) w1 w9 := hf.trans (Fr.of_grow g9)
  have ho9 : OwnH w9 g h := Own.grow how g9
  refine condD (fun hlt => ?_) (fun hge => ?_)
  · have hkl : k < bp.length := by omega
    have hTa := hT _ (List.getElem_mem hkl)
    have hal := (okA_iff.1 (obp _ (List.getElem_mem hkl))).2.2.2.1
    refine SlX.loc (SlA.gr E.sp (g0 hf9)) rfl hkl rfl fun w15 u g15 s15 hu c0 c1 => ?_
    have hf15 := hf9.trans (Fr.of_grow g15)
    have hul := hu.len_le
    refine ⟨u, c1, hu.ln ⟨fun kn t w' => ∃ j : Nat, t = j ∧ j ≤ bp[k].2.length ∧ (kn = true ↔ ∀ y ∈ bp[k].2.take j, y < 0 ∨ h.getD y.toNat 0 ≠ 99) ∧ w' = w15, fun _ t _ => bp[k].2.length - t.toNat, ⟨0, rfl, by omega, by simp, rfl⟩, ?_⟩⟩
    rintro - kn t w26 ⟨j, rfl, hj, hkn, rfl⟩
    have hI : SlI w26 (.slice (some ⟨g, 0, none⟩) 8 8) h := Own.slI (Own.grow ho9 g15)
    have hl8 := hS.len
    refine condD (fun hlt2 => ?_) (fun hge2 => ?_)
    · have hjl : j < bp[k].2.length := by omega
      have hy := hTa _ (List.getElem_mem hjl)
      have step : ∀ {b' : Bool}, (b' = true ↔ (kn = true ∧ (bp[k].2[j] < 0 ∨ h.getD (bp[k].2[j]).toNat 0 ≠ 99))) → inR ((j : Int) + 1) ∧ ((∃ j' : Nat, (j : Int) + 1 = j' ∧ j' ≤ bp[k].2.length ∧ (b' = true ↔ ∀ y ∈ bp[k].2.take j', y < 0 ∨ h.getD y.toNat 0 ≠ 99) ∧ w26 = w26) ∧ bp[k].2.length - Int.toNat ((j : Int) + 1) < bp[k].2.length - Int.toNat (j : Int)) := fun {b'} hb' => ⟨by unfold inR; omega, ⟨j + 1, by omega, by omega, by
        rw [hb', hkn, List.take_succ_eq_append_getElem hjl]
        constructor
        · rintro ⟨a1, a2⟩ y hy
          rcases List.mem_append.1 hy with hy | hy
          · exact a1 y hy
          · obtain rfl : y = bp[k].2[j] := by simpa using hy
            exact a2
        · intro a
          exact ⟨fun y hy => a y (List.mem_append.2 (.inl hy)), a _ (List.mem_append.2 (.inr (List.mem_singleton.2 rfl)))⟩, rfl⟩, by omega⟩
      refine hu.rd rfl hjl (condP_i (fun hk1 => condD (fun hneg => step ?_) fun hpos => ?_) fun hk1 => step ?_)
      · simp [hk1, hneg]
      · have hyl : (bp[k].2[j]).toNat < h.length := by omega
        refine ⟨_, cell E.c2 E.n2 hf15, hI.rd (i := (bp[k].2[j]).toNat) (by omega) hyl (step ?_)⟩
        have : h.getD (bp[k].2[j]).toNat 0 = h[(bp[k].2[j]).toNat] := by simp [List.getD, hyl]
        rw [this]
        simp [hk1, hpos]
      · simp [hk1]
    · have hjl : j = bp[k].2.length := by omega
      subst hjl
      rw [List.take_length] at hkn
      refine condP_i (fun hk1 => ?_) fun hk1 => ?_
      · have hkA : KnA h bp[k] := hkn.1 hk1
        refine ⟨bqv, cell E.c3 (by rw [add_block]; exact E.n3) hf15, (containsAtom_c (p := fun b => decide (imgH h bp[k] = b)) (SlA.gr E.sq (g0 hf15)) ⟨_, #[], #[_, _], rfl, by kernel_rfl, fun a ha w' u2 g' hu2 => ?_⟩).mono ?_⟩
        · exact homEq2_c (a := bp[k]) (g'.cell c0) (g'.cell c1) (hu.grow g') (g'.cell (cell E.c2 E.n2 hf15)) (hI.grow g') (fun x hx => by have := hTa x hx; omega) (by omega) hu2
        · rintro e w37 ⟨rfl, g37⟩
          rw [any_img]
          refine ⟨_, rfl, condP_i (fun h5 => ?_) fun h5 => ?_⟩
          · have h5 : ¬ imgH h bp[k] ∈ bq := by rw [Bool.not_eq_true'] at h5; exact of_decide_eq_false h5
            refine ⟨false, h, rfl, Fr.of_grow ((g9.trans g15).trans g37), Own.grow ho9 (g15.trans g37), ?_⟩
            rw [if_neg (by simp)]
            exact ⟨rfl, none_of_atom hT (List.getElem_mem hkl) hkA h5⟩
          · have h5 : imgH h bp[k] ∈ bq := by rw [Bool.not_eq_false'] at h5; exact of_decide_eq_true h5
            refine ⟨by unfold inR; omega, ⟨k + 1, by omega, by omega, fun a ha hka => ?_, (g9.trans g15).trans g37⟩, by dsimp only; omega⟩
            rw [List.take_succ_eq_append_getElem hkl] at ha
            rcases List.mem_append.1 ha with ha | ha
            · exact hat a ha hka
            · obtain rfl : a = bp[k] := by simpa using ha
              exact h5
      · refine ⟨by unfold inR; omega, ⟨k + 1, by omega, by omega, fun a ha hka => ?_, g9.trans g15⟩, by dsimp only; omega⟩
        rw [List.take_succ_eq_append_getElem hkl] at ha
        rcases List.mem_append.1 ha with ha | ha
        · exact hat a ha hka
        · obtain rfl : a = bp[k] := by simpa using ha
          rw [hkn.2 hka] at hk1
          cases hk1
  · have hkl : k = bp.length := by omega
    subst hkl
    rw [List.take_length] at hat
    have hl8 := hS.len
    have hI : SlI w9 (.slice (some ⟨g, 0, none⟩) 8 8) h := Own.slI ho9
    have c2 := cell E.c2 E.n2 hf9
    have c4 := cell E.c4 E.n4 hf9
    refine ⟨fun y w' => ∃ y' : Nat, y = y' ∧ y' ≤ 8 ∧ x ≤ y' ∧ StH hp bp hq y' h ∧ w' = w9 ∧ (y' < 8 → (varsB bp).testBit y' = true ∧ h.getD y' 0 = 99), ⟨fun y w' => ∃ y' : Nat, y = y' ∧ y' ≤ 8 ∧ x ≤ y' ∧ StH hp bp hq y' h ∧ w' = w9, fun y _ => 8 - y.toNat, ⟨x, rfl, hx, Nat.le_refl _, hS, rfl⟩, ?_⟩, ?_⟩
    · rintro - y w46 ⟨y', rfl, hy8, hxy, hSy, rfl⟩
      refine condD (fun hlt => ?_) (fun hge => ⟨y', rfl, hy8, hxy, hSy, rfl, fun h => by omega⟩)
      have hyl : y' < h.length := by omega
      have hgy : h.getD y' 0 = h[y'] := by simp [List.getD, hyl]
      have go : (h.getD y' 0 ≠ 99 ∨ (varsB bp).testBit y' = false) → inR ((y' : Int) + 1) ∧ ((∃ y'' : Nat, (y' : Int) + 1 = y'' ∧ y'' ≤ 8 ∧ x ≤ y'' ∧ StH hp bp hq y'' h ∧ w46 = w46) ∧ 8 - Int.toNat ((y' : Int) + 1) < 8 - Int.toNat (y' : Int)) := fun ho => by
        have hS2 : StH hp bp hq (y' + 1) h := hSy.skip fun i hi hi2 _ hb => by
          have : i = y' := by omega
          subst this
          rcases ho with ho | ho
          · exact ho
          · rw [ho] at hb; cases hb
        exact ⟨by unfold inR; omega, ⟨y' + 1, by omega, by omega, by omega, hS2, rfl⟩, by omega⟩
      refine ⟨_, c4, by omega, condD (fun hz => go (.inr ((bit_zero (by omega)).1 hz))) fun hz => ?_⟩
      refine ⟨_, c2, hI.rd rfl hyl (condP_i (fun h9 => go (.inl ?_)) fun h9 => ?_)⟩
      · rw [hgy]; simpa using h9
      · refine ⟨y', rfl, hy8, hxy, hSy, rfl, fun _ => ⟨?_, ?_⟩⟩
        · rw [bit_zero (by omega)] at hz
          simpa using hz
        · rw [hgy]; simpa using h9
    · rintro - y w54 ⟨y, rfl, hy8, hxy, hSy, rfl, hfree⟩
      refine condD (fun h8 => ?_) (fun hne => ?_)
      · have : y = 8 := by omega
        subst this
        refine ⟨true, h, rfl, Fr.of_grow g9, ho9, ?_⟩
        rw [if_pos rfl]
        exact first_all hT hSy hat
      · have hy : y < 8 := by omega
        obtain ⟨hb, h0⟩ := hfree hy
        have ay : ∀ {t : Int}, Addr.add ⟨g, 0, none⟩ (Int.toNat (y : Int) * 1) = ⟨g, y, none⟩ := fun {_} => by rw [Int.toNat_natCast, Nat.mul_one, Addr.add0]
        refine ⟨fun t w' => ∃ c : Int, -9 ≤ t ∧ t ≤ 8 ∧ Fr (fun k => k = g) w54 w' ∧ OwnH w' g (h.set y c) ∧ ∀ t', -9 ≤ t' → t' < t → FirstL (AgH hp bp hq bq (h.set y t')) none, fun t _ => (8 - t).toNat, ⟨99, by omega, by omega, Fr.refl _ _, by
          rw [set_same (by omega) h0]; exact ho9, fun t' h1 h2 => by omega⟩, ?_⟩
        rintro - t w59 ⟨c, ht1, ht2, hf59, ho59, hno⟩
        have hf159 := hf9.trans hf59
        have hln : (h.set y c).length = 8 := by simpa using hl8
        have ho59' : Own w59 g 3 1 (.slice (some ⟨g, 0, none⟩) 8 8) 8 ((h.set y c).map VC.encI) := by
          have h9 : Own w59 g 3 1 (.slice (some ⟨g, 0, none⟩) 8 8) (h.set y c).length ((h.set y c).map VC.encI) := ho59
          rwa [hln] at h9
        have put : ∀ {t : Int} {w64 : World}, w64 = w59.setCell ⟨g, y, none⟩ (.int .i64 t) → OwnH w64 g (h.set y t) := fun {t w64} hw => by
          have h9 := Own.set ho59' hy hw
          have e : ((h.set y c).map VC.encI).set y (Value.int .i64 t) = (h.set y t).map VC.encI := by
            rw [show Value.int .i64 t = VC.encI t from rfl, ← List.map_set, List.set_set]
          rw [e] at h9
          show Own w64 g 3 1 (.slice (some ⟨g, 0, none⟩) 8 8) (h.set y t).length ((h.set y t).map VC.encI)
          rw [show (h.set y t).length = 8 by simpa using hl8]
          exact h9
        refine condD (fun hlt => ?_) (fun hge => ?_)
        · refine ⟨_, cell E.c2 E.n2 hf159, ⟨g, 0, none⟩, 8, 8, rfl, ⟨by omega, by omega⟩, ?_⟩
          rw [ay (t := t)]
          refine ⟨(Own.wr ho59' hy).1, (Own.wr ho59' hy).2, fun w64 hw64 => ?_⟩
          have hf64 : Fr (fun k => k = g) w54 w64 := hf59.trans (set_fr hw64)
          have hf164 := hf9.trans hf64
          refine ⟨_, cell E.c5 E.n5 hf164, by unfold inR; omega, _, #[], _, rfl, by kernel_rfl, ?_⟩
          have hSt := hSy.put hy hb h0 (t := t) (by omega) hqt
          have e1 : (y : Int) + 1 = ((y + 1 : Nat) : Int) := by omega
          rw [e1]
          refine (IH (8 - (y + 1)) (by omega) (y + 1) (h.set y t) w64 (by omega) (by omega) hf164 (put hw64) hSt).mono ?_
          rintro e w66 ⟨b, h', rfl, hf66, ho66, hb66⟩
          refine ⟨_, rfl, condP_i (fun hbt => ?_) fun hbf => ?_⟩
          · subst hbt
            rw [if_pos rfl] at hb66
            refine ⟨true, h', rfl, (Fr.of_grow g9).trans (hf64.trans hf66), ho66, ?_⟩
            rw [if_pos rfl]
            exact first_some hSy hy hb h0 (by omega) hno hb66
          · subst hbf
            rw [if_neg (by simp)] at hb66
            obtain ⟨rfl, hnone⟩ := hb66
            refine ⟨by unfold inR; omega, ⟨t, by omega, by omega, hf64.trans hf66, ho66, fun t' h1 h2 => ?_⟩, by dsimp only; omega⟩
            rcases Int.lt_or_le t' t with h3 | h3
            · exact hno t' h1 h3
            · have : t' = t := by omega
              subst this; exact hnone
        · have ht8 : t = 8 := by omega
          subst ht8
          refine ⟨_, cell E.c2 E.n2 hf159, ⟨g, 0, none⟩, 8, 8, rfl, ⟨by omega, by omega⟩, ?_⟩
          rw [ay (t := 99)]
          refine ⟨(Own.wr ho59' hy).1, (Own.wr ho59' hy).2, fun w76 hw76 => ⟨false, h, rfl, (Fr.of_grow g9).trans (hf59.trans (set_fr hw76)), ?_, ?_⟩⟩
          · have := put hw76
            rwa [set_same (by omega) h0] at this
          · rw [if_neg (by simp)]
            exact ⟨rfl, first_none hSy hy hb fun t' h1 h2 => hno t' h1 (by omega)⟩
end Go.Proofs.Ytjkphmbjdleppaa
